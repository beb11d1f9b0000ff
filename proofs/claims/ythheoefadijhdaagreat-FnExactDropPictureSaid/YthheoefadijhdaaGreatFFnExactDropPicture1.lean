/- What functions of the program come to on the abstract machine, and that they do so; printed by a program of mine around proofs of mine. -/
import Derived.Test.YthheoefadijhdaaGreatFFnExactDropPicture0
set_option linter.unusedVariables false
set_option linter.unusedSimpArgs false
set_option linter.defProp false
set_option maxRecDepth 100000
set_option maxHeartbeats 1000000
namespace Go.Proofs.YthheoefadijhdaaGreat.Ai
open Go
attribute [local irreducible] z5y z1a
theorem z17z {W H y:Int} (L:LN) (h0:0≤y) (h2:1≤W) (h3:W≤16) (h4:H≤16):(y<H→0≤y*W∧y*W≤(y+1)*W∧(y+1)*W=y*W+W∧(y+1)*W≤W*H∧W*H≤256)∧(List.take ((y+1)*W-y*W).toNat (List.drop (y*W).toNat L)).length≤((y+1)*W-y*W).toNat:=by
 refine ⟨fun h1=>?_,List.length_take_le _ _⟩
 have a:0≤y*W:=Int.mul_nonneg h0 ω2
 have b:(y+1)*W=y*W+W:=by rw [Int.add_mul,Int.one_mul]
 have c:(y+1)*W≤H*W:=Int.mul_le_mul_of_nonneg_right ω2 ω2
 have d:W*H≤16*16:=Int.mul_le_mul ω2 ω2 ω2 ω23
 have e:H*W=W*H:=Int.mul_comm _ _
 refine ⟨a,by omega,b,by omega,by omega⟩
def z3d (aa:LN) (fa:Nat) (da sa:Int) (ba:LN):Nat→Bool→Int→Int→Int→Int→Int→LN→Int×Int×LN×Bool
 | 0,_,_,_,_,_,_,_=>(0,0,[],false)
 | μ+1,t5,y,q1_1,q1_2,q1_4,q1_5,q1_6=>(bif decide ((y:Int)<sa) then (bif !((z6h aa fa (((((((ba).drop ((y*da):Int).toNat).take ((((y+1)*da):Int)-(y*da)).toNat)).drop (0:Int).toNat).take (((Int.tdiv (da+1) 2):Int)-0).toNat)) (((((((ba).drop ((y*da):Int).toNat).take ((((y+1)*da):Int)-(y*da)).toNat)).drop ((Int.tdiv (da+1) 2):Int).toNat).take (((((((y+1)*da):Int)-(y*da)).toNat:Int):Int)-(Int.tdiv (da+1) 2)).toNat))).2) then ((0:Int),(0:Int),[],false) else (z3d aa fa da sa ba μ t5 (y+1) q1_1 q1_2 q1_4 q1_5 ((q1_6++(z6h aa fa (((((((ba).drop ((y*da):Int).toNat).take ((((y+1)*da):Int)-(y*da)).toNat)).drop (0:Int).toNat).take (((Int.tdiv (da+1) 2):Int)-0).toNat)) (((((((ba).drop ((y*da):Int).toNat).take ((((y+1)*da):Int)-(y*da)).toNat)).drop ((Int.tdiv (da+1) 2):Int).toNat).take (((((((y+1)*da):Int)-(y*da)).toNat:Int):Int)-(Int.tdiv (da+1) 2)).toNat))).1)))) else (q1_4,q1_5,q1_6,true))
def za9:=fun aa fa da sa ba μ t5 y q1_1 q1_2 q1_4 q1_5 q1_6=>@z3d.eq_2 aa fa da sa ba t5 y q1_1 q1_2 q1_4 q1_5 q1_6 μ
def z2m (aa:LN) (fa:Nat) (da sa:Int) (ba:LN):Int×Int×LN×Bool:=(z3d aa fa da sa ba (Int.toNat (sa-(0:Int))+1) false (0:Int) 0 0 da sa ([]:LN))
def ze1:=@z2m.eq_1
def znd (s p:Nat) (H:zq) (K:Int→Int→OA→Nat→Nat→Bool→zq→Prop):Prop:=∃(bb:OA),∃(jb nb fa:Nat),∃(da sa:Int),∃(db:OA),∃(ib pb:Nat),∃(aa ba:LN),rdN H s 0 2=some [.slice bb jb nb,.float .f32 fa]∧rdN H p 0 3=some [.int .i64 da,.int .i64 sa,.slice db ib pb]∧IsL fF H bb jb aa∧IsL fF H db ib ba∧aa.length<1073741824∧ba.length<1073741824∧1≤da∧da≤16∧1≤sa∧sa≤16∧(ba.length:Int)=da*sa∧((∀(ja:OA) (oa ma:Nat),∀H':zq,Grow H H'→OwnS fF H' H.length ja oa ma ((z2m aa fa da sa ba).2.2.1)→K ((z2m aa fa da sa ba).1) ((z2m aa fa da sa ba).2.1) ja oa ma ((z2m aa fa da sa ba).2.2.2) H'))
theorem zz9 {s p:Nat} {H:zq} {K:Int→Int→OA→Nat→Nat→Bool→zq→Prop} (h:∃(bb:OA),∃(jb nb fa:Nat),∃(da sa:Int),∃(db:OA),∃(ib pb:Nat),∃(aa ba:LN),rdN H s 0 2=some [.slice bb jb nb,.float .f32 fa]∧rdN H p 0 3=some [.int .i64 da,.int .i64 sa,.slice db ib pb]∧IsL fF H bb jb aa∧IsL fF H db ib ba∧aa.length<1073741824∧ba.length<1073741824∧1≤da∧da≤16∧1≤sa∧sa≤16∧(ba.length:Int)=da*sa∧((∀(ja:OA) (oa ma:Nat),∀H':zq,Grow H H'→OwnS fF H' H.length ja oa ma ((z2m aa fa da sa ba).2.2.1)→K ((z2m aa fa da sa ba).1) ((z2m aa fa da sa ba).2.1) ja oa ma ((z2m aa fa da sa ba).2.2.2) H'))):znd s p H K:=h
theorem zxm {l:LN} {W Hi y:Int} (h1:1≤W) (hl:(l.length:Int)=W*Hi) (h0:0≤y) (hy:y<Hi):(((((l).drop ((y*W):Int).toNat).take ((((y+1)*W):Int)-(y*W)).toNat)).length:Int)=W:=by
 have e2:(y+1)*W=y*W+W:=by rw [Int.add_mul,Int.one_mul]
 have s1:0≤y*W:=Int.mul_nonneg ω2 ω2
 have s3:(y+1)*W≤(l.length:Int):=by
  rw [hl,Int.mul_comm]
  exact Int.mul_le_mul_of_nonneg_left ω2 ω2
 rw [List.length_take,List.length_drop]
 omega
theorem zbs (ws:LN) (sc:Nat) (W Hi:Int) (l:LN) (h1:1≤W) (hl:(l.length:Int)=W*Hi):∀(μ:Nat) (t5:Bool) (y q1 q2 q4 q5:Int) (q6:LN),0≤y→y≤Hi→(z3d ws sc W Hi l μ t5 y q1 q2 q4 q5 q6).2.2.2=true→
  (z3d ws sc W Hi l μ t5 y q1 q2 q4 q5 q6).1=q4∧(z3d ws sc W Hi l μ t5 y q1 q2 q4 q5 q6).2.1=q5∧((z3d ws sc W Hi l μ t5 y q1 q2 q4 q5 q6).2.2.1.length:Int)=q6.length+(Hi-y)*W:=by
 intro μ
 induction μ with
 | zero=>intro t5 y q1 q2 q4 q5 q6 _ _ h;simp [z3d] at h
 | succ μ ih=>
  intro t5 y q1 q2 q4 q5 q6 h0 hy h
  rw [za9] at h ⊢
  by_cases c:y<Hi
  ·have hr:=zxm (l:=l) h1 hl h0 c
   have e1:(((((y+1)*W):Int)-(y*W)).toNat:Int)=W:=by
    have e2:(y+1)*W=y*W+W:=by rw [Int.add_mul,Int.one_mul]
    omega
   have hh:Int.tdiv (W+1) 2=(W+1) / 2:=Int.tdiv_eq_ediv_of_nonneg ω2
   rw [decide_eq_true c] at h ⊢
   simp only [cond_true] at h ⊢
   rw [e1] at h ⊢
   generalize ((((l).drop ((y*W):Int).toNat).take ((((y+1)*W):Int)-(y*W)).toNat))=r at *
   generalize hA:List.take (((Int.tdiv (W+1) 2):Int)-0).toNat (List.drop (0:Int).toNat r)=A at *
   generalize hB:List.take (W-(Int.tdiv (W+1) 2)).toNat (List.drop ((Int.tdiv (W+1) 2):Int).toNat r)=B at *
   have lA:(A.length:Int)=(W+1) / 2:=by rw [←hA,List.length_take,List.length_drop];omega
   have lB:(B.length:Int)=W-(W+1) / 2:=by rw [←hB,List.length_take,List.length_drop];omega
   cases hg:(z6h ws sc A B).2 with
   | false=>rw [hg] at h;simp at h
   | true=>
    obtain ⟨g1,_⟩:=zgp ws sc A B hg
    have g3:=zd8 ws sc A B
    rw [hg] at h
    simp only [Bool.not_true,cond_false] at h ⊢
    obtain ⟨b1,b2,b3⟩:=ih t5 (y+1) q1 q2 q4 q5 _ ω2 ω2 h
    refine ⟨b1,b2,b3.trans ?_⟩
    rw [List.length_append,g1]
    have e3:(Hi-(y+1))*W=(Hi-y)*W-W:=by rw [show Hi-(y+1)=(Hi-y)-1 by omega,Int.sub_mul,Int.one_mul]
    omega
  ·rw [decide_eq_false c,cond_false]
   refine ⟨rfl,rfl,?_⟩
   rw [show Hi-y=0 by omega,Int.zero_mul];show (q6.length:Int)=_;omega
theorem zf8 {ws:LN} {sc:Nat} {W Hi:Int} {l:LN} (h1:1≤W) (h3:1≤Hi) (hl:(l.length:Int)=W*Hi) (h:(z2m ws sc W Hi l).2.2.2=true):(z2m ws sc W Hi l).1=W∧(z2m ws sc W Hi l).2.1=Hi∧((z2m ws sc W Hi l).2.2.1.length:Int)=W*Hi:=by
 rw [ze1] at h ⊢
 obtain ⟨a,b,c⟩:=zbs ws sc W Hi l h1 hl _ _ _ _ _ _ _ _ ω2 ω2 h
 refine ⟨a,b,c.trans ?_⟩
 rw [show Hi-0=Hi by omega,Int.mul_comm];simp
/-! f15z: function 151 -/
def z9v:Env:=envOf [(167,S_fhz)]
def z14x (args:List Value) (H:zq):(Value→zq→Prop)→Prop:=match args with
 | [.pointer (some ⟨s,0,none⟩),.pointer (some ⟨p,0,none⟩)]=>fun K=>znd s p H fun (sd:Int) (pd:Int) (ja:OA) (oa:Nat) (ma:Nat) (r2:Bool) (H':zq)=>K (.tuple #[.agg #[.int .i64 sd,.int .i64 pd,.slice ja oa ma],.bool r2]) H'
 | _=>fun _=>False
def z16f:FSpec:={F:=z14x,quiet:=false,tame:=true}
theorem f15z_vc (s p:Nat) (H:zq) (K:KT):z1a Tryz.prog z9v Tryz.f151 [.pointer (some ⟨s,0,none⟩),.pointer (some ⟨p,0,none⟩)] H K=
 (Al [.int .i64 0,.int .i64 0,.slice none 0 0] H fun b1 H1=>∃x1:Int,  rdC H1 p 1=some (.int .i64 x1)∧∃x2:Int,  rdC H1 p 0=some (.int .i64 x2)∧Al [] H1 fun b2 H2=>Al [.int .i64 0,.int .i64 0,.slice none 0 0] H2 fun b3 H3=>isOwn H3 b3∧(∃l,rdN H3 b3 0 3=some l)∧Lt (setN H3 b3 0 [.int .i64 x2,.int .i64 x1,.slice (some ⟨b2,0,none⟩) 0 1]) fun H4=>∃x3:Int,  rdC H4 p 0=some (.int .i64 x3)∧2≠(0:Int)∧z1j (exL Tryz.prog z9v (cl (cl (cr (cl (cr (cr (cr (zr Tryz.f151)))))))) 467 48 [(0,80)]) (.pointer (some ⟨s,0,none⟩)::.pointer (some ⟨p,0,none⟩)::ud2 (.pointer (some ⟨b1,0,none⟩)::ud::.pointer (some ⟨b3,0,none⟩)::.int .i64 (IntKind.wrap .i64 (Int.tdiv (IntKind.wrap .i64 (x3+1)) 2))::.int .i64 0::ud65 [])) H4 (zx 0 (seqQ (exL Tryz.prog z9v (cr (cr (cr (cr (zr Tryz.f151))))) 48 48 []) (retK Tryz.prog Tryz.f151 K)))):=by kernel_rfl
abbrev f15z_P1 (b1 b3 p s:Nat) (z1_7 y:Int)  :List Value:=(.pointer (some ⟨s,0,none⟩)::.pointer (some ⟨p,0,none⟩)::ud2 (.pointer (some ⟨b1,0,none⟩)::ud::.pointer (some ⟨b3,0,none⟩)::.int .i64 z1_7::.int .i64 y::ud65 []))
theorem f15z_r1 (b1 b3 p s:Nat) (z1_7 y:Int)  (H:zq) (R:Post):exL Tryz.prog z9v (cl (cl (cr (cl (cr (cr (cr (zr Tryz.f151)))))))) 467 48 [(0,80)] (f15z_P1 b1 b3 p s z1_7 y) H R=
 (∃x4:Int,  rdC H p 1=some (.int .i64 x4)∧Br (decide ((y:Int)<x4)) (∃dj:OA,∃yi:Nat,∃sj:Nat,  rdC H p 2=some (.slice dj yi sj)∧∃x6:Int,  rdC H p 0=some (.int .i64 x6)∧∃x7:Int,  rdC H p 0=some (.int .i64 x7)∧(0:Int)≤IntKind.wrap .i64 (y*x6)∧IntKind.wrap .i64 (y*x6)≤IntKind.wrap .i64 ((IntKind.wrap .i64 (y+1))*x7)∧IntKind.wrap .i64 ((IntKind.wrap .i64 (y+1))*x7)≤(yi:Int)∧(0:Int)≤0∧0≤z1_7∧z1_7≤(((IntKind.wrap .i64 ((IntKind.wrap .i64 (y+1))*x7):Int)-IntKind.wrap .i64 (y*x6)).toNat:Int)∧(0:Int)≤z1_7∧z1_7≤(((IntKind.wrap .i64 ((IntKind.wrap .i64 (y+1))*x7):Int)-IntKind.wrap .i64 (y*x6)).toNat:Int)∧(((IntKind.wrap .i64 ((IntKind.wrap .i64 (y+1))*x7):Int)-IntKind.wrap .i64 (y*x6)).toNat:Int)≤(((IntKind.wrap .i64 ((IntKind.wrap .i64 (y+1))*x7):Int)-IntKind.wrap .i64 (y*x6)).toNat:Int)∧zzx s ((((dj:OA).map fun a=>⟨a.block,a.off+(IntKind.wrap .i64 (y*x6):Int).toNat*1,none⟩:OA)).map fun a=>⟨a.block,a.off+(0:Int).toNat*1,none⟩) (((z1_7:Int)-0).toNat) 0 ((((dj:OA).map fun a=>⟨a.block,a.off+(IntKind.wrap .i64 (y*x6):Int).toNat*1,none⟩:OA)).map fun a=>⟨a.block,a.off+(z1_7:Int).toNat*1,none⟩) ((((((IntKind.wrap .i64 ((IntKind.wrap .i64 (y+1))*x7):Int)-IntKind.wrap .i64 (y*x6)).toNat:Int):Int)-z1_7).toNat) 0 H fun (a1:OA) (r1:Nat) (r2:Nat) (r3:Bool) (H5:zq)=>Br (!r3) (isOwn H5 b1∧(∃l,rdN H5 b1 0 3=some l)∧Lt (setN H5 b1 0 [.int .i64 0,.int .i64 0,.slice none 0 0]) fun H6=>R .ret (ud4 (.pointer (some ⟨b1,0,none⟩)::.bool false::ud68 [])) H6) (∃tj:OA,∃uj:Nat,∃vk:Nat,  rdC H5 b3 2=some (.slice tj uj vk)∧∃o1 w1:List Value,ownB H5 tj uj vk 1=some o1∧rdS H5 a1 (r1*1)=some w1∧((tj:OA)=none→0<(r1:Nat))∧(uj:Nat)+r1<most∧Ap H5 (z2y H5 tj++[some ⟨o1++w1,true⟩]) fun b4 H7=>isOwn H7 b3∧(∃l,rdN H7 b3 2 1=some l)∧Lt (setC H7 b3 2 (.slice (some ⟨b4,0,none⟩) (uj+r1) 1)) fun H8=>R .normal (.pointer (some ⟨s,0,none⟩)::.pointer (some ⟨p,0,none⟩)::ud2 (.pointer (some ⟨b1,0,none⟩)::ud::.pointer (some ⟨b3,0,none⟩)::.int .i64 z1_7::.int .i64 (IntKind.wrap .i64 (y+1))::ud65 [])) H8)) (R (.exit 0) (ud4 (.pointer (some ⟨b1,0,none⟩)::ud::.pointer (some ⟨b3,0,none⟩)::ud67 [])) H)):=by kernel_rfl
def f15z_I1 (b1 b3 p s:Nat) (z1_7:Int) (Inv:Nat→Int→zq→Prop):Nat→List Value→zq→Prop:=fun μ tm H=>∃(y:Int),tm=(f15z_P1 b1 b3 p s z1_7 y)∧Inv μ y H
theorem f15z_L1 (b1 b3 p s:Nat) (z1_7:Int) {Q:Post} (Inv:Nat→Int→zq→Prop) (ν:Nat) (y:Int)  (H:zq) (h0:Inv ν y H)
  (hs:∀(μ:Nat) (y:Int)  (H:zq),Inv μ y H→exL Tryz.prog z9v (cl (cl (cr (cl (cr (cr (cr (zr Tryz.f151)))))))) 467 48 [(0,80)] (f15z_P1 b1 b3 p s z1_7 y) H (z1b (f15z_I1 b1 b3 p s z1_7 Inv) μ Q)):z1j (exL Tryz.prog z9v (cl (cl (cr (cl (cr (cr (cr (zr Tryz.f151)))))))) 467 48 [(0,80)]) (f15z_P1 b1 b3 p s z1_7 y) H Q:=
 ⟨f15z_I1 b1 b3 p s z1_7 Inv,ν,⟨y,rfl,h0⟩,fun μ tm H h=>by obtain ⟨y,rfl,hI⟩:=h;exact hs μ y  H hI⟩
theorem f15z_n1 {b1 b3 p s:Nat} {z1_7:Int} {Q:Post} {Inv:Nat→Int→zq→Prop} {μ:Nat} (μ':Nat) {y:Int}  {H:zq} (hm:μ'<μ) (hI:Inv μ' y H):z1b (f15z_I1 b1 b3 p s z1_7 Inv) μ Q .normal (f15z_P1 b1 b3 p s z1_7 y) H:=⟨μ',hm,y,rfl,hI⟩
theorem f15z_x1_0 (b1 b3:Nat) (H:zq) (K:KT)  {I:Nat→List Value→zq→Prop} {μ:Nat}:z1b I μ (zx 0 (seqQ (exL Tryz.prog z9v (cr (cr (cr (cr (zr Tryz.f151))))) 48 48 []) (retK Tryz.prog Tryz.f151 K))) (.exit 0) (ud4 (.pointer (some ⟨b1,0,none⟩)::ud::.pointer (some ⟨b3,0,none⟩)::ud67 [])) H=
 (∃c1:Int,∃c2:Int,∃kh:OA,∃mh:Nat,∃lh:Nat,  rdN H b3 0 3=some [.int .i64 c1,.int .i64 c2,.slice kh mh lh]∧isOwn H b1∧(∃l,rdN H b1 0 3=some l)∧Lt (setN H b1 0 [.int .i64 c1,.int .i64 c2,.slice kh mh lh]) fun H9=>∃c4:Int,∃c5:Int,∃th:OA,∃vh:Nat,∃uh:Nat,  rdN H9 b1 0 3=some [.int .i64 c4,.int .i64 c5,.slice th vh uh]∧K (.tuple #[.agg #[.int .i64 c4,.int .i64 c5,.slice th vh uh],.bool true]) H9):=by kernel_rfl
theorem f15z_x1_ret (b1:Nat) (t5:Bool) (H:zq) (K:KT)  {I:Nat→List Value→zq→Prop} {μ:Nat}:z1b I μ (zx 0 (seqQ (exL Tryz.prog z9v (cr (cr (cr (cr (zr Tryz.f151))))) 48 48 []) (retK Tryz.prog Tryz.f151 K))) .ret (ud4 (.pointer (some ⟨b1,0,none⟩)::.bool t5::ud68 [])) H=
 (∃c7:Int,∃c8:Int,∃fi:OA,∃ii:Nat,∃gi:Nat,  rdN H b1 0 3=some [.int .i64 c7,.int .i64 c8,.slice fi ii gi]∧K (.tuple #[.agg #[.int .i64 c7,.int .i64 c8,.slice fi ii gi],.bool t5]) H):=by kernel_rfl
theorem zs0:∀g,FnOk Tryz.prog g (z9v g):=FnOk.envOf (by
 intro x hx
 simp only [List.mem_cons,List.not_mem_nil,or_false] at hx
 subst hx;exact z1fy)
theorem f15z_main (s p:Nat) (H:zq) (K:KT) (h:znd s p H fun (sd:Int) (pd:Int) (ja:OA) (oa:Nat) (ma:Nat) (r2:Bool) (H':zq)=>K (.tuple #[.agg #[.int .i64 sd,.int .i64 pd,.slice ja oa ma],.bool r2]) H'):z1a Tryz.prog z9v Tryz.f151 [.pointer (some ⟨s,0,none⟩),.pointer (some ⟨p,0,none⟩)] H K:=by
 rw [f15z_vc]
 obtain ⟨bb,jb,nb,fa,da,sa,db,ib,pb,aa,ba,i_s,i_p,ec,cc,bd_138,bd_139,pr0,pr1,pr2,pr3,pr4,hk⟩:=h
 obtain rfl:=ec.eqn
 obtain rfl:=cc.eqn
 have e:(z2m aa fa da sa ba)=_:=rfl
 have e:=e.trans (ze1 aa fa da sa ba)
 have g0:=Grow.refl H
 refine Al.intro (fun b_1 H_1 hb_2 hl_3 g_4 o_5=>?_)
 have l_7:=g_4.1
 have g_8:=g0.trans g_4
 have l_9:=g_8.1
 have w137:=o_5.lt
 refine ⟨sa,(z1h (zt g_8 i_p) 1 (Nat.le_of_ble_eq_true rfl)).trans rfl,?_⟩
 refine ⟨da,(z1h (zt g_8 i_p) 0 (Nat.le_of_ble_eq_true rfl)).trans rfl,?_⟩
 refine Al.intro (fun b_10 H_2 hb_11 hl_12 g_13 o_14=>?_)
 have o_14:Own H_2 b_10 ((([]:LN)).map fF):=o_14
 have l_16:=g_13.1
 have g_17:=g_8.trans g_13
 have l_18:=g_17.1
 have o_19:=o_5.grow g_13
 have w20:=o_19.lt
 have w136:=o_14.lt
 refine Al.intro (fun b_21 H_3 hb_22 hl_23 g24 o25=>?_)
 have l27:=g24.1
 have g28:=g_17.trans g24
 have l29:=g28.1
 have o30:=o_19.grow g24
 have w31:=o30.lt
 have o32:=o_14.grow g24
 have w33:=o32.lt
 have w135:=o25.lt
 refine Lt.setN (n:=3) o25 (Nat.le_of_ble_eq_true rfl) rfl (fun H_4 hl_34 o36 k35=>?_)
 have o36:Own H_4 b_21 [.int .i64 da,.int .i64 sa,.slice (some ⟨b_10,0,none⟩) 0 1]:=o36
 have l37:=k35.1
 have g38:=g28.keep (b:=b_21) ω2 k35
 have l39:=g38.1
 have o40:=o30.keep ω2 k35
 have w41:=o40.lt
 have o42:=o32.keep ω2 k35
 have w43:=o42.lt
 have w134:=o36.lt
 refine ⟨da,(z1h (zt g38 i_p) 0 (Nat.le_of_ble_eq_true rfl)).trans rfl,?_⟩
 rw [show IntKind.wrap .i64 (da+1)=(da+1) from zu ω2 ω2]
 have z44:=zc0 (da+1) 2
 refine ⟨ω24,?_⟩
 rw [show IntKind.wrap .i64 (Int.tdiv (da+1) 2)=(Int.tdiv (da+1) 2) from zu ω2 ω2]
 refine f15z_L1 _ _ _ _ _ (fun (μ:Nat) (y:Int) (H_5:zq)=>∃(t5:Bool),∃(q1_1 q1_2 q1_4 q1_5:Int),∃(q1_6:LN),∃(b47:Nat),Own H_5 b_1 [.int .i64 q1_1,.int .i64 q1_2,.slice none 0 0]∧Own H_5 b47 (q1_6.map fF)∧Own H_5 b_21 [.int .i64 q1_4,.int .i64 q1_5,.slice (some ⟨b47,0,none⟩) q1_6.length 1]∧(b_21≠b_1)∧(b47≠b_1)∧(b47≠b_21)∧Grow H H_5∧H.length≤b47∧(0:Int)≤y∧((y≤sa∨y≤(0:Int)))∧(q1_6.length:Int)≤32*(y)∧sa-y≤(μ:Int)∧z2m aa fa da sa ba=z3d aa fa da sa ba (μ+1) t5 y q1_1 q1_2 q1_4 q1_5 q1_6) (Int.toNat (sa-(0:Int))) _ H_4 ?_ ?_
 ·exact ⟨_,_,_,_,_,_,_,ω20,o42,ω21,ω2,ω2,ω2,g38,ω2,ω7,ω7,ω7,ω2,e⟩
 ·intro μ y  H_5 hI
  obtain ⟨t5,q1_1,q1_2,q1_4,q1_5,q1_6,b47,o45,o48,o46,n49,n50,n51,g52,l53,v_54,v_55,v_56,hμ,e⟩:=hI
  rw [f15z_r1]
  have e:=e.trans (za9 aa fa da sa ba μ t5 y q1_1 q1_2 q1_4 q1_5 q1_6)
  have zy:=z17z (W:=da) (H:=sa) (y:=y) ba ω2 ω2 ω2 ω2;have zk:=List.length_take_le (Int.tdiv (da+1) 2-0:Int).toNat ((((ba).drop ((y*da):Int).toNat).take ((((y+1)*da):Int)-(y*da)).toNat).drop (0:Int).toNat)
  have w57:=o45.lt
  have w58:=o46.lt
  have w59:=o48.lt
  have l60:=g52.1
  refine ⟨sa,(z1h (zt g52 i_p) 1 (Nat.le_of_ble_eq_true rfl)).trans rfl,?_⟩
  refine Br.intro (fun c61=>?_) (fun c61=>?_)
  ·have e:=e.trans (zw c61)
   have c_61':=of_decide_eq_true c61
   refine ⟨db,ba.length,pb,(z1h (zt g52 i_p) 2 (Nat.le_of_ble_eq_true rfl)).trans rfl,?_⟩
   refine ⟨da,(z1h (zt g52 i_p) 0 (Nat.le_of_ble_eq_true rfl)).trans rfl,?_⟩
   rw [show IntKind.wrap .i64 (y*da)=(y*da) from zu ω2 ω2]
   rw [show IntKind.wrap .i64 (y+1)=(y+1) from zu ω2 ω2]
   refine ⟨da,(z1h (zt g52 i_p) 0 (Nat.le_of_ble_eq_true rfl)).trans rfl,?_⟩
   rw [show IntKind.wrap .i64 ((y+1)*da)=((y+1)*da) from zu ω2 ω2]
   refine ⟨by omega,by omega,by omega,?_⟩
   have i62:=z9d cc (lo:=(y*da)) (hi:=((y+1)*da)) ω2 ω2 ω2
   refine ⟨by omega,by omega,by omega,?_⟩
   have i63:=z9d i62 (lo:=0) (hi:=(Int.tdiv (da+1) 2)) ω2 ω2 ω2
   refine ⟨by omega,by omega,by omega,?_⟩
   have i_64:=z9d i62 (lo:=(Int.tdiv (da+1) 2)) (hi:=(((((y+1)*da):Int)-(y*da)).toNat:Int)) ω2 ω2 ω2
   refine z19t ⟨bb,aa.length,nb,fa,_,_,_,(zt g52 i_s),(ec.grow g52),(i63.grow g52),(i_64.grow g52),ω0,ω0,ω0,ω16,ω16,ω16,fun a65 n66 e67 H_6 g70 r68=>?_⟩
   have z69:=zn1 aa fa (((((((ba).drop ((y*da):Int).toNat).take ((((y+1)*da):Int)-(y*da)).toNat)).drop (0:Int).toNat).take (((Int.tdiv (da+1) 2):Int)-0).toNat)) (((((((ba).drop ((y*da):Int).toNat).take ((((y+1)*da):Int)-(y*da)).toNat)).drop ((Int.tdiv (da+1) 2):Int).toNat).take (((((((y+1)*da):Int)-(y*da)).toNat:Int):Int)-(Int.tdiv (da+1) 2)).toNat))
   have l71:=g70.1
   have g72:=g52.trans g70
   have l73:=g72.1
   have o74:=o45.grow g70
   have w75:=o74.lt
   have o76:=o46.grow g70
   have w77:=o76.lt
   have o78:=o48.grow g70
   have w79:=o78.lt
   obtain rfl:=r68.isL.eqn
   have u80:=r68.up
   have u81:=r68.lo
   refine Br.intro (fun c83=>?_) (fun c83=>?_)
   ·have e:=e.trans (zw c83)
    have c_83n:=z1f c83
    refine Lt.setN (n:=3) o74 (Nat.le_of_ble_eq_true rfl) rfl (fun H_7 hl_84 o86 k85=>?_)
    have o86:Own H_7 b_1 [.int .i64 0,.int .i64 0,.slice none 0 0]:=o86
    have l87:=k85.1
    have g88:=g72.keep (b:=b_1) ω2 k85
    have l89:=g88.1
    have o90:=o76.keep ω2 k85
    have w91:=o90.lt
    have o92:=o78.keep ω2 k85
    have w93:=o92.lt
    have r94:=r68.keep u80 ω2 k85
    have w95:=o86.lt
    rw [f15z_x1_ret]
    refine ⟨0,0,none,0,0,(o86.rdN (Nat.le_of_ble_eq_true rfl)).trans rfl,?_⟩
    rw [e] at hk
    exact hk _ _ _ H_7 g88 ω19
   ·have e:=e.trans (zv c83)
    have c_83n:=z1e c83
    refine ⟨some ⟨b47,0,none⟩,q1_6.length,1,(o76.rdC _).trans rfl,?_⟩
    refine ⟨_,_,o78.ownB ω3 rfl,(z2q r68.isL),(fun h=>by cases h),ω25,?_⟩
    refine Ap.app o78 rfl rfl (fun b100 H_8 q121 hl_96 o97 k98=>?_)
    have o97:=z2b o97
    have l101:=k98.1
    have g102:=g72.keep (b:=b47) ω2 k98
    have l103:=g102.1
    have o104:=o74.keep ω2 k98
    have w105:=o104.lt
    have o106:=o76.keep ω2 k98
    have w107:=o106.lt
    have r108:=r68.keep u80 ω2 k98
    have w122:=o97.lt
    refine Lt.set o106 (Nat.le_of_ble_eq_true rfl) (fun H_9 hl_109 o111 k110=>?_)
    have o111:Own H_9 b_21 [.int .i64 q1_4,.int .i64 q1_5,.slice (some ⟨b100,0,none⟩) (q1_6.length+(((z6h aa fa (((((((ba).drop ((y*da):Int).toNat).take ((((y+1)*da):Int)-(y*da)).toNat)).drop (0:Int).toNat).take (((Int.tdiv (da+1) 2):Int)-0).toNat)) (((((((ba).drop ((y*da):Int).toNat).take ((((y+1)*da):Int)-(y*da)).toNat)).drop ((Int.tdiv (da+1) 2):Int).toNat).take (((((((y+1)*da):Int)-(y*da)).toNat:Int):Int)-(Int.tdiv (da+1) 2)).toNat))).1).length)) 1]:=o111
    have l112:=k110.1
    have g113:=g102.keep (b:=b_21) ω2 k110
    have l114:=g113.1
    have o115:=o104.keep ω2 k110
    have w116:=o115.lt
    have o117:=o97.keep ω2 k110
    have w118:=o117.lt
    have r119:=r108.keep u80 ω2 k110
    have w120:=o111.lt
    refine f15z_n1 (μ-1) ω17 ⟨_,_,_,_,_,_,_,(by first | exact o115 | (have hbx:=o115;(try simp only [List.length_append,List.length_cons,List.length_nil,Nat.zero_add] at hbx);(try simp only [List.length_append,List.length_cons,List.length_nil,Nat.zero_add]);exact hbx)),o117,(by first | exact o111 | (have hbx:=o111;(try simp only [List.length_append,List.length_cons,List.length_nil,Nat.zero_add] at hbx);(try simp only [List.length_append,List.length_cons,List.length_nil,Nat.zero_add]);exact hbx)),ω2,ω2,ω2,g113,ω2,ω1,ω1,ω1,ω17,ω13⟩
  ·have e:=e.trans (zv c61)
   have c_61':=of_decide_eq_false c61
   rw [f15z_x1_0]
   refine ⟨q1_4,q1_5,some ⟨b47,0,none⟩,q1_6.length,1,(o46.rdN (Nat.le_of_ble_eq_true rfl)).trans rfl,?_⟩
   refine Lt.setN (n:=3) o45 (Nat.le_of_ble_eq_true rfl) rfl (fun H_10 hl_123 o125 k124=>?_)
   have o125:Own H_10 b_1 [.int .i64 q1_4,.int .i64 q1_5,.slice (some ⟨b47,0,none⟩) q1_6.length 1]:=o125
   have l126:=k124.1
   have g127:=g52.keep (b:=b_1) ω2 k124
   have l128:=g127.1
   have o129:=o46.keep ω2 k124
   have w130:=o129.lt
   have o131:=o48.keep ω2 k124
   have w132:=o131.lt
   have w133:=o125.lt
   refine ⟨q1_4,q1_5,some ⟨b47,0,none⟩,q1_6.length,1,(o125.rdN (Nat.le_of_ble_eq_true rfl)).trans rfl,?_⟩
   rw [e] at hk
   exact hk _ _ _ H_10 g127 (o131.ownS ω5 ω2)
theorem f15z_ok:FnOk Tryz.prog 151 z16f:=FnOk.bodyF mix_ok zs0 Tryz.func151 rfl ω9 ω9 fun args H=>by
 unfold z14x
 split
 ·refine ⟨?_,?_,?_,?_,fun K hk=>f15z_main _ _ H K hk⟩
  ·intro K K' h hk;obtain ⟨bb,jb,nb,fa,da,sa,db,ib,pb,aa,ba,i_s,i_p,ec,cc,bd_138,bd_139,pr0,pr1,pr2,pr3,pr4,k⟩:=hk;exact ⟨bb,jb,nb,fa,da,sa,db,ib,pb,aa,ba,i_s,i_p,ec,cc,bd_138,bd_139,pr0,pr1,pr2,pr3,pr4,(fun ja oa ma H' gg ow0=>h _ _ (k ja oa ma H' gg ow0))⟩
  ·nofun
  ·intro K hk;obtain ⟨bb,jb,nb,fa,da,sa,db,ib,pb,aa,ba,i_s,i_p,ec,cc,bd_138,bd_139,pr0,pr1,pr2,pr3,pr4,k⟩:=hk;exact z4m fun a n e H1 g o=>⟨_,_,k a n e H1 g o⟩
  ·intro _ K hk;obtain ⟨bb,jb,nb,fa,da,sa,db,ib,pb,aa,ba,i_s,i_p,ec,cc,bd_138,bd_139,pr0,pr1,pr2,pr3,pr4,k⟩:=hk;exact ⟨bb,jb,nb,fa,da,sa,db,ib,pb,aa,ba,i_s,i_p,ec,cc,bd_138,bd_139,pr0,pr1,pr2,pr3,pr4,(fun ja oa ma H' gg ow0=>⟨gg,k ja oa ma H' gg ow0⟩)⟩
 ·exact Nice.no
def evs (l:LN):LN:=l.zipIdx.filterMap fun p=>if p.2 % 2=0 then some p.1 else none
def ods (l:LN):LN:=l.zipIdx.filterMap fun p=>if p.2 % 2=0 then none else some p.1
theorem zo6 (l:LN) (x:Nat):evs (l++[x])=if l.length % 2=0 then evs l++[x] else evs l:=by
 unfold evs
 rw [List.zipIdx_append,List.filterMap_append]
 by_cases h:l.length % 2=0<;>simp [h]
theorem zol (l:LN) (x:Nat):ods (l++[x])=if l.length % 2=0 then ods l else ods l++[x]:=by
 unfold ods
 rw [List.zipIdx_append,List.filterMap_append]
 by_cases h:l.length % 2=0<;>simp [h]
theorem zlf (l:LN) (i:Nat) (h:i<l.length):l.take (i+1)=l.take i++[l.getD i 0]:=by
 rw [List.take_add_one];simp [List.getD_eq_getElem?_getD,h]
theorem zgq (l:LN):∀k,k≤l.length→(evs (l.take k)).length=(k+1) / 2∧(ods (l.take k)).length=k / 2:=by
 intro k
 induction k with
 | zero=>intro _;simp [evs,ods]
 | succ k ih=>
  intro h
  obtain ⟨h1,h2⟩:=ih ω2
  have hl:(l.take k).length=k:=by simp;omega
  rw [zlf l k ω2,zo6,zol,hl]
  by_cases hk:k % 2=0
  ·rw [if_pos hk,if_pos hk,List.length_append,h1,h2];simp;omega
  ·rw [if_neg hk,if_neg hk,List.length_append,h1,h2];simp;omega
theorem zps (l:LN):(evs l).length=(l.length+1) / 2:=by have:=(zgq l l.length (Nat.le_refl _)).1;rwa [List.take_of_length_le (Nat.le_refl _)] at this
theorem zqp (l:LN):(ods l).length=l.length / 2:=by have:=(zgq l l.length (Nat.le_refl _)).2;rwa [List.take_of_length_le (Nat.le_refl _)] at this
theorem tm2t {i:Int} (h:(Int.tmod i 2==0)=true) (h0:0≤i):i % 2=0:=by
 have h1:Int.tmod i 2=0:=by simpa using h
 rw [Int.tmod_eq_emod_of_nonneg h0] at h1
 exact h1
theorem tm2f {i:Int} (h:(Int.tmod i 2==0)=false) (h0:0≤i):i % 2=1:=by
 have h1:¬Int.tmod i 2=0:=by simpa using h
 rw [Int.tmod_eq_emod_of_nonneg h0] at h1
 omega
def z4s (aa:LN) (fa:Nat) (qb zb mb:LN) (i k:Int) (y2_1 y2_2:LN) (nf:Int) (y3_1 y3_2:LN) (k4_6:Int→LN→(LN×LN×Bool)):Nat→Int→LN→LN×LN×Bool
 | 0,_,_=>([],[],false)
 | μ4+1,nh,y4_1=>(bif decide ((nh:Int)<(mb.length:Int)) then (z4s aa fa qb zb mb i k y2_1 y2_2 nf y3_1 y3_2 k4_6 μ4 (nh+1) (((y4_1).set (nh:Int).toNat ((fdiv .f32 (((y4_1).getD (nh:Int).toNat 0)) fa))))) else (k4_6 nh y4_1))
def zgb:=fun aa fa qb zb mb i k y2_1 y2_2 nf y3_1 y3_2 k4_6 μ4 nh y4_1=>@z4s.eq_2 aa fa qb zb mb i k y2_1 y2_2 nf y3_1 y3_2 k4_6 nh y4_1 μ4
def z6m (aa:LN) (fa:Nat) (qb zb mb:LN) (i k:Int) (y2_1 y2_2:LN) (k3_4:Int→LN→LN→(LN×LN×Bool)):Nat→Int→LN→LN→LN×LN×Bool
 | 0,_,_,_=>([],[],false)
 | μ3+1,nf,y3_1,y3_2=>(bif decide ((nf:Int)<(zb.length:Int)) then (z6m aa fa qb zb mb i k y2_1 y2_2 k3_4 μ3 (nf+1) (((y3_1).set (nf:Int).toNat ((fmul .f32 (((y3_1).getD (nf:Int).toNat 0)) fa)))) y3_2) else (k3_4 nf y3_1 y3_2))
def zga:=fun aa fa qb zb mb i k y2_1 y2_2 k3_4 μ3 nf y3_1 y3_2=>@z6m.eq_2 aa fa qb zb mb i k y2_1 y2_2 k3_4 nf y3_1 y3_2 μ3
def zbf (aa:LN) (fa:Nat) (qb zb mb:LN) (i:Int) (k2_2:Int→LN→LN→(LN×LN×Bool)):Nat→Int→LN→LN→LN×LN×Bool
 | 0,_,_,_=>([],[],false)
 | μ2+1,k,y2_1,y2_2=>(bif decide ((k:Int)<(aa.length:Int)) then (zbf aa fa qb zb mb i k2_2 μ2 (k+1) ((zam k (((aa).getD (k:Int).toNat 0)) y2_1 y2_2)) ((z6f k (((aa).getD (k:Int).toNat 0)) y2_1 y2_2))) else (k2_2 k y2_1 y2_2))
def zg9:=fun aa fa qb zb mb i k2_2 μ2 k y2_1 y2_2=>@zbf.eq_2 aa fa qb zb mb i k2_2 k y2_1 y2_2 μ2
def z9q (aa:LN) (fa:Nat) (qb:LN):Nat→LN→LN→Int→LN×LN×Bool
 | 0,_,_,_=>([],[],false)
 | μ+1,zb,mb,i=>(bif decide ((i:Int)<(qb.length:Int)) then (bif (Int.tmod i 2:Int)==0 then (z9q aa fa qb μ ((zb++[(((qb).getD (i:Int).toNat 0))])) mb (i+1)) else (z9q aa fa qb μ zb ((mb++[(((qb).getD (i:Int).toNat 0))])) (i+1))) else (bif ((mb.length:Int):Int)==0 then (zb,mb,true) else (zbf aa fa qb zb mb i (fun (k:Int) (y2_1:LN) (y2_2:LN)=>(z6m aa fa qb zb mb i k y2_1 y2_2 (fun (nf:Int) (y3_1:LN) (y3_2:LN)=>(z4s aa fa qb zb mb i k y2_1 y2_2 nf y3_1 y3_2 (fun (nh:Int) (y4_1:LN)=>(bif (z1w y3_1) then (y3_1,y4_1,(z1w y4_1)) else (y3_1,y4_1,false))) (Int.toNat ((mb.length:Int)-(0:Int))+1) (0:Int) y3_2)) (Int.toNat ((zb.length:Int)-(0:Int))+1) (0:Int) y2_1 y2_2)) (Int.toNat ((aa.length:Int)-(0:Int))+1) (0:Int) zb mb)))
def zg8:=fun aa fa qb μ zb mb i=>@z9q.eq_2 aa fa qb zb mb i μ
def z6d (aa:LN) (fa:Nat) (qb:LN):LN×LN×Bool:=(z9q aa fa qb (Int.toNat ((qb.length:Int)-(0:Int))+1) ([]:LN) ([]:LN) (0:Int))
def zow:=@z6d.eq_1
def zzy (s:Nat) (ld:OA) (tc ee:Nat) (H:zq) (K:OA→Nat→Nat→OA→Nat→Nat→Bool→zq→Prop):Prop:=∃(bb:OA),∃(jb nb fa:Nat),∃(aa qb:LN),rdN H s 0 2=some [.slice bb jb nb,.float .f32 fa]∧IsL fF H bb jb aa∧IsL fF H ld tc qb∧aa.length<1073741824∧qb.length<1073741824∧((∀(td:OA) (yd xd:Nat),∀(qj:OA) (yj xj:Nat),∀H':zq,Grow H H'→OwnS fF H' H.length td yd xd ((z6d aa fa qb).1)→OwnS fF H' H.length qj yj xj ((z6d aa fa qb).2.1)→SepA td qj→K td yd xd qj yj xj ((z6d aa fa qb).2.2) H'))
theorem z19u {s:Nat} {ld:OA} {tc ee:Nat} {H:zq} {K:OA→Nat→Nat→OA→Nat→Nat→Bool→zq→Prop} (h:∃(bb:OA),∃(jb nb fa:Nat),∃(aa qb:LN),rdN H s 0 2=some [.slice bb jb nb,.float .f32 fa]∧IsL fF H bb jb aa∧IsL fF H ld tc qb∧aa.length<1073741824∧qb.length<1073741824∧((∀(td:OA) (yd xd:Nat),∀(qj:OA) (yj xj:Nat),∀H':zq,Grow H H'→OwnS fF H' H.length td yd xd ((z6d aa fa qb).1)→OwnS fF H' H.length qj yj xj ((z6d aa fa qb).2.1)→SepA td qj→K td yd xd qj yj xj ((z6d aa fa qb).2.2) H'))):zzy s ld tc ee H K:=h
def wfS:LN→Int→LN→LN→LN×LN
 | [],_,lo,hi=>(lo,hi)
 | w::ws,k,lo,hi=>wfS ws (k+1) (zam k w lo hi) (z6f k w lo hi)
theorem zgz:∀(ws:LN) (k:Int) (lo hi:LN),(wfS ws k lo hi).1.length=lo.length∧(wfS ws k lo hi).2.length=hi.length:=by
 intro ws
 induction ws with
 | nil=>intro k lo hi;exact ⟨rfl,rfl⟩
 | cons w ws ih=>
  intro k lo hi
  obtain ⟨h1,h2⟩:=ih (k+1) (zam k w lo hi) (z6f k w lo hi)
  exact ⟨h1.trans (z4b _ _ _ _),h2.trans (z2s _ _ _ _)⟩
theorem zrd (ws:LN) (sc:Nat) (l low high:LN) (i:Int) (K2:Int→LN→LN→LN×LN×Bool):∀(μ k:Nat) (y1 y2:LN),k≤ws.length→ws.length-k<μ→
  zbf ws sc l low high i K2 μ (k:Int) y1 y2=K2 (ws.length:Int) (wfS (ws.drop k) (k:Int) y1 y2).1 (wfS (ws.drop k) (k:Int) y1 y2).2:=by
 intro μ
 induction μ with
 | zero=>intro k y1 y2 _ h;omega
 | succ μ ih=>
  intro k y1 y2 hk hm
  rw [zg9]
  by_cases h:k<ws.length
  ·rw [decide_eq_true (show (k:Int)<(ws.length:Int) by omega),cond_true,Int.toNat_natCast]
   have:=ih (k+1) (zam k (ws.getD k 0) y1 y2) (z6f k (ws.getD k 0) y1 y2) ω2 ω2
   have e:ws.getD k 0=ws[k]:=by simp [List.getD_eq_getElem?_getD,h]
   rw [List.drop_eq_getElem_cons h,wfS]
   rw [e] at this ⊢
   exact this
  ·have e:k=ws.length:=by omega
   rw [decide_eq_false (show ¬(k:Int)<(ws.length:Int) by omega),cond_false,e,List.drop_length,wfS]
theorem zre (ws:LN) (sc:Nat) (l low high:LN) (i k:Int) (a b:LN) (K3:Int→LN→LN→LN×LN×Bool) (A:LN) (hA:A.length=low.length) (y2:LN):∀(μ j:Nat),j≤low.length→low.length-j<μ→
  z6m ws sc l low high i k a b K3 μ (j:Int) ((A.map fun x=>fmul .f32 x sc).take j++A.drop j) y2=K3 (low.length:Int) (A.map fun x=>fmul .f32 x sc) y2:=by
 intro μ
 induction μ with
 | zero=>intro k _ h;omega
 | succ μ ih=>
  intro j hj hm
  rw [zga]
  by_cases h:j<low.length
  ·rw [decide_eq_true (show (j:Int)<(low.length:Int) by omega),cond_true,Int.toNat_natCast,z7b _ _ _ ω2 (by simp)]
   have:=ih (j+1) ω2 ω2
   rw [z3h (A.map fun x=>fmul .f32 x sc) A j ω2 (by simp) _ (by simp [List.getD_eq_getElem?_getD,show j<A.length by omega])]
   exact this
  ·have e:j=low.length:=by omega
   rw [decide_eq_false (show ¬(j:Int)<(low.length:Int) by omega),cond_false,e,List.take_of_length_le (by simp [hA]),List.drop_of_length_le ω2,List.append_nil]
theorem zrf (ws:LN) (sc:Nat) (l low high:LN) (i k:Int) (a b:LN) (i2:Int) (c d:LN) (K4:Int→LN→LN×LN×Bool) (A:LN) (hA:A.length=high.length):∀(μ j:Nat),j≤high.length→high.length-j<μ→
  z4s ws sc l low high i k a b i2 c d K4 μ (j:Int) ((A.map fun x=>fdiv .f32 x sc).take j++A.drop j)=K4 (high.length:Int) (A.map fun x=>fdiv .f32 x sc):=by
 intro μ
 induction μ with
 | zero=>intro k _ h;omega
 | succ μ ih=>
  intro j hj hm
  rw [zgb]
  by_cases h:j<high.length
  ·rw [decide_eq_true (show (j:Int)<(high.length:Int) by omega),cond_true,Int.toNat_natCast,z7b _ _ _ ω2 (by simp)]
   have:=ih (j+1) ω2 ω2
   rw [z3h (A.map fun x=>fdiv .f32 x sc) A j ω2 (by simp) _ (by simp [List.getD_eq_getElem?_getD,show j<A.length by omega])]
   exact this
  ·have e:j=high.length:=by omega
   rw [decide_eq_false (show ¬(j:Int)<(high.length:Int) by omega),cond_false,e,List.take_of_length_le (by simp [hA]),List.drop_of_length_le ω2,List.append_nil]
def liftE (ws:LN) (sc:Nat) (l:LN):LN:=(wfS ws 0 (evs l) (ods l)).1.map fun x=>fmul .f32 x sc
def liftO (ws:LN) (sc:Nat) (l:LN):LN:=(wfS ws 0 (evs l) (ods l)).2.map fun x=>fdiv .f32 x sc
def liftV (ws:LN) (sc:Nat) (l:LN):LN×LN×Bool:=
 bif (((ods l).length:Int)==0) then (evs l,ods l,true) else (liftE ws sc l,liftO ws sc l,z1w (liftE ws sc l) && z1w (liftO ws sc l))
theorem zrc (ws:LN) (sc:Nat) (l:LN):∀(μ i:Nat),i≤l.length→l.length-i<μ→z9q ws sc l μ (evs (l.take i)) (ods (l.take i)) (i:Int)=liftV ws sc l:=by
 intro μ
 induction μ with
 | zero=>intro i _ h;omega
 | succ μ ih=>
  intro i hi hm
  rw [zg8]
  by_cases h:i<l.length
  ·rw [decide_eq_true (show (i:Int)<(l.length:Int) by omega),cond_true,Int.toNat_natCast]
   have:=ih (i+1) ω2 ω2
   have hl:(l.take i).length=i:=by simp;omega
   rw [zlf l i h,zo6,zol,hl] at this
   have ht:(Int.tmod (i:Int) 2==0)=decide (i % 2=0):=by
    have:Int.tmod (i:Int) 2=((i % 2:Nat):Int):=by rw [Int.tmod_eq_emod_of_nonneg ω2];omega
    rw [this]
    by_cases hk:i % 2=0
    ·simp [hk]
    ·have:i % 2=1:=by omega
     simp [this]
   rw [ht]
   by_cases hk:i % 2=0
   ·rw [if_pos hk,if_pos hk] at this
    rw [decide_eq_true hk,cond_true];exact this
   ·rw [if_neg hk,if_neg hk] at this
    rw [decide_eq_false hk,cond_false];exact this
  ·have e:i=l.length:=by omega
   rw [decide_eq_false (show ¬(i:Int)<(l.length:Int) by omega),cond_false,e,List.take_of_length_le (Nat.le_refl _)]
   unfold liftV
   cases hz:(((ods l).length:Int)==0)
   ·rw [cond_false,cond_false]
    have h2:=zrd ws sc l (evs l) (ods l) (l.length:Int) (fun (k:Int) (y2_1:LN) (y2_2:LN)=>(z6m ws sc l (evs l) (ods l) (l.length:Int) k y2_1 y2_2 (fun (nf:Int) (y3_1:LN) (y3_2:LN)=>(z4s ws sc l (evs l) (ods l) (l.length:Int) k y2_1 y2_2 nf y3_1 y3_2 (fun (nh:Int) (y4_1:LN)=>(bif (z1w y3_1) then (y3_1,y4_1,(z1w y4_1)) else (y3_1,y4_1,false))) (Int.toNat (((ods l).length:Int)-(0:Int))+1) (0:Int) y3_2)) (Int.toNat (((evs l).length:Int)-(0:Int))+1) (0:Int) y2_1 y2_2))
     (Int.toNat ((ws.length:Int)-(0:Int))+1) 0 (evs l) (ods l) ω2 ω2
    refine Eq.trans h2 ?_
    obtain ⟨l1,l2⟩:=zgz ws 0 (evs l) (ods l)
    rw [List.drop_zero]
    have h3:=fun K3=>zre ws sc l (evs l) (ods l) (l.length:Int) (ws.length:Int) (wfS ws ((0:Nat):Int) (evs l) (ods l)).1 (wfS ws ((0:Nat):Int) (evs l) (ods l)).2 K3 (wfS ws ((0:Nat):Int) (evs l) (ods l)).1 l1 (wfS ws ((0:Nat):Int) (evs l) (ods l)).2 (Int.toNat (((evs l).length:Int)-(0:Int))+1) 0 ω2 ω2
    simp only [List.take_zero,List.drop_zero,List.nil_append] at h3
    refine Eq.trans (h3 _) ?_
    have h4:=fun K4=>zrf ws sc l (evs l) (ods l) (l.length:Int) (ws.length:Int) (wfS ws ((0:Nat):Int) (evs l) (ods l)).1 (wfS ws ((0:Nat):Int) (evs l) (ods l)).2 ((evs l).length:Int) ((wfS ws ((0:Nat):Int) (evs l) (ods l)).1.map fun x=>fmul .f32 x sc) (wfS ws ((0:Nat):Int) (evs l) (ods l)).2 K4 (wfS ws ((0:Nat):Int) (evs l) (ods l)).2 l2 (Int.toNat (((ods l).length:Int)-(0:Int))+1) 0 ω2 ω2
    simp only [List.take_zero,List.drop_zero,List.nil_append] at h4
    refine Eq.trans (h4 _) ?_
    unfold liftE liftO
    cases z1w ((wfS ws ((0:Nat):Int) (evs l) (ods l)).1.map fun x=>fmul .f32 x sc)<;>rfl
   ·rw [cond_true,cond_true]
theorem zbx (ws:LN) (sc:Nat) (l:LN):z6d ws sc l=liftV ws sc l:=by
 rw [zow]
 have:=zrc ws sc l (Int.toNat ((l.length:Int)-0)+1) 0 ω2 ω2
 simpa [evs,ods] using this
theorem zem (ws:LN) (sc:Nat) (l:LN):(z6d ws sc l).1.length=(l.length+1) / 2∧(z6d ws sc l).2.1.length=l.length / 2:=by
 rw [zbx]
 unfold liftV liftE liftO
 obtain ⟨h1,h2⟩:=zgz ws 0 (evs l) (ods l)
 cases (((ods l).length:Int)==0)<;>simp [h1,h2,zps,zqp]
/-! fiz: function 168 -/
def z4i:Env:=envOf [(175,ztf),(124,zii)]
def F_fiz (args:List Value) (H:zq):(Value→zq→Prop)→Prop:=match args with
 | [.pointer (some ⟨s,0,none⟩),.slice ld tc ee]=>fun K=>zzy s ld tc ee H fun (td:OA) (yd:Nat) (xd:Nat) (qj:OA) (yj:Nat) (xj:Nat) (r3:Bool) (H':zq)=>K (.tuple #[.slice td yd xd,.slice qj yj xj,.bool r3]) H'
 | _=>fun _=>False
def S_fiz:FSpec:={F:=F_fiz,quiet:=false,tame:=true}
theorem z1gf (s:Nat) (ld:OA) (tc ee:Nat) (H:zq) (K:KT):z1a Tryz.prog z4i Tryz.f168 [.pointer (some ⟨s,0,none⟩),.slice ld tc ee] H K=
 (Al [] H fun b1 H1=>Al [] H1 fun b2 H2=>z1j (exL Tryz.prog z4i (cl (cl (cr (cl (cr (cr (cr (zr Tryz.f168)))))))) 899 112 [(0,385)]) (.pointer (some ⟨s,0,none⟩)::.slice ld tc ee::ud5 (.slice (some ⟨b1,0,none⟩) 0 1::.slice (some ⟨b2,0,none⟩) 0 1::.int .i64 0::ud97 [])) H2 (zx 0 (seqQ (exL Tryz.prog z4i (cr (cr (cr (cr (zr Tryz.f168))))) 112 112 []) (retK Tryz.prog Tryz.f168 K)))):=by kernel_rfl
abbrev zjf (ld:OA) (ee tc s:Nat) (uc:OA) (yc cd:Nat) (tb:OA) (wb yb:Nat) (i:Int)  :List Value:=(.pointer (some ⟨s,0,none⟩)::.slice ld tc ee::ud5 (.slice uc yc cd::.slice tb wb yb::.int .i64 i::ud97 []))
theorem z1gb (ld:OA) (ee tc s:Nat) (uc:OA) (yc cd:Nat) (tb:OA) (wb yb:Nat) (i:Int)  (H:zq) (R:Post):exL Tryz.prog z4i (cl (cl (cr (cl (cr (cr (cr (zr Tryz.f168)))))))) 899 112 [(0,385)] (zjf ld ee tc s uc yc cd tb wb yb i) H R=
 (Br (decide ((i:Int)<(tc:Int))) (2≠(0:Int)∧Br ((Int.tmod i 2:Int)==0) ((0:Int)≤i∧i<(tc:Int)∧∃b3 f1,(ld:OA)=some ⟨b3,f1,none⟩∧∃x1:Nat,  rdC H b3 (f1+(i:Int).toNat*1)=some (.float .f32 x1)∧Al [.float .f32 x1] H fun b4 H3=>∃o1 w1:List Value,ownB H3 uc yc cd 1=some o1∧rdS H3 (some ⟨b4,0,none⟩) (1*1)=some w1∧((uc:OA)=none→0<(1:Nat))∧(yc:Nat)+1<most∧Ap H3 (z2y H3 uc++[some ⟨o1++w1,true⟩]) fun b5 H4=>R .normal (.pointer (some ⟨s,0,none⟩)::.slice ld tc ee::ud5 (.slice (some ⟨b5,0,none⟩) (yc+1) 1::.slice tb wb yb::.int .i64 (IntKind.wrap .i64 (i+1))::ud97 [])) H4) ((0:Int)≤i∧i<(tc:Int)∧∃b6 f2,(ld:OA)=some ⟨b6,f2,none⟩∧∃x2:Nat,  rdC H b6 (f2+(i:Int).toNat*1)=some (.float .f32 x2)∧Al [.float .f32 x2] H fun b7 H5=>∃o2 w2:List Value,ownB H5 tb wb yb 1=some o2∧rdS H5 (some ⟨b7,0,none⟩) (1*1)=some w2∧((tb:OA)=none→0<(1:Nat))∧(wb:Nat)+1<most∧Ap H5 (z2y H5 tb++[some ⟨o2++w2,true⟩]) fun b8 H6=>R .normal (.pointer (some ⟨s,0,none⟩)::.slice ld tc ee::ud5 (.slice uc yc cd::.slice (some ⟨b8,0,none⟩) (wb+1) 1::.int .i64 (IntKind.wrap .i64 (i+1))::ud97 [])) H6)) (R (.exit 0) (.pointer (some ⟨s,0,none⟩)::ud6 (.slice uc yc cd::.slice tb wb yb::ud98 [])) H)):=by kernel_rfl
def zw1 (ld:OA) (ee tc s:Nat) (Inv:Nat→OA→Nat→Nat→OA→Nat→Nat→Int→zq→Prop):Nat→List Value→zq→Prop:=fun μ tm H=>∃(uc:OA),∃(yc cd:Nat),∃(tb:OA),∃(wb yb:Nat),∃(i:Int),tm=(zjf ld ee tc s uc yc cd tb wb yb i)∧Inv μ uc yc cd tb wb yb i H
theorem z1g3 (ld:OA) (ee tc s:Nat) {Q:Post} (Inv:Nat→OA→Nat→Nat→OA→Nat→Nat→Int→zq→Prop) (ν:Nat) (uc:OA) (yc cd:Nat) (tb:OA) (wb yb:Nat) (i:Int)  (H:zq) (h0:Inv ν uc yc cd tb wb yb i H)
  (hs:∀(μ:Nat) (uc:OA) (yc:Nat) (cd:Nat) (tb:OA) (wb:Nat) (yb:Nat) (i:Int)  (H:zq),Inv μ uc yc cd tb wb yb i H→exL Tryz.prog z4i (cl (cl (cr (cl (cr (cr (cr (zr Tryz.f168)))))))) 899 112 [(0,385)] (zjf ld ee tc s uc yc cd tb wb yb i) H (z1b (zw1 ld ee tc s Inv) μ Q)):z1j (exL Tryz.prog z4i (cl (cl (cr (cl (cr (cr (cr (zr Tryz.f168)))))))) 899 112 [(0,385)]) (zjf ld ee tc s uc yc cd tb wb yb i) H Q:=
 ⟨zw1 ld ee tc s Inv,ν,⟨uc,yc,cd,tb,wb,yb,i,rfl,h0⟩,fun μ tm H h=>by obtain ⟨uc,yc,cd,tb,wb,yb,i,rfl,hI⟩:=h;exact hs μ uc yc cd tb wb yb i  H hI⟩
theorem z17m {ld:OA} {ee tc s:Nat} {Q:Post} {Inv:Nat→OA→Nat→Nat→OA→Nat→Nat→Int→zq→Prop} {μ:Nat} (μ':Nat) {uc:OA} {yc cd:Nat} {tb:OA} {wb yb:Nat} {i:Int}  {H:zq} (hm:μ'<μ) (hI:Inv μ' uc yc cd tb wb yb i H):z1b (zw1 ld ee tc s Inv) μ Q .normal (zjf ld ee tc s uc yc cd tb wb yb i) H:=⟨μ',hm,uc,yc,cd,tb,wb,yb,i,rfl,hI⟩
theorem z11k (s:Nat) (uc:OA) (yc cd:Nat) (tb:OA) (wb yb:Nat) (H:zq) (K:KT)  {I:Nat→List Value→zq→Prop} {μ:Nat}:z1b I μ (zx 0 (seqQ (exL Tryz.prog z4i (cr (cr (cr (cr (zr Tryz.f168))))) 112 112 []) (retK Tryz.prog Tryz.f168 K))) (.exit 0) (.pointer (some ⟨s,0,none⟩)::ud6 (.slice uc yc cd::.slice tb wb yb::ud98 [])) H=
 (Br (((wb:Int):Int)==0) (K (.tuple #[.slice uc yc cd,.slice tb wb yb,.bool true]) H) (z1j (exL Tryz.prog z4i (cl (cl (cr (cl (cr (cr (cr (cr (cr (zr Tryz.f168)))))))))) 1409 112 [(2,385)]) (.pointer (some ⟨s,0,none⟩)::ud6 (.slice uc yc cd::.slice tb wb yb::ud::.int .i64 0::ud96 [])) H (zx 2 (seqQ (exL Tryz.prog z4i (cr (cr (cr (cr (cr (cr (zr Tryz.f168))))))) 112 112 []) (retK Tryz.prog Tryz.f168 K))))):=by kernel_rfl
abbrev zjg (tb:OA) (yb wb:Nat) (uc:OA) (cd yc s:Nat) (k:Int)  :List Value:=(.pointer (some ⟨s,0,none⟩)::ud6 (.slice uc yc cd::.slice tb wb yb::ud::.int .i64 k::ud96 []))
theorem z1gc (tb:OA) (yb wb:Nat) (uc:OA) (cd yc s:Nat) (k:Int)  (H:zq) (R:Post):exL Tryz.prog z4i (cl (cl (cr (cl (cr (cr (cr (cr (cr (zr Tryz.f168)))))))))) 1409 112 [(2,385)] (zjg tb yb wb uc cd yc s k) H R=
 (∃rj:OA,∃mj:Nat,∃wj:Nat,  rdC H s 0=some (.slice rj mj wj)∧Br (decide ((k:Int)<(mj:Int))) (∃qp:OA,∃vp:Nat,∃yp:Nat,  rdC H s 0=some (.slice qp vp yp)∧(0:Int)≤k∧k<(vp:Int)∧∃b9 f3,(qp:OA)=some ⟨b9,f3,none⟩∧∃x5:Nat,  rdC H b9 (f3+(k:Int).toNat*1)=some (.float .f32 x5)∧zio uc yc cd tb wb yb k x5 H fun  (H7:zq)=>R .normal (.pointer (some ⟨s,0,none⟩)::ud6 (.slice uc yc cd::.slice tb wb yb::ud::.int .i64 (IntKind.wrap .i64 (k+1))::ud96 [])) H7) (R (.exit 2) (.pointer (some ⟨s,0,none⟩)::ud6 (.slice uc yc cd::.slice tb wb yb::ud98 [])) H)):=by kernel_rfl
def zw2 (tb:OA) (yb wb:Nat) (uc:OA) (cd yc s:Nat) (Inv:Nat→Int→zq→Prop):Nat→List Value→zq→Prop:=fun μ tm H=>∃(k:Int),tm=(zjg tb yb wb uc cd yc s k)∧Inv μ k H
theorem z1g4 (tb:OA) (yb wb:Nat) (uc:OA) (cd yc s:Nat) {Q:Post} (Inv:Nat→Int→zq→Prop) (ν:Nat) (k:Int)  (H:zq) (h0:Inv ν k H)
  (hs:∀(μ:Nat) (k:Int)  (H:zq),Inv μ k H→exL Tryz.prog z4i (cl (cl (cr (cl (cr (cr (cr (cr (cr (zr Tryz.f168)))))))))) 1409 112 [(2,385)] (zjg tb yb wb uc cd yc s k) H (z1b (zw2 tb yb wb uc cd yc s Inv) μ Q)):z1j (exL Tryz.prog z4i (cl (cl (cr (cl (cr (cr (cr (cr (cr (zr Tryz.f168)))))))))) 1409 112 [(2,385)]) (zjg tb yb wb uc cd yc s k) H Q:=
 ⟨zw2 tb yb wb uc cd yc s Inv,ν,⟨k,rfl,h0⟩,fun μ tm H h=>by obtain ⟨k,rfl,hI⟩:=h;exact hs μ k  H hI⟩
theorem z1g7 {tb:OA} {yb wb:Nat} {uc:OA} {cd yc s:Nat} {Q:Post} {Inv:Nat→Int→zq→Prop} {μ:Nat} (μ':Nat) {k:Int}  {H:zq} (hm:μ'<μ) (hI:Inv μ' k H):z1b (zw2 tb yb wb uc cd yc s Inv) μ Q .normal (zjg tb yb wb uc cd yc s k) H:=⟨μ',hm,k,rfl,hI⟩
theorem z11l (tb:OA) (yb wb:Nat) (uc:OA) (cd yc s:Nat) (H:zq) (K:KT)  {I:Nat→List Value→zq→Prop} {μ:Nat}:z1b I μ (zx 2 (seqQ (exL Tryz.prog z4i (cr (cr (cr (cr (cr (cr (zr Tryz.f168))))))) 112 112 []) (retK Tryz.prog Tryz.f168 K))) (.exit 2) (.pointer (some ⟨s,0,none⟩)::ud6 (.slice uc yc cd::.slice tb wb yb::ud98 [])) H=
 (z1j (exL Tryz.prog z4i (cl (cl (cr (cl (cr (cr (cr (cr (cr (cr (zr Tryz.f168))))))))))) 2433 112 [(4,385)]) (.pointer (some ⟨s,0,none⟩)::ud6 (.slice uc yc cd::.slice tb wb yb::ud2 (.int .i64 0::ud95 []))) H (zx 4 (seqQ (exL Tryz.prog z4i (cr (cr (cr (cr (cr (cr (cr (zr Tryz.f168)))))))) 112 112 []) (retK Tryz.prog Tryz.f168 K)))):=by kernel_rfl
abbrev zjh (tb:OA) (yb wb:Nat) (uc:OA) (cd yc s:Nat) (nf:Int)  :List Value:=(.pointer (some ⟨s,0,none⟩)::ud6 (.slice uc yc cd::.slice tb wb yb::ud2 (.int .i64 nf::ud95 [])))
theorem z1gd (tb:OA) (yb wb:Nat) (uc:OA) (cd yc s:Nat) (nf:Int)  (H:zq) (R:Post):exL Tryz.prog z4i (cl (cl (cr (cl (cr (cr (cr (cr (cr (cr (zr Tryz.f168))))))))))) 2433 112 [(4,385)] (zjh tb yb wb uc cd yc s nf) H R=
 (Br (decide ((nf:Int)<(yc:Int))) ((0:Int)≤nf∧nf<(yc:Int)∧∃b10 f4,(uc:OA)=some ⟨b10,f4,none⟩∧∃x6:Nat,  rdC H b10 (f4+(nf:Int).toNat*1)=some (.float .f32 x6)∧∃x7:Nat,  rdC H s 1=some (.float .f32 x7)∧(0:Int)≤nf∧nf<(yc:Int)∧∃b11 f5,(uc:OA)=some ⟨b11,f5,none⟩∧isOwn H b11∧(∃l,rdN H b11 (f5+(nf:Int).toNat*1) 1=some l)∧Lt (setC H b11 (f5+(nf:Int).toNat*1) (.float .f32 (fmul .f32 x6 x7))) fun H8=>R .normal (.pointer (some ⟨s,0,none⟩)::ud6 (.slice uc yc cd::.slice tb wb yb::ud2 (.int .i64 (IntKind.wrap .i64 (nf+1))::ud95 []))) H8) (R (.exit 4) (.pointer (some ⟨s,0,none⟩)::ud6 (.slice uc yc cd::.slice tb wb yb::ud98 [])) H)):=by kernel_rfl
def zw3 (tb:OA) (yb wb:Nat) (uc:OA) (cd yc s:Nat) (Inv:Nat→Int→zq→Prop):Nat→List Value→zq→Prop:=fun μ tm H=>∃(nf:Int),tm=(zjh tb yb wb uc cd yc s nf)∧Inv μ nf H
theorem z1g5 (tb:OA) (yb wb:Nat) (uc:OA) (cd yc s:Nat) {Q:Post} (Inv:Nat→Int→zq→Prop) (ν:Nat) (nf:Int)  (H:zq) (h0:Inv ν nf H)
  (hs:∀(μ:Nat) (nf:Int)  (H:zq),Inv μ nf H→exL Tryz.prog z4i (cl (cl (cr (cl (cr (cr (cr (cr (cr (cr (zr Tryz.f168))))))))))) 2433 112 [(4,385)] (zjh tb yb wb uc cd yc s nf) H (z1b (zw3 tb yb wb uc cd yc s Inv) μ Q)):z1j (exL Tryz.prog z4i (cl (cl (cr (cl (cr (cr (cr (cr (cr (cr (zr Tryz.f168))))))))))) 2433 112 [(4,385)]) (zjh tb yb wb uc cd yc s nf) H Q:=
 ⟨zw3 tb yb wb uc cd yc s Inv,ν,⟨nf,rfl,h0⟩,fun μ tm H h=>by obtain ⟨nf,rfl,hI⟩:=h;exact hs μ nf  H hI⟩
theorem z1g8 {tb:OA} {yb wb:Nat} {uc:OA} {cd yc s:Nat} {Q:Post} {Inv:Nat→Int→zq→Prop} {μ:Nat} (μ':Nat) {nf:Int}  {H:zq} (hm:μ'<μ) (hI:Inv μ' nf H):z1b (zw3 tb yb wb uc cd yc s Inv) μ Q .normal (zjh tb yb wb uc cd yc s nf) H:=⟨μ',hm,nf,rfl,hI⟩
theorem z11m (tb:OA) (yb wb:Nat) (uc:OA) (cd yc s:Nat) (H:zq) (K:KT)  {I:Nat→List Value→zq→Prop} {μ:Nat}:z1b I μ (zx 4 (seqQ (exL Tryz.prog z4i (cr (cr (cr (cr (cr (cr (cr (zr Tryz.f168)))))))) 112 112 []) (retK Tryz.prog Tryz.f168 K))) (.exit 4) (.pointer (some ⟨s,0,none⟩)::ud6 (.slice uc yc cd::.slice tb wb yb::ud98 [])) H=
 (z1j (exL Tryz.prog z4i (cl (cl (cr (cl (cr (cr (cr (cr (cr (cr (cr (zr Tryz.f168)))))))))))) 4481 112 [(6,384)]) (.pointer (some ⟨s,0,none⟩)::ud6 (.slice uc yc cd::.slice tb wb yb::ud3 (.int .i64 0::ud94 []))) H (zx 6 (seqQ (exL Tryz.prog z4i (cr (cr (cr (cr (cr (cr (cr (cr (zr Tryz.f168))))))))) 112 112 []) (retK Tryz.prog Tryz.f168 K)))):=by kernel_rfl
abbrev zji (tb:OA) (yb wb:Nat) (uc:OA) (cd yc s:Nat) (nh:Int)  :List Value:=(.pointer (some ⟨s,0,none⟩)::ud6 (.slice uc yc cd::.slice tb wb yb::ud3 (.int .i64 nh::ud94 [])))
theorem z1ge (tb:OA) (yb wb:Nat) (uc:OA) (cd yc s:Nat) (nh:Int)  (H:zq) (R:Post):exL Tryz.prog z4i (cl (cl (cr (cl (cr (cr (cr (cr (cr (cr (cr (zr Tryz.f168)))))))))))) 4481 112 [(6,384)] (zji tb yb wb uc cd yc s nh) H R=
 (Br (decide ((nh:Int)<(wb:Int))) ((0:Int)≤nh∧nh<(wb:Int)∧∃b12 f6,(tb:OA)=some ⟨b12,f6,none⟩∧∃x8:Nat,  rdC H b12 (f6+(nh:Int).toNat*1)=some (.float .f32 x8)∧∃x9:Nat,  rdC H s 1=some (.float .f32 x9)∧(0:Int)≤nh∧nh<(wb:Int)∧∃b13 f7,(tb:OA)=some ⟨b13,f7,none⟩∧isOwn H b13∧(∃l,rdN H b13 (f7+(nh:Int).toNat*1) 1=some l)∧Lt (setC H b13 (f7+(nh:Int).toNat*1) (.float .f32 (fdiv .f32 x8 x9))) fun H9=>R .normal (.pointer (some ⟨s,0,none⟩)::ud6 (.slice uc yc cd::.slice tb wb yb::ud3 (.int .i64 (IntKind.wrap .i64 (nh+1))::ud94 []))) H9) (R (.exit 6) (ud7 (.slice uc yc cd::.slice tb wb yb::ud98 [])) H)):=by kernel_rfl
def zw4 (tb:OA) (yb wb:Nat) (uc:OA) (cd yc s:Nat) (Inv:Nat→Int→zq→Prop):Nat→List Value→zq→Prop:=fun μ tm H=>∃(nh:Int),tm=(zji tb yb wb uc cd yc s nh)∧Inv μ nh H
theorem z1g6 (tb:OA) (yb wb:Nat) (uc:OA) (cd yc s:Nat) {Q:Post} (Inv:Nat→Int→zq→Prop) (ν:Nat) (nh:Int)  (H:zq) (h0:Inv ν nh H)
  (hs:∀(μ:Nat) (nh:Int)  (H:zq),Inv μ nh H→exL Tryz.prog z4i (cl (cl (cr (cl (cr (cr (cr (cr (cr (cr (cr (zr Tryz.f168)))))))))))) 4481 112 [(6,384)] (zji tb yb wb uc cd yc s nh) H (z1b (zw4 tb yb wb uc cd yc s Inv) μ Q)):z1j (exL Tryz.prog z4i (cl (cl (cr (cl (cr (cr (cr (cr (cr (cr (cr (zr Tryz.f168)))))))))))) 4481 112 [(6,384)]) (zji tb yb wb uc cd yc s nh) H Q:=
 ⟨zw4 tb yb wb uc cd yc s Inv,ν,⟨nh,rfl,h0⟩,fun μ tm H h=>by obtain ⟨nh,rfl,hI⟩:=h;exact hs μ nh  H hI⟩
theorem z1g9 {tb:OA} {yb wb:Nat} {uc:OA} {cd yc s:Nat} {Q:Post} {Inv:Nat→Int→zq→Prop} {μ:Nat} (μ':Nat) {nh:Int}  {H:zq} (hm:μ'<μ) (hI:Inv μ' nh H):z1b (zw4 tb yb wb uc cd yc s Inv) μ Q .normal (zji tb yb wb uc cd yc s nh) H:=⟨μ',hm,nh,rfl,hI⟩
theorem z11n (tb:OA) (yb wb:Nat) (uc:OA) (cd yc:Nat) (H:zq) (K:KT)  {I:Nat→List Value→zq→Prop} {μ:Nat}:z1b I μ (zx 6 (seqQ (exL Tryz.prog z4i (cr (cr (cr (cr (cr (cr (cr (cr (zr Tryz.f168))))))))) 112 112 []) (retK Tryz.prog Tryz.f168 K))) (.exit 6) (ud7 (.slice uc yc cd::.slice tb wb yb::ud98 [])) H=
 (zc3 uc yc cd H fun (r1:Bool) (H10:zq)=>Br r1 (zc3 tb wb yb H10 fun (r2:Bool) (H11:zq)=>K (.tuple #[.slice uc yc cd,.slice tb wb yb,.bool r2]) H11) (K (.tuple #[.slice uc yc cd,.slice tb wb yb,.bool false]) H10)):=by kernel_rfl
theorem zyn:∀g,FnOk Tryz.prog g (z4i g):=FnOk.envOf (by
 intro x hx
 simp only [List.mem_cons,List.not_mem_nil,or_false] at hx
 rcases hx with rfl | rfl
 ·exact zux
 ·exact f11z_ok)
theorem ω11 {P:Prop} (h:P:=by first | omega | (simp;done) | (simp;omega) | (first | (have:=tm2t (by assumption) (by omega);simp only [List.length_append,List.length_cons,List.length_nil];omega) | (have:=tm2f (by assumption) (by omega);simp only [List.length_append,List.length_cons,List.length_nil];omega))):P:=h
theorem ω4 {P:Prop} (h:P:=by first | omega | (first | (have:=tm2t (by assumption) (by omega);simp only [List.length_append,List.length_cons,List.length_nil];omega) | (have:=tm2f (by assumption) (by omega);simp only [List.length_append,List.length_cons,List.length_nil];omega)) | (simp only [List.length_append,List.length_cons,List.length_nil,List.length_set];done) | (simp only [List.length_append,List.length_cons,List.length_nil,List.length_set];omega)):P:=h
theorem z11j (s:Nat) (ld:OA) (tc ee:Nat) (H:zq) (K:KT) (h:zzy s ld tc ee H fun (td:OA) (yd:Nat) (xd:Nat) (qj:OA) (yj:Nat) (xj:Nat) (r3:Bool) (H':zq)=>K (.tuple #[.slice td yd xd,.slice qj yj xj,.bool r3]) H'):z1a Tryz.prog z4i Tryz.f168 [.pointer (some ⟨s,0,none⟩),.slice ld tc ee] H K:=by
 rw [z1gf]
 obtain ⟨bb,jb,nb,fa,aa,qb,i_s,ec,i_list,bd_183,bd_184,hk⟩:=h
 obtain rfl:=ec.eqn
 obtain rfl:=i_list.eqn
 have e:(z6d aa fa qb)=_:=rfl
 have e:=e.trans (zow aa fa qb)
 have g0:=Grow.refl H
 refine Al.intro (fun b_1 H_1 hb_2 hl_3 g_4 o_5=>?_)
 have o_5:Own H_1 b_1 ((([]:LN)).map fF):=o_5
 have l_7:=g_4.1
 have g_8:=g0.trans g_4
 have l_9:=g_8.1
 have w182:=o_5.lt
 refine Al.intro (fun b_10 H_2 hb_11 hl_12 g_13 o_14=>?_)
 have o_14:Own H_2 b_10 ((([]:LN)).map fF):=o_14
 have l_16:=g_13.1
 have g_17:=g_8.trans g_13
 have l_18:=g_17.1
 have o_19:=o_5.grow g_13
 have w20:=o_19.lt
 have w181:=o_14.lt
 refine z1g3 _ _ _ _ (fun (μ:Nat) (uc:OA) (yc:Nat) (cd:Nat) (tb:OA) (wb:Nat) (yb:Nat) (i:Int) (H_3:zq)=>∃(zb:LN),∃(b_21:Nat),∃(mb:LN),∃(b_23:Nat),uc=some ⟨b_21,0,none⟩∧yc=zb.length∧cd=1∧Own H_3 b_21 (zb.map fF)∧tb=some ⟨b_23,0,none⟩∧wb=mb.length∧yb=1∧Own H_3 b_23 (mb.map fF)∧(b_23≠b_21)∧Grow H H_3∧H.length≤b_21∧H.length≤b_23∧(0:Int)≤i∧i≤(qb.length:Int)∧(zb.length:Int)≤i-(0:Int)+0∧(mb.length:Int)≤i-(0:Int)+0∧(zb.length:Int)=(i+1) / 2∧(mb.length:Int)=i / 2∧(qb.length:Int)-i≤(μ:Int)∧z6d aa fa qb=z9q aa fa qb (μ+1) zb mb i) (Int.toNat ((qb.length:Int)-(0:Int))) _ _ _ _ _ _ _ H_2 ?_ ?_
 ·exact ⟨_,_,_,_,rfl,ω5,rfl,o_19,rfl,ω5,rfl,o_14,ω2,g_17,ω2,ω2,ω11,ω11,ω11,ω11,ω11,ω11,ω2,e⟩
 ·intro μ uc yc cd tb wb yb i  H_3 hI
  obtain ⟨zb,b_21,mb,b_23,rfl,rfl,rfl,o22,rfl,rfl,rfl,o24,n25,g26,l27,l28,v_29,v_30,v_31,v_32,v_33,v_34,hμ,e⟩:=hI
  rw [z1gb]
  have e:=e.trans (zg8 aa fa qb μ zb mb i)
  have w35:=o22.lt
  have w36:=o24.lt
  have l37:=g26.1
  refine Br.intro (fun c_38=>?_) (fun c_38=>?_)
  ·have e:=e.trans (zw c_38)
   have c_38':=of_decide_eq_true c_38
   refine ⟨ω24,?_⟩
   have z39:=zbm i 2
   have z40:=zer i 2
   refine Br.intro (fun c41=>?_) (fun c41=>?_)
   ·have e:=e.trans (zw c41)
    have c_41':=zjv c41
    obtain ⟨b42,f43,q44⟩:=((i_list.grow g26)).pos ω0
    refine ⟨by omega,by omega,b42,f43,q44,?_⟩
    refine ⟨((qb).getD (i:Int).toNat 0),(i_list).rd g26 q44 ω2 _,?_⟩
    refine Al.intro (fun b45 H_4 hb_46 hl_47 g_48 o49=>?_)
    have o49:Own H_4 b45 (([(((qb).getD (i:Int).toNat 0))]).map fF):=o49
    have l51:=g_48.1
    have g52:=g26.trans g_48
    have l53:=g52.1
    have o54:=o22.grow g_48
    have w55:=o54.lt
    have o56:=o24.grow g_48
    have w57:=o56.lt
    have w72:=o49.lt
    refine ⟨_,_,o54.ownB ω3 rfl,(z2q (o49.isL ω5)),(fun h=>by cases h),ω25,?_⟩
    refine Ap.app o54 rfl rfl (fun b62 H_5 q70 hl_58 o59 k60=>?_)
    have o59:=z2b o59
    have l63:=k60.1
    have g64:=g52.keep (b:=b_21) ω2 k60
    have l65:=g64.1
    have o66:=o56.keep ω2 k60
    have w67:=o66.lt
    have o68:=o49.keep ω2 k60
    have w69:=o68.lt
    have w71:=o59.lt
    rw [show IntKind.wrap .i64 (i+1)=(i+1) from zu ω2 ω2]
    refine z17m (μ-1) ω17 ⟨_,_,_,_,rfl,ω8,rfl,o59,rfl,ω5,rfl,o66,ω2,g64,ω2,ω2,ω4,ω4,ω4,ω4,ω4,ω4,ω17,ω13⟩
   ·have e:=e.trans (zv c41)
    have c_41':=zju c41
    obtain ⟨b73,f74,q75⟩:=((i_list.grow g26)).pos ω0
    refine ⟨by omega,by omega,b73,f74,q75,?_⟩
    refine ⟨((qb).getD (i:Int).toNat 0),(i_list).rd g26 q75 ω2 _,?_⟩
    refine Al.intro (fun b76 H_6 hb_77 hl_78 g79 o80=>?_)
    have o80:Own H_6 b76 (([(((qb).getD (i:Int).toNat 0))]).map fF):=o80
    have l82:=g79.1
    have g83:=g26.trans g79
    have l84:=g83.1
    have o85:=o22.grow g79
    have w86:=o85.lt
    have o87:=o24.grow g79
    have w88:=o87.lt
    have w103:=o80.lt
    refine ⟨_,_,o87.ownB ω3 rfl,(z2q (o80.isL ω5)),(fun h=>by cases h),ω25,?_⟩
    refine Ap.app o87 rfl rfl (fun b93 H_7 q101 hl_89 o90 k91=>?_)
    have o90:=z2b o90
    have l94:=k91.1
    have g95:=g83.keep (b:=b_23) ω2 k91
    have l96:=g95.1
    have o97:=o85.keep ω2 k91
    have w98:=o97.lt
    have o99:=o80.keep ω2 k91
    have w100:=o99.lt
    have w102:=o90.lt
    rw [show IntKind.wrap .i64 (i+1)=(i+1) from zu ω2 ω2]
    refine z17m (μ-1) ω17 ⟨_,_,_,_,rfl,ω5,rfl,o97,rfl,ω8,rfl,o90,ω2,g95,ω2,ω2,ω4,ω4,ω4,ω4,ω4,ω4,ω17,ω13⟩
  ·have e:=e.trans (zv c_38)
   have c_38':=of_decide_eq_false c_38
   rw [z11k]
   refine Br.intro (fun c104=>?_) (fun c104=>?_)
   ·have e:=e.trans (zw c104)
    have c_104':=zjv c104
    rw [e] at hk
    exact hk _ _ _ _ _ _ H_3 g26 (o22.ownS ω5 ω2) (o24.ownS ω5 ω2) (fun x y hx hy=>by cases hx;cases hy;intro hh;dsimp only at hh;omega)
   ·have e:=e.trans (zv c104)
    have c_104':=zju c104
    refine z1g4 _ _ _ _ _ _ _ (fun (μ2:Nat) (k:Int) (H_8:zq)=>∃(y2_1 y2_2:LN),Own H_8 b_21 (y2_1.map fF)∧y2_1.length=zb.length∧Own H_8 b_23 (y2_2.map fF)∧y2_2.length=mb.length∧(b_23≠b_21)∧Grow H H_8∧(0:Int)≤k∧k≤(aa.length:Int)∧(aa.length:Int)-k≤(μ2:Int)∧z6d aa fa qb=zbf aa fa qb zb mb i (fun (k:Int) (y2_1:LN) (y2_2:LN)=>(z6m aa fa qb zb mb i k y2_1 y2_2 (fun (nf:Int) (y3_1:LN) (y3_2:LN)=>(z4s aa fa qb zb mb i k y2_1 y2_2 nf y3_1 y3_2 (fun (nh:Int) (y4_1:LN)=>(bif (z1w y3_1) then (y3_1,y4_1,(z1w y4_1)) else (y3_1,y4_1,false))) (Int.toNat ((mb.length:Int)-(0:Int))+1) (0:Int) y3_2)) (Int.toNat ((zb.length:Int)-(0:Int))+1) (0:Int) y2_1 y2_2)) (μ2+1) k y2_1 y2_2) (Int.toNat ((aa.length:Int)-(0:Int))) _ H_3 ?_ ?_
    ·exact ⟨_,_,o22,ω15,o24,ω15,ω2,g26,ω7,ω7,ω2,e⟩
    ·intro μ2 k  H_8 hI
     obtain ⟨y2_1,y2_2,o105,y106,o107,y108,n109,g110,v111,v112,hμ,e⟩:=hI
     rw [z1gc]
     have e:=e.trans (zg9 aa fa qb zb mb i (fun (k:Int) (y2_1:LN) (y2_2:LN)=>(z6m aa fa qb zb mb i k y2_1 y2_2 (fun (nf:Int) (y3_1:LN) (y3_2:LN)=>(z4s aa fa qb zb mb i k y2_1 y2_2 nf y3_1 y3_2 (fun (nh:Int) (y4_1:LN)=>(bif (z1w y3_1) then (y3_1,y4_1,(z1w y4_1)) else (y3_1,y4_1,false))) (Int.toNat ((mb.length:Int)-(0:Int))+1) (0:Int) y3_2)) (Int.toNat ((zb.length:Int)-(0:Int))+1) (0:Int) y2_1 y2_2)) μ2 k y2_1 y2_2)
     have w113:=o105.lt
     have w114:=o107.lt
     have l115:=g110.1
     refine ⟨bb,aa.length,nb,(z1h (zt g110 i_s) 0 (Nat.le_of_ble_eq_true rfl)).trans rfl,?_⟩
     refine Br.intro (fun c116=>?_) (fun c116=>?_)
     ·have e:=e.trans (zw c116)
      have c_116':=of_decide_eq_true c116
      refine ⟨bb,aa.length,nb,(z1h (zt g110 i_s) 0 (Nat.le_of_ble_eq_true rfl)).trans rfl,?_⟩
      obtain ⟨b117,f_118,q119⟩:=((ec.grow g110)).pos ω0
      refine ⟨by omega,by omega,b117,f_118,q119,?_⟩
      refine ⟨((aa).getD (k:Int).toNat 0),(ec).rd g110 q119 ω2 _,?_⟩
      refine znj ⟨_,_,_,_,(o105.ownS ω5 (Nat.le_refl _)),(o107.ownS ω5 (Nat.le_refl _)),(fun x y hx hy=>by cases hx;cases hy;intro hh;dsimp only at hh;omega),ω0,ω0,ω16,ω16,(fun H_10 k120 o121 o122=>?_)⟩
      obtain ⟨H_9,k123,k124⟩:=k120.split
      have k125:=k123.keep1
      have l126:=k125.1
      have g127:=g110.keep (b:=b_21) ω2 k125
      have l128:=g127.1
      have o129:=o107.keep ω2 k125
      have w130:=o129.lt
      have k131:=k124.keep1
      have l132:=k131.1
      have g133:=g127.keep (b:=b_23) ω2 k131
      have l134:=g133.1
      have o135:=o121.own1
      have w136:=o135.lt
      have o137:=o122.own1
      have w138:=o137.lt
      rw [show IntKind.wrap .i64 (k+1)=(k+1) from zu ω2 ω2]
      refine z1g7 (μ2-1) ω17 ⟨_,_,o135,ω18,o137,ω18,ω2,g133,ω1,ω1,ω17,ω28⟩
     ·have e:=e.trans (zv c116)
      have c_116':=of_decide_eq_false c116
      rw [z11l]
      refine z1g5 _ _ _ _ _ _ _ (fun (μ3:Nat) (nf:Int) (H_11:zq)=>∃(y3_1 y3_2:LN),Own H_11 b_21 (y3_1.map fF)∧y3_1.length=zb.length∧Own H_11 b_23 (y3_2.map fF)∧y3_2.length=mb.length∧(b_23≠b_21)∧Grow H H_11∧(0:Int)≤nf∧nf≤(zb.length:Int)∧(zb.length:Int)-nf≤(μ3:Int)∧z6d aa fa qb=z6m aa fa qb zb mb i k y2_1 y2_2 (fun (nf:Int) (y3_1:LN) (y3_2:LN)=>(z4s aa fa qb zb mb i k y2_1 y2_2 nf y3_1 y3_2 (fun (nh:Int) (y4_1:LN)=>(bif (z1w y3_1) then (y3_1,y4_1,(z1w y4_1)) else (y3_1,y4_1,false))) (Int.toNat ((mb.length:Int)-(0:Int))+1) (0:Int) y3_2)) (μ3+1) nf y3_1 y3_2) (Int.toNat ((zb.length:Int)-(0:Int))) _ H_8 ?_ ?_
      ·exact ⟨_,_,o105,ω15,o107,ω15,ω2,g110,ω7,ω7,ω2,e⟩
      ·intro μ3 nf  H_11 hI
       obtain ⟨y3_1,y3_2,o139,y140,o141,y142,n143,g144,v145,v146,hμ,e⟩:=hI
       rw [z1gd]
       have e:=e.trans (zga aa fa qb zb mb i k y2_1 y2_2 (fun (nf:Int) (y3_1:LN) (y3_2:LN)=>(z4s aa fa qb zb mb i k y2_1 y2_2 nf y3_1 y3_2 (fun (nh:Int) (y4_1:LN)=>(bif (z1w y3_1) then (y3_1,y4_1,(z1w y4_1)) else (y3_1,y4_1,false))) (Int.toNat ((mb.length:Int)-(0:Int))+1) (0:Int) y3_2)) μ3 nf y3_1 y3_2)
       have w147:=o139.lt
       have w148:=o141.lt
       have l149:=g144.1
       refine Br.intro (fun c150=>?_) (fun c150=>?_)
       ·have e:=e.trans (zw c150)
        have c_150':=of_decide_eq_true c150
        refine ⟨by omega,ω2,_,_,rfl,?_⟩
        refine ⟨((y3_1).getD (nf:Int).toNat 0),o139.rd ω0 _,?_⟩
        refine ⟨fa,(z1h (zt g144 i_s) 1 (Nat.le_of_ble_eq_true rfl)).trans rfl,?_⟩
        refine ⟨by omega,ω2,_,_,rfl,?_⟩
        refine Lt.set o139 ω10 (fun H_12 hl_151 o153 k152=>?_)
        have o153:=map_set o153
        have l154:=k152.1
        have g155:=g144.keep (b:=b_21) ω2 k152
        have l156:=g155.1
        have o157:=o141.keep ω2 k152
        have w158:=o157.lt
        have w159:=o153.lt
        rw [show IntKind.wrap .i64 (nf+1)=(nf+1) from zu ω2 ω2]
        refine z1g8 (μ3-1) ω17 ⟨_,_,o153,ω18,o157,ω18,ω2,g155,ω1,ω1,ω17,ω29⟩
       ·have e:=e.trans (zv c150)
        have c_150':=of_decide_eq_false c150
        rw [z11m]
        refine z1g6 _ _ _ _ _ _ _ (fun (μ4:Nat) (nh:Int) (H_13:zq)=>∃(y4_1:LN),Own H_13 b_21 ((y3_1).map fF)∧Own H_13 b_23 (y4_1.map fF)∧y4_1.length=mb.length∧(b_23≠b_21)∧Grow H H_13∧(0:Int)≤nh∧nh≤(mb.length:Int)∧(mb.length:Int)-nh≤(μ4:Int)∧z6d aa fa qb=z4s aa fa qb zb mb i k y2_1 y2_2 nf y3_1 y3_2 (fun (nh:Int) (y4_1:LN)=>(bif (z1w y3_1) then (y3_1,y4_1,(z1w y4_1)) else (y3_1,y4_1,false))) (μ4+1) nh y4_1) (Int.toNat ((mb.length:Int)-(0:Int))) _ H_11 ?_ ?_
        ·exact ⟨_,o139,o141,ω15,ω2,g144,ω7,ω7,ω2,e⟩
        ·intro μ4 nh  H_13 hI
         obtain ⟨y4_1,o160,o161,y162,n163,g164,v165,v166,hμ,e⟩:=hI
         rw [z1ge]
         have e:=e.trans (zgb aa fa qb zb mb i k y2_1 y2_2 nf y3_1 y3_2 (fun (nh:Int) (y4_1:LN)=>(bif (z1w y3_1) then (y3_1,y4_1,(z1w y4_1)) else (y3_1,y4_1,false))) μ4 nh y4_1)
         have w167:=o160.lt
         have w168:=o161.lt
         have l169:=g164.1
         refine Br.intro (fun c170=>?_) (fun c170=>?_)
         ·have e:=e.trans (zw c170)
          have c_170':=of_decide_eq_true c170
          refine ⟨by omega,ω2,_,_,rfl,?_⟩
          refine ⟨((y4_1).getD (nh:Int).toNat 0),o161.rd ω0 _,?_⟩
          refine ⟨fa,(z1h (zt g164 i_s) 1 (Nat.le_of_ble_eq_true rfl)).trans rfl,?_⟩
          refine ⟨by omega,ω2,_,_,rfl,?_⟩
          refine Lt.set o161 ω10 (fun H_14 hl_171 o173 k172=>?_)
          have o173:=map_set o173
          have l174:=k172.1
          have g175:=g164.keep (b:=b_23) ω2 k172
          have l176:=g175.1
          have o177:=o160.keep ω2 k172
          have w178:=o177.lt
          have w179:=o173.lt
          rw [show IntKind.wrap .i64 (nh+1)=(nh+1) from zu ω2 ω2]
          refine z1g9 (μ4-1) ω17 ⟨_,o177,o173,ω18,ω2,g175,ω1,ω1,ω17,ω30⟩
         ·have e:=e.trans (zv c170)
          have c_170':=of_decide_eq_false c170
          rw [z11n]
          refine zas ⟨_,(o160.isL ω5),ω0,?_⟩
          refine Br.intro (fun c180=>?_) (fun c180=>?_)
          ·have e:=e.trans (zw c180)
           refine zas ⟨_,(o161.isL ω5),ω0,?_⟩
           rw [e] at hk
           exact hk _ _ _ _ _ _ H_13 g164 (o160.ownS ω5 ω2) (o161.ownS ω5 ω2) (fun x y hx hy=>by cases hx;cases hy;intro hh;dsimp only at hh;omega)
          ·have e:=e.trans (zv c180)
           rw [e] at hk
           exact hk _ _ _ _ _ _ H_13 g164 (o160.ownS ω5 ω2) (o161.ownS ω5 ω2) (fun x y hx hy=>by cases hx;cases hy;intro hh;dsimp only at hh;omega)
theorem z1ga:FnOk Tryz.prog 168 S_fiz:=FnOk.bodyF mix_ok zyn Tryz.func168 rfl ω9 ω9 fun args H=>by
 unfold F_fiz
 split
 ·refine ⟨?_,?_,?_,?_,fun K hk=>z11j _ _ _ _ H K hk⟩
  ·intro K K' h hk;obtain ⟨bb,jb,nb,fa,aa,qb,i_s,ec,i_list,bd_183,bd_184,k⟩:=hk;exact ⟨bb,jb,nb,fa,aa,qb,i_s,ec,i_list,bd_183,bd_184,(fun td yd xd qj yj xj H' gg ow0 ow1 sp0_1=>h _ _ (k td yd xd qj yj xj H' gg ow0 ow1 sp0_1))⟩
  ·nofun
  ·intro K hk;obtain ⟨bb,jb,nb,fa,aa,qb,i_s,ec,i_list,bd_183,bd_184,k⟩:=hk;exact z1i3 fun a n e a2 n2 e2 H1 g o o2 sp=>⟨_,_,k a n e a2 n2 e2 H1 g o o2 sp⟩
  ·intro _ K hk;obtain ⟨bb,jb,nb,fa,aa,qb,i_s,ec,i_list,bd_183,bd_184,k⟩:=hk;exact ⟨bb,jb,nb,fa,aa,qb,i_s,ec,i_list,bd_183,bd_184,(fun td yd xd qj yj xj H' gg ow0 ow1 sp0_1=>⟨gg,k td yd xd qj yj xj H' gg ow0 ow1 sp0_1⟩)⟩
 ·exact Nice.no

def z4f (aa:LN) (fa:Nat) (da sa:Int) (ba:LN):Nat→Bool→Int→Int→Int→Int→Int→LN→Int×Int×LN×Bool
 | 0,_,_,_,_,_,_,_=>(0,0,[],false)
 | μ+1,t5,y,q1_1,q1_2,q1_4,q1_5,q1_6=>(bif decide ((y:Int)<sa) then (bif !((z6d aa fa ((((ba).drop ((y*da):Int).toNat).take ((((y+1)*da):Int)-(y*da)).toNat))).2.2) then ((0:Int),(0:Int),[],false) else (z4f aa fa da sa ba μ t5 (y+1) q1_1 q1_2 q1_4 q1_5 (((q1_6++(z6d aa fa ((((ba).drop ((y*da):Int).toNat).take ((((y+1)*da):Int)-(y*da)).toNat))).1)++(z6d aa fa ((((ba).drop ((y*da):Int).toNat).take ((((y+1)*da):Int)-(y*da)).toNat))).2.1)))) else (q1_4,q1_5,q1_6,true))
def ze7:=fun aa fa da sa ba μ t5 y q1_1 q1_2 q1_4 q1_5 q1_6=>@z4f.eq_2 aa fa da sa ba t5 y q1_1 q1_2 q1_4 q1_5 q1_6 μ
def z2u (aa:LN) (fa:Nat) (da sa:Int) (ba:LN):Int×Int×LN×Bool:=(z4f aa fa da sa ba (Int.toNat (sa-(0:Int))+1) false (0:Int) 0 0 da sa ([]:LN))
def zkp:=@z2u.eq_1
def znr (s p:Nat) (H:zq) (K:Int→Int→OA→Nat→Nat→Bool→zq→Prop):Prop:=∃(bb:OA),∃(jb nb fa:Nat),∃(da sa:Int),∃(db:OA),∃(ib pb:Nat),∃(aa ba:LN),rdN H s 0 2=some [.slice bb jb nb,.float .f32 fa]∧rdN H p 0 3=some [.int .i64 da,.int .i64 sa,.slice db ib pb]∧IsL fF H bb jb aa∧IsL fF H db ib ba∧aa.length<1073741824∧ba.length<1073741824∧1≤da∧da≤16∧1≤sa∧sa≤16∧(ba.length:Int)=da*sa∧((∀(ja:OA) (oa ma:Nat),∀H':zq,Grow H H'→OwnS fF H' H.length ja oa ma ((z2u aa fa da sa ba).2.2.1)→K ((z2u aa fa da sa ba).1) ((z2u aa fa da sa ba).2.1) ja oa ma ((z2u aa fa da sa ba).2.2.2) H'))
theorem zzl {s p:Nat} {H:zq} {K:Int→Int→OA→Nat→Nat→Bool→zq→Prop} (h:∃(bb:OA),∃(jb nb fa:Nat),∃(da sa:Int),∃(db:OA),∃(ib pb:Nat),∃(aa ba:LN),rdN H s 0 2=some [.slice bb jb nb,.float .f32 fa]∧rdN H p 0 3=some [.int .i64 da,.int .i64 sa,.slice db ib pb]∧IsL fF H bb jb aa∧IsL fF H db ib ba∧aa.length<1073741824∧ba.length<1073741824∧1≤da∧da≤16∧1≤sa∧sa≤16∧(ba.length:Int)=da*sa∧((∀(ja:OA) (oa ma:Nat),∀H':zq,Grow H H'→OwnS fF H' H.length ja oa ma ((z2u aa fa da sa ba).2.2.1)→K ((z2u aa fa da sa ba).1) ((z2u aa fa da sa ba).2.1) ja oa ma ((z2u aa fa da sa ba).2.2.2) H'))):znr s p H K:=h

theorem zds (ws:LN) (sc:Nat) (W Hi:Int) (l:LN) (h1:1≤W) (hl:(l.length:Int)=W*Hi):∀(μ:Nat) (t5:Bool) (y q1 q2 q4 q5:Int) (q6:LN),0≤y→y≤Hi→(z4f ws sc W Hi l μ t5 y q1 q2 q4 q5 q6).2.2.2=true→
  (z4f ws sc W Hi l μ t5 y q1 q2 q4 q5 q6).1=q4∧(z4f ws sc W Hi l μ t5 y q1 q2 q4 q5 q6).2.1=q5∧((z4f ws sc W Hi l μ t5 y q1 q2 q4 q5 q6).2.2.1.length:Int)=q6.length+(Hi-y)*W:=by
 intro μ
 induction μ with
 | zero=>intro t5 y q1 q2 q4 q5 q6 _ _ h;simp [z4f] at h
 | succ μ ih=>
  intro t5 y q1 q2 q4 q5 q6 h0 hy h
  rw [ze7] at h ⊢
  by_cases c:y<Hi
  ·have hr:=zxm (l:=l) h1 hl h0 c
   rw [decide_eq_true c] at h ⊢
   simp only [cond_true] at h ⊢
   generalize ((((l).drop ((y*W):Int).toNat).take ((((y+1)*W):Int)-(y*W)).toNat))=r at *
   obtain ⟨a1,a2⟩:=zem ws sc r
   cases hg:(z6d ws sc r).2.2 with
   | false=>rw [hg] at h;simp at h
   | true=>
    rw [hg] at h
    simp only [Bool.not_true,cond_false] at h ⊢
    obtain ⟨b1,b2,b3⟩:=ih t5 (y+1) q1 q2 q4 q5 _ ω2 ω2 h
    refine ⟨b1,b2,b3.trans ?_⟩
    simp only [List.length_append]
    have e3:(Hi-(y+1))*W=(Hi-y)*W-W:=by rw [show Hi-(y+1)=(Hi-y)-1 by omega,Int.sub_mul,Int.one_mul]
    omega
  ·rw [decide_eq_false c,cond_false]
   refine ⟨rfl,rfl,?_⟩
   rw [show Hi-y=0 by omega,Int.zero_mul];show (q6.length:Int)=_;omega
theorem zk1 {ws:LN} {sc:Nat} {W Hi:Int} {l:LN} (h1:1≤W) (h3:1≤Hi) (hl:(l.length:Int)=W*Hi) (h:(z2u ws sc W Hi l).2.2.2=true):(z2u ws sc W Hi l).1=W∧(z2u ws sc W Hi l).2.1=Hi∧((z2u ws sc W Hi l).2.2.1.length:Int)=W*Hi:=by
 rw [zkp] at h ⊢
 obtain ⟨a,b,c⟩:=zds ws sc W Hi l h1 hl _ _ _ _ _ _ _ _ ω2 ω2 h
 refine ⟨a,b,c.trans ?_⟩
 rw [show Hi-0=Hi by omega,Int.mul_comm];simp
/-! f1oz: function 152 -/
def z9y:Env:=envOf [(168,S_fiz)]
def z15o (args:List Value) (H:zq):(Value→zq→Prop)→Prop:=match args with
 | [.pointer (some ⟨s,0,none⟩),.pointer (some ⟨p,0,none⟩)]=>fun K=>znr s p H fun (sd:Int) (pd:Int) (ja:OA) (oa:Nat) (ma:Nat) (r2:Bool) (H':zq)=>K (.tuple #[.agg #[.int .i64 sd,.int .i64 pd,.slice ja oa ma],.bool r2]) H'
 | _=>fun _=>False
def z16s:FSpec:={F:=z15o,quiet:=false,tame:=true}
theorem z1bh (s p:Nat) (H:zq) (K:KT):z1a Tryz.prog z9y Tryz.f152 [.pointer (some ⟨s,0,none⟩),.pointer (some ⟨p,0,none⟩)] H K=
 (Al [.int .i64 0,.int .i64 0,.slice none 0 0] H fun b1 H1=>∃x1:Int,  rdC H1 p 1=some (.int .i64 x1)∧∃x2:Int,  rdC H1 p 0=some (.int .i64 x2)∧Al [] H1 fun b2 H2=>Al [.int .i64 0,.int .i64 0,.slice none 0 0] H2 fun b3 H3=>isOwn H3 b3∧(∃l,rdN H3 b3 0 3=some l)∧Lt (setN H3 b3 0 [.int .i64 x2,.int .i64 x1,.slice (some ⟨b2,0,none⟩) 0 1]) fun H4=>z1j (exL Tryz.prog z9y (cl (cl (cr (cl (cr (cr (zr Tryz.f152))))))) 211 48 [(0,80)]) (.pointer (some ⟨s,0,none⟩)::.pointer (some ⟨p,0,none⟩)::ud2 (.pointer (some ⟨b1,0,none⟩)::ud::.pointer (some ⟨b3,0,none⟩)::.int .i64 0::ud59 [])) H4 (zx 0 (seqQ (exL Tryz.prog z9y (cr (cr (cr (zr Tryz.f152)))) 48 48 []) (retK Tryz.prog Tryz.f152 K)))):=by kernel_rfl
abbrev zdf (b1 b3 p s:Nat) (y:Int)  :List Value:=(.pointer (some ⟨s,0,none⟩)::.pointer (some ⟨p,0,none⟩)::ud2 (.pointer (some ⟨b1,0,none⟩)::ud::.pointer (some ⟨b3,0,none⟩)::.int .i64 y::ud59 []))
theorem z1bg (b1 b3 p s:Nat) (y:Int)  (H:zq) (R:Post):exL Tryz.prog z9y (cl (cl (cr (cl (cr (cr (zr Tryz.f152))))))) 211 48 [(0,80)] (zdf b1 b3 p s y) H R=
 (∃x3:Int,  rdC H p 1=some (.int .i64 x3)∧Br (decide ((y:Int)<x3)) (∃x4:Int,  rdC H p 0=some (.int .i64 x4)∧∃x5:Int,  rdC H p 0=some (.int .i64 x5)∧∃ji:OA,∃ei:Nat,∃qi:Nat,  rdC H p 2=some (.slice ji ei qi)∧(0:Int)≤IntKind.wrap .i64 (y*x5)∧IntKind.wrap .i64 (y*x5)≤IntKind.wrap .i64 ((IntKind.wrap .i64 (y+1))*x4)∧IntKind.wrap .i64 ((IntKind.wrap .i64 (y+1))*x4)≤(ei:Int)∧zzy s ((ji:OA).map fun a=>⟨a.block,a.off+(IntKind.wrap .i64 (y*x5):Int).toNat*1,none⟩) (((IntKind.wrap .i64 ((IntKind.wrap .i64 (y+1))*x4):Int)-IntKind.wrap .i64 (y*x5)).toNat) 0 H fun (a1:OA) (r1:Nat) (r2:Nat) (a2:OA) (r3:Nat) (r4:Nat) (r5:Bool) (H5:zq)=>Br (!r5) (isOwn H5 b1∧(∃l,rdN H5 b1 0 3=some l)∧Lt (setN H5 b1 0 [.int .i64 0,.int .i64 0,.slice none 0 0]) fun H6=>R .ret (ud4 (.pointer (some ⟨b1,0,none⟩)::.bool false::ud61 [])) H6) (∃nj:OA,∃xi:Nat,∃tk:Nat,  rdC H5 b3 2=some (.slice nj xi tk)∧∃o1 w1:List Value,ownB H5 nj xi tk 1=some o1∧rdS H5 a1 (r1*1)=some w1∧((nj:OA)=none→0<(r1:Nat))∧(xi:Nat)+r1<most∧Ap H5 (z2y H5 nj++[some ⟨o1++w1,true⟩]) fun b4 H7=>isOwn H7 b3∧(∃l,rdN H7 b3 2 1=some l)∧Lt (setC H7 b3 2 (.slice (some ⟨b4,0,none⟩) (xi+r1) 1)) fun H8=>∃tj:OA,∃uj:Nat,∃vk:Nat,  rdC H8 b3 2=some (.slice tj uj vk)∧∃o2 w2:List Value,ownB H8 tj uj vk 1=some o2∧rdS H8 a2 (r3*1)=some w2∧((tj:OA)=none→0<(r3:Nat))∧(uj:Nat)+r3<most∧Ap H8 (z2y H8 tj++[some ⟨o2++w2,true⟩]) fun b5 H9=>isOwn H9 b3∧(∃l,rdN H9 b3 2 1=some l)∧Lt (setC H9 b3 2 (.slice (some ⟨b5,0,none⟩) (uj+r3) 1)) fun H10=>R .normal (.pointer (some ⟨s,0,none⟩)::.pointer (some ⟨p,0,none⟩)::ud2 (.pointer (some ⟨b1,0,none⟩)::ud::.pointer (some ⟨b3,0,none⟩)::.int .i64 (IntKind.wrap .i64 (y+1))::ud59 [])) H10)) (R (.exit 0) (ud4 (.pointer (some ⟨b1,0,none⟩)::ud::.pointer (some ⟨b3,0,none⟩)::ud60 [])) H)):=by kernel_rfl
def zm5 (b1 b3 p s:Nat) (Inv:Nat→Int→zq→Prop):Nat→List Value→zq→Prop:=fun μ tm H=>∃(y:Int),tm=(zdf b1 b3 p s y)∧Inv μ y H
theorem z1bd (b1 b3 p s:Nat) {Q:Post} (Inv:Nat→Int→zq→Prop) (ν:Nat) (y:Int)  (H:zq) (h0:Inv ν y H)
  (hs:∀(μ:Nat) (y:Int)  (H:zq),Inv μ y H→exL Tryz.prog z9y (cl (cl (cr (cl (cr (cr (zr Tryz.f152))))))) 211 48 [(0,80)] (zdf b1 b3 p s y) H (z1b (zm5 b1 b3 p s Inv) μ Q)):z1j (exL Tryz.prog z9y (cl (cl (cr (cl (cr (cr (zr Tryz.f152))))))) 211 48 [(0,80)]) (zdf b1 b3 p s y) H Q:=
 ⟨zm5 b1 b3 p s Inv,ν,⟨y,rfl,h0⟩,fun μ tm H h=>by obtain ⟨y,rfl,hI⟩:=h;exact hs μ y  H hI⟩
theorem z1be {b1 b3 p s:Nat} {Q:Post} {Inv:Nat→Int→zq→Prop} {μ:Nat} (μ':Nat) {y:Int}  {H:zq} (hm:μ'<μ) (hI:Inv μ' y H):z1b (zm5 b1 b3 p s Inv) μ Q .normal (zdf b1 b3 p s y) H:=⟨μ',hm,y,rfl,hI⟩
theorem zvc (b1 b3:Nat) (H:zq) (K:KT)  {I:Nat→List Value→zq→Prop} {μ:Nat}:z1b I μ (zx 0 (seqQ (exL Tryz.prog z9y (cr (cr (cr (zr Tryz.f152)))) 48 48 []) (retK Tryz.prog Tryz.f152 K))) (.exit 0) (ud4 (.pointer (some ⟨b1,0,none⟩)::ud::.pointer (some ⟨b3,0,none⟩)::ud60 [])) H=
 (∃c1:Int,∃c2:Int,∃kh:OA,∃mh:Nat,∃lh:Nat,  rdN H b3 0 3=some [.int .i64 c1,.int .i64 c2,.slice kh mh lh]∧isOwn H b1∧(∃l,rdN H b1 0 3=some l)∧Lt (setN H b1 0 [.int .i64 c1,.int .i64 c2,.slice kh mh lh]) fun H11=>∃c4:Int,∃c5:Int,∃th:OA,∃vh:Nat,∃uh:Nat,  rdN H11 b1 0 3=some [.int .i64 c4,.int .i64 c5,.slice th vh uh]∧K (.tuple #[.agg #[.int .i64 c4,.int .i64 c5,.slice th vh uh],.bool true]) H11):=by kernel_rfl
theorem zm6 (b1:Nat) (t5:Bool) (H:zq) (K:KT)  {I:Nat→List Value→zq→Prop} {μ:Nat}:z1b I μ (zx 0 (seqQ (exL Tryz.prog z9y (cr (cr (cr (zr Tryz.f152)))) 48 48 []) (retK Tryz.prog Tryz.f152 K))) .ret (ud4 (.pointer (some ⟨b1,0,none⟩)::.bool t5::ud61 [])) H=
 (∃c7:Int,∃c8:Int,∃fi:OA,∃ii:Nat,∃gi:Nat,  rdN H b1 0 3=some [.int .i64 c7,.int .i64 c8,.slice fi ii gi]∧K (.tuple #[.agg #[.int .i64 c7,.int .i64 c8,.slice fi ii gi],.bool t5]) H):=by kernel_rfl
theorem zsr:∀g,FnOk Tryz.prog g (z9y g):=FnOk.envOf (by
 intro x hx
 simp only [List.mem_cons,List.not_mem_nil,or_false] at hx
 subst hx;exact z1ga)
theorem zvb (s p:Nat) (H:zq) (K:KT) (h:znr s p H fun (sd:Int) (pd:Int) (ja:OA) (oa:Nat) (ma:Nat) (r2:Bool) (H':zq)=>K (.tuple #[.agg #[.int .i64 sd,.int .i64 pd,.slice ja oa ma],.bool r2]) H'):z1a Tryz.prog z9y Tryz.f152 [.pointer (some ⟨s,0,none⟩),.pointer (some ⟨p,0,none⟩)] H K:=by
 rw [z1bh]
 obtain ⟨bb,jb,nb,fa,da,sa,db,ib,pb,aa,ba,i_s,i_p,ec,cc,bd_175,bd_176,pr0,pr1,pr2,pr3,pr4,hk⟩:=h
 obtain rfl:=ec.eqn
 obtain rfl:=cc.eqn
 have e:(z2u aa fa da sa ba)=_:=rfl
 have e:=e.trans (zkp aa fa da sa ba)
 have g0:=Grow.refl H
 refine Al.intro (fun b_1 H_1 hb_2 hl_3 g_4 o_5=>?_)
 have l_7:=g_4.1
 have g_8:=g0.trans g_4
 have l_9:=g_8.1
 have w174:=o_5.lt
 refine ⟨sa,(z1h (zt g_8 i_p) 1 (Nat.le_of_ble_eq_true rfl)).trans rfl,?_⟩
 refine ⟨da,(z1h (zt g_8 i_p) 0 (Nat.le_of_ble_eq_true rfl)).trans rfl,?_⟩
 refine Al.intro (fun b_10 H_2 hb_11 hl_12 g_13 o_14=>?_)
 have o_14:Own H_2 b_10 ((([]:LN)).map fF):=o_14
 have l_16:=g_13.1
 have g_17:=g_8.trans g_13
 have l_18:=g_17.1
 have o_19:=o_5.grow g_13
 have w20:=o_19.lt
 have w173:=o_14.lt
 refine Al.intro (fun b_21 H_3 hb_22 hl_23 g24 o25=>?_)
 have l27:=g24.1
 have g28:=g_17.trans g24
 have l29:=g28.1
 have o30:=o_19.grow g24
 have w31:=o30.lt
 have o32:=o_14.grow g24
 have w33:=o32.lt
 have w172:=o25.lt
 refine Lt.setN (n:=3) o25 (Nat.le_of_ble_eq_true rfl) rfl (fun H_4 hl_34 o36 k35=>?_)
 have o36:Own H_4 b_21 [.int .i64 da,.int .i64 sa,.slice (some ⟨b_10,0,none⟩) 0 1]:=o36
 have l37:=k35.1
 have g38:=g28.keep (b:=b_21) ω2 k35
 have l39:=g38.1
 have o40:=o30.keep ω2 k35
 have w41:=o40.lt
 have o42:=o32.keep ω2 k35
 have w43:=o42.lt
 have w171:=o36.lt
 refine z1bd _ _ _ _ (fun (μ:Nat) (y:Int) (H_5:zq)=>∃(t5:Bool),∃(q1_1 q1_2 q1_4 q1_5:Int),∃(q1_6:LN),∃(b46:Nat),Own H_5 b_1 [.int .i64 q1_1,.int .i64 q1_2,.slice none 0 0]∧Own H_5 b46 (q1_6.map fF)∧Own H_5 b_21 [.int .i64 q1_4,.int .i64 q1_5,.slice (some ⟨b46,0,none⟩) q1_6.length 1]∧(b_21≠b_1)∧(b46≠b_1)∧(b46≠b_21)∧Grow H H_5∧H.length≤b46∧(0:Int)≤y∧((y≤sa∨y≤(0:Int)))∧(q1_6.length:Int)≤16*y∧sa-y≤(μ:Int)∧z2u aa fa da sa ba=z4f aa fa da sa ba (μ+1) t5 y q1_1 q1_2 q1_4 q1_5 q1_6) (Int.toNat (sa-(0:Int))) _ H_4 ?_ ?_
 ·exact ⟨_,_,_,_,_,_,_,ω20,o42,ω21,ω2,ω2,ω2,g38,ω2,ω7,ω7,ω7,ω2,e⟩
 ·intro μ y  H_5 hI
  obtain ⟨t5,q1_1,q1_2,q1_4,q1_5,q1_6,b46,o44,o47,o45,n48,n49,n50,g51,l52,v_53,v_54,v_55,hμ,e⟩:=hI
  rw [z1bg]
  have e:=e.trans (ze7 aa fa da sa ba μ t5 y q1_1 q1_2 q1_4 q1_5 q1_6)
  have zy:=z17z (W:=da) (H:=sa) (y:=y) ba ω2 ω2 ω2 ω2
  have w56:=o44.lt
  have w57:=o45.lt
  have w58:=o47.lt
  have l59:=g51.1
  refine ⟨sa,(z1h (zt g51 i_p) 1 (Nat.le_of_ble_eq_true rfl)).trans rfl,?_⟩
  refine Br.intro (fun c_60=>?_) (fun c_60=>?_)
  ·have e:=e.trans (zw c_60)
   have c_60':=of_decide_eq_true c_60
   refine ⟨da,(z1h (zt g51 i_p) 0 (Nat.le_of_ble_eq_true rfl)).trans rfl,?_⟩
   refine ⟨da,(z1h (zt g51 i_p) 0 (Nat.le_of_ble_eq_true rfl)).trans rfl,?_⟩
   refine ⟨db,ba.length,pb,(z1h (zt g51 i_p) 2 (Nat.le_of_ble_eq_true rfl)).trans rfl,?_⟩
   rw [show IntKind.wrap .i64 (y*da)=(y*da) from zu ω2 ω2]
   rw [show IntKind.wrap .i64 (y+1)=(y+1) from zu ω2 ω2]
   rw [show IntKind.wrap .i64 ((y+1)*da)=((y+1)*da) from zu ω2 ω2]
   refine ⟨by omega,by omega,by omega,?_⟩
   have i61:=z9d cc (lo:=(y*da)) (hi:=((y+1)*da)) ω2 ω2 ω2
   refine z19u ⟨bb,aa.length,nb,fa,_,_,(zt g51 i_s),(ec.grow g51),(i61.grow g51),ω0,ω0,fun a62 n63 e_64 a66 n67 e68 H_6 g71 r65 r69 p87=>?_⟩
   have z70:=zem aa fa ((((ba).drop ((y*da):Int).toNat).take ((((y+1)*da):Int)-(y*da)).toNat))
   have l72:=g71.1
   have g73:=g51.trans g71
   have l74:=g73.1
   have o75:=o44.grow g71
   have w76:=o75.lt
   have o77:=o45.grow g71
   have w78:=o77.lt
   have o79:=o47.grow g71
   have w80:=o79.lt
   obtain rfl:=r65.isL.eqn
   have u81:=r65.up
   have u82:=r65.lo
   obtain rfl:=r69.isL.eqn
   have u84:=r69.up
   have u85:=r69.lo
   refine Br.intro (fun c88=>?_) (fun c88=>?_)
   ·have e:=e.trans (zw c88)
    have c_88n:=z1f c88
    refine Lt.setN (n:=3) o75 (Nat.le_of_ble_eq_true rfl) rfl (fun H_7 hl_89 o91 k90=>?_)
    have o91:Own H_7 b_1 [.int .i64 0,.int .i64 0,.slice none 0 0]:=o91
    have l92:=k90.1
    have g93:=g73.keep (b:=b_1) ω2 k90
    have l94:=g93.1
    have o95:=o77.keep ω2 k90
    have w96:=o95.lt
    have o97:=o79.keep ω2 k90
    have w98:=o97.lt
    have r99:=r65.keep u81 ω2 k90
    have r100:=r69.keep u84 ω2 k90
    have w101:=o91.lt
    rw [zm6]
    refine ⟨0,0,none,0,0,(o91.rdN (Nat.le_of_ble_eq_true rfl)).trans rfl,?_⟩
    rw [e] at hk
    exact hk _ _ _ H_7 g93 ω19
   ·have e:=e.trans (zv c88)
    have c_88n:=z1e c88
    refine ⟨some ⟨b46,0,none⟩,q1_6.length,1,(o77.rdC _).trans rfl,?_⟩
    refine ⟨_,_,o79.ownB ω3 rfl,(z2q r65.isL),(fun h=>by cases h),ω25,?_⟩
    refine Ap.app o79 rfl rfl (fun b106 H_8 q158 hl_102 o103 k104=>?_)
    have o103:=z2b o103
    have l107:=k104.1
    have g108:=g73.keep (b:=b46) ω2 k104
    have l109:=g108.1
    have o110:=o75.keep ω2 k104
    have w111:=o110.lt
    have o112:=o77.keep ω2 k104
    have w113:=o112.lt
    have r114:=r65.keep u81 ω2 k104
    have r115:=r69.keep u84 ω2 k104
    have w159:=o103.lt
    refine Lt.set o112 (Nat.le_of_ble_eq_true rfl) (fun H_9 hl_116 o118 k117=>?_)
    have o118:Own H_9 b_21 [.int .i64 q1_4,.int .i64 q1_5,.slice (some ⟨b106,0,none⟩) (q1_6.length+(((z6d aa fa ((((ba).drop ((y*da):Int).toNat).take ((((y+1)*da):Int)-(y*da)).toNat))).1).length)) 1]:=o118
    have l119:=k117.1
    have g120:=g108.keep (b:=b_21) ω2 k117
    have l121:=g120.1
    have o122:=o110.keep ω2 k117
    have w123:=o122.lt
    have o124:=o103.keep ω2 k117
    have w125:=o124.lt
    have r126:=r114.keep u81 ω2 k117
    have r127:=r115.keep u84 ω2 k117
    have w157:=o118.lt
    refine ⟨some ⟨b106,0,none⟩,q1_6.length+(((z6d aa fa ((((ba).drop ((y*da):Int).toNat).take ((((y+1)*da):Int)-(y*da)).toNat))).1).length),1,(o118.rdC _).trans rfl,?_⟩
    refine ⟨_,_,o124.ownB ω3 rfl,(z2q r127.isL),(fun h=>by cases h),ω25,?_⟩
    refine Ap.app o124 rfl rfl (fun b132 H_10 q155 hl_128 o129 k130=>?_)
    have o129:=z2b o129
    have l133:=k130.1
    have g134:=g120.keep (b:=b106) ω2 k130
    have l135:=g134.1
    have o136:=o122.keep ω2 k130
    have w137:=o136.lt
    have o138:=o118.keep ω2 k130
    have w139:=o138.lt
    have r140:=r126.keep u81 ω2 k130
    have r141:=r127.keep u84 ω2 k130
    have w156:=o129.lt
    refine Lt.set o138 (Nat.le_of_ble_eq_true rfl) (fun H_11 hl_142 o144 k143=>?_)
    have o144:Own H_11 b_21 [.int .i64 q1_4,.int .i64 q1_5,.slice (some ⟨b132,0,none⟩) ((q1_6.length+(((z6d aa fa ((((ba).drop ((y*da):Int).toNat).take ((((y+1)*da):Int)-(y*da)).toNat))).1).length))+(((z6d aa fa ((((ba).drop ((y*da):Int).toNat).take ((((y+1)*da):Int)-(y*da)).toNat))).2.1).length)) 1]:=o144
    have l145:=k143.1
    have g146:=g134.keep (b:=b_21) ω2 k143
    have l147:=g146.1
    have o148:=o136.keep ω2 k143
    have w149:=o148.lt
    have o150:=o129.keep ω2 k143
    have w151:=o150.lt
    have r152:=r140.keep u81 ω2 k143
    have r153:=r141.keep u84 ω2 k143
    have w154:=o144.lt
    refine z1be (μ-1) ω17 ⟨_,_,_,_,_,_,_,(by first | exact o148 | (have hbx:=o148;(try simp only [List.length_append,List.length_cons,List.length_nil,Nat.zero_add] at hbx);(try simp only [List.length_append,List.length_cons,List.length_nil,Nat.zero_add]);exact hbx)),o150,(by first | exact o144 | (have hbx:=o144;(try simp only [List.length_append,List.length_cons,List.length_nil,Nat.zero_add] at hbx);(try simp only [List.length_append,List.length_cons,List.length_nil,Nat.zero_add]);exact hbx)),ω2,ω2,ω2,g146,ω2,ω1,ω1,ω1,ω17,ω13⟩
  ·have e:=e.trans (zv c_60)
   have c_60':=of_decide_eq_false c_60
   rw [zvc]
   refine ⟨q1_4,q1_5,some ⟨b46,0,none⟩,q1_6.length,1,(o45.rdN (Nat.le_of_ble_eq_true rfl)).trans rfl,?_⟩
   refine Lt.setN (n:=3) o44 (Nat.le_of_ble_eq_true rfl) rfl (fun H_12 hl_160 o162 k161=>?_)
   have o162:Own H_12 b_1 [.int .i64 q1_4,.int .i64 q1_5,.slice (some ⟨b46,0,none⟩) q1_6.length 1]:=o162
   have l163:=k161.1
   have g164:=g51.keep (b:=b_1) ω2 k161
   have l165:=g164.1
   have o166:=o45.keep ω2 k161
   have w167:=o166.lt
   have o168:=o47.keep ω2 k161
   have w169:=o168.lt
   have w170:=o162.lt
   refine ⟨q1_4,q1_5,some ⟨b46,0,none⟩,q1_6.length,1,(o162.rdN (Nat.le_of_ble_eq_true rfl)).trans rfl,?_⟩
   rw [e] at hk
   exact hk _ _ _ H_12 g164 (o168.ownS ω5 ω2)
theorem z1bf:FnOk Tryz.prog 152 z16s:=FnOk.bodyF mix_ok zsr Tryz.func152 rfl ω9 ω9 fun args H=>by
 unfold z15o
 split
 ·refine ⟨?_,?_,?_,?_,fun K hk=>zvb _ _ H K hk⟩
  ·intro K K' h hk;obtain ⟨bb,jb,nb,fa,da,sa,db,ib,pb,aa,ba,i_s,i_p,ec,cc,bd_175,bd_176,pr0,pr1,pr2,pr3,pr4,k⟩:=hk;exact ⟨bb,jb,nb,fa,da,sa,db,ib,pb,aa,ba,i_s,i_p,ec,cc,bd_175,bd_176,pr0,pr1,pr2,pr3,pr4,(fun ja oa ma H' gg ow0=>h _ _ (k ja oa ma H' gg ow0))⟩
  ·nofun
  ·intro K hk;obtain ⟨bb,jb,nb,fa,da,sa,db,ib,pb,aa,ba,i_s,i_p,ec,cc,bd_175,bd_176,pr0,pr1,pr2,pr3,pr4,k⟩:=hk;exact z4m fun a n e H1 g o=>⟨_,_,k a n e H1 g o⟩
  ·intro _ K hk;obtain ⟨bb,jb,nb,fa,da,sa,db,ib,pb,aa,ba,i_s,i_p,ec,cc,bd_175,bd_176,pr0,pr1,pr2,pr3,pr4,k⟩:=hk;exact ⟨bb,jb,nb,fa,da,sa,db,ib,pb,aa,ba,i_s,i_p,ec,cc,bd_175,bd_176,pr0,pr1,pr2,pr3,pr4,(fun ja oa ma H' gg ow0=>⟨gg,k ja oa ma H' gg ow0⟩)⟩
 ·exact Nice.no

def z2o (aa:LN) (fa:Nat) (da sa:Int) (ba:LN) (back:Bool):Int×Int×LN×Bool:=(bif back then ((z2m aa fa da sa ba).1,(z2m aa fa da sa ba).2.1,(z2m aa fa da sa ba).2.2.1,(z2m aa fa da sa ba).2.2.2) else ((z2u aa fa da sa ba).1,(z2u aa fa da sa ba).2.1,(z2u aa fa da sa ba).2.2.1,(z2u aa fa da sa ba).2.2.2))
def ze6:=@z2o.eq_1
def ziq (s p:Nat) (back:Bool) (H:zq) (K:Int→Int→OA→Nat→Nat→Bool→zq→Prop):Prop:=∃(bb:OA),∃(jb nb fa:Nat),∃(da sa:Int),∃(db:OA),∃(ib pb:Nat),∃(aa ba:LN),rdN H s 0 2=some [.slice bb jb nb,.float .f32 fa]∧rdN H p 0 3=some [.int .i64 da,.int .i64 sa,.slice db ib pb]∧IsL fF H bb jb aa∧IsL fF H db ib ba∧aa.length<1073741824∧ba.length<1073741824∧1≤da∧da≤16∧1≤sa∧sa≤16∧(ba.length:Int)=da*sa∧((∀(ja:OA) (oa ma:Nat),∀H':zq,Grow H H'→OwnS fF H' H.length ja oa ma ((z2o aa fa da sa ba back).2.2.1)→K ((z2o aa fa da sa ba back).1) ((z2o aa fa da sa ba back).2.1) ja oa ma ((z2o aa fa da sa ba back).2.2.2) H'))
theorem znk {s p:Nat} {back:Bool} {H:zq} {K:Int→Int→OA→Nat→Nat→Bool→zq→Prop} (h:∃(bb:OA),∃(jb nb fa:Nat),∃(da sa:Int),∃(db:OA),∃(ib pb:Nat),∃(aa ba:LN),rdN H s 0 2=some [.slice bb jb nb,.float .f32 fa]∧rdN H p 0 3=some [.int .i64 da,.int .i64 sa,.slice db ib pb]∧IsL fF H bb jb aa∧IsL fF H db ib ba∧aa.length<1073741824∧ba.length<1073741824∧1≤da∧da≤16∧1≤sa∧sa≤16∧(ba.length:Int)=da*sa∧((∀(ja:OA) (oa ma:Nat),∀H':zq,Grow H H'→OwnS fF H' H.length ja oa ma ((z2o aa fa da sa ba back).2.2.1)→K ((z2o aa fa da sa ba back).1) ((z2o aa fa da sa ba back).2.1) ja oa ma ((z2o aa fa da sa ba back).2.2.2) H'))):ziq s p back H K:=h
theorem z7t {ws:LN} {sc:Nat} {W Hi:Int} {l:LN} {back:Bool} (h1:1≤W) (h3:1≤Hi) (hl:(l.length:Int)=W*Hi) (h:(z2o ws sc W Hi l back).2.2.2=true):(z2o ws sc W Hi l back).1=W∧(z2o ws sc W Hi l back).2.1=Hi∧((z2o ws sc W Hi l back).2.2.1.length:Int)=W*Hi:=by
 rw [ze6] at h ⊢
 cases back with
 | true=>exact zf8 h1 h3 hl h
 | false=>exact zk1 h1 h3 hl h
/-! f1gz: function 127 -/
def zsh:Env:=envOf [(151,z16f),(152,z16s)]
def z15h (args:List Value) (H:zq):(Value→zq→Prop)→Prop:=match args with
 | [.pointer (some ⟨s,0,none⟩),.pointer (some ⟨p,0,none⟩),.bool back]=>fun K=>ziq s p back H fun (sd:Int) (pd:Int) (ja:OA) (oa:Nat) (ma:Nat) (r2:Bool) (H':zq)=>K (.tuple #[.agg #[.int .i64 sd,.int .i64 pd,.slice ja oa ma],.bool r2]) H'
 | _=>fun _=>False
def z16m:FSpec:={F:=z15h,quiet:=false,tame:=true}
theorem z1ar (s p:Nat) (back:Bool) (H:zq) (K:KT):z1a Tryz.prog zsh Tryz.f127 [.pointer (some ⟨s,0,none⟩),.pointer (some ⟨p,0,none⟩),.bool back] H K=
 (Al [.int .i64 0,.int .i64 0,.slice none 0 0] H fun b1 H1=>Br back (znd s p H1 fun (r1:Int) (r2:Int) (a1:OA) (r3:Nat) (r4:Nat) (r5:Bool) (H2:zq)=>isOwn H2 b1∧(∃l,rdN H2 b1 0 3=some l)∧Lt (setN H2 b1 0 [.int .i64 r1,.int .i64 r2,.slice a1 r3 r4]) fun H3=>∃c1:Int,∃c2:Int,∃kh:OA,∃mh:Nat,∃lh:Nat,  rdN H3 b1 0 3=some [.int .i64 c1,.int .i64 c2,.slice kh mh lh]∧K (.tuple #[.agg #[.int .i64 c1,.int .i64 c2,.slice kh mh lh],.bool r5]) H3) (znr s p H1 fun (r6:Int) (r7:Int) (a2:OA) (r8:Nat) (r9:Nat) (r10:Bool) (H4:zq)=>isOwn H4 b1∧(∃l,rdN H4 b1 0 3=some l)∧Lt (setN H4 b1 0 [.int .i64 r6,.int .i64 r7,.slice a2 r8 r9]) fun H5=>∃c4:Int,∃c5:Int,∃th:OA,∃vh:Nat,∃uh:Nat,  rdN H5 b1 0 3=some [.int .i64 c4,.int .i64 c5,.slice th vh uh]∧K (.tuple #[.agg #[.int .i64 c4,.int .i64 c5,.slice th vh uh],.bool r10]) H5)):=by kernel_rfl
theorem zsi:∀g,FnOk Tryz.prog g (zsh g):=FnOk.envOf (by
 intro x hx
 simp only [List.mem_cons,List.not_mem_nil,or_false] at hx
 rcases hx with rfl | rfl
 ·exact f15z_ok
 ·exact z1bf)
theorem zv0 (s p:Nat) (back:Bool) (H:zq) (K:KT) (h:ziq s p back H fun (sd:Int) (pd:Int) (ja:OA) (oa:Nat) (ma:Nat) (r2:Bool) (H':zq)=>K (.tuple #[.agg #[.int .i64 sd,.int .i64 pd,.slice ja oa ma],.bool r2]) H'):z1a Tryz.prog zsh Tryz.f127 [.pointer (some ⟨s,0,none⟩),.pointer (some ⟨p,0,none⟩),.bool back] H K:=by
 rw [z1ar]
 obtain ⟨bb,jb,nb,fa,da,sa,db,ib,pb,aa,ba,i_s,i_p,ec,cc,bd_54,bd_55,pr0,pr1,pr2,pr3,pr4,hk⟩:=h
 obtain rfl:=ec.eqn
 obtain rfl:=cc.eqn
 have e:(z2o aa fa da sa ba back)=_:=rfl
 have e:=e.trans (ze6 aa fa da sa ba back)
 have g0:=Grow.refl H
 refine Al.intro (fun b_1 H_1 hb_2 hl_3 g_4 o_5=>?_)
 have l_7:=g_4.1
 have g_8:=g0.trans g_4
 have l_9:=g_8.1
 have w53:=o_5.lt
 refine Br.intro (fun c_10=>?_) (fun c_10=>?_)
 ·have e:=e.trans (zw c_10)
  refine zz9 ⟨bb,aa.length,nb,fa,da,sa,db,ba.length,pb,_,_,(zt g_8 i_s),(zt g_8 i_p),(ec.grow g_8),(cc.grow g_8),ω0,ω0,ω16,ω16,ω16,ω16,ω16,fun a_11 n12 e_13 H_2 g15 r_14=>?_⟩
  have l_16:=g15.1
  have g_17:=g_8.trans g15
  have l_18:=g_17.1
  have o_19:=o_5.grow g15
  have w20:=o_19.lt
  obtain rfl:=r_14.isL.eqn
  have u21:=r_14.up
  have u22:=r_14.lo
  refine Lt.setN (n:=3) o_19 (Nat.le_of_ble_eq_true rfl) rfl (fun H_3 hl_24 o26 k25=>?_)
  have o26:Own H_3 b_1 [.int .i64 ((z2m aa fa da sa ba).1),.int .i64 ((z2m aa fa da sa ba).2.1),.slice a_11 (((z2m aa fa da sa ba).2.2.1).length) e_13]:=o26
  have l27:=k25.1
  have g28:=g_17.keep (b:=b_1) ω2 k25
  have l29:=g28.1
  have r_30:=r_14.keep u21 ω2 k25
  have w31:=o26.lt
  refine ⟨(z2m aa fa da sa ba).1,(z2m aa fa da sa ba).2.1,a_11,((z2m aa fa da sa ba).2.2.1).length,e_13,(o26.rdN (Nat.le_of_ble_eq_true rfl)).trans rfl,?_⟩
  rw [e] at hk
  exact hk _ _ _ H_3 g28 (r_30.weak ω2)
 ·have e:=e.trans (zv c_10)
  refine zzl ⟨bb,aa.length,nb,fa,da,sa,db,ba.length,pb,_,_,(zt g_8 i_s),(zt g_8 i_p),(ec.grow g_8),(cc.grow g_8),ω0,ω0,ω16,ω16,ω16,ω16,ω16,fun a32 n33 e34 H_4 g36 r_35=>?_⟩
  have l37:=g36.1
  have g38:=g_8.trans g36
  have l39:=g38.1
  have o40:=o_5.grow g36
  have w41:=o40.lt
  obtain rfl:=r_35.isL.eqn
  have u42:=r_35.up
  have u43:=r_35.lo
  refine Lt.setN (n:=3) o40 (Nat.le_of_ble_eq_true rfl) rfl (fun H_5 hl_45 o47 k46=>?_)
  have o47:Own H_5 b_1 [.int .i64 ((z2u aa fa da sa ba).1),.int .i64 ((z2u aa fa da sa ba).2.1),.slice a32 (((z2u aa fa da sa ba).2.2.1).length) e34]:=o47
  have l48:=k46.1
  have g49:=g38.keep (b:=b_1) ω2 k46
  have l50:=g49.1
  have r_51:=r_35.keep u42 ω2 k46
  have w52:=o47.lt
  refine ⟨(z2u aa fa da sa ba).1,(z2u aa fa da sa ba).2.1,a32,((z2u aa fa da sa ba).2.2.1).length,e34,(o47.rdN (Nat.le_of_ble_eq_true rfl)).trans rfl,?_⟩
  rw [e] at hk
  exact hk _ _ _ H_5 g49 (r_51.weak ω2)
theorem z1aq:FnOk Tryz.prog 127 z16m:=FnOk.bodyF mix_ok zsi Tryz.func127 rfl ω9 ω9 fun args H=>by
 unfold z15h
 split
 ·refine ⟨?_,?_,?_,?_,fun K hk=>zv0 _ _ _ H K hk⟩
  ·intro K K' h hk;obtain ⟨bb,jb,nb,fa,da,sa,db,ib,pb,aa,ba,i_s,i_p,ec,cc,bd_54,bd_55,pr0,pr1,pr2,pr3,pr4,k⟩:=hk;exact ⟨bb,jb,nb,fa,da,sa,db,ib,pb,aa,ba,i_s,i_p,ec,cc,bd_54,bd_55,pr0,pr1,pr2,pr3,pr4,(fun ja oa ma H' gg ow0=>h _ _ (k ja oa ma H' gg ow0))⟩
  ·nofun
  ·intro K hk;obtain ⟨bb,jb,nb,fa,da,sa,db,ib,pb,aa,ba,i_s,i_p,ec,cc,bd_54,bd_55,pr0,pr1,pr2,pr3,pr4,k⟩:=hk;exact z4m fun a n e H1 g o=>⟨_,_,k a n e H1 g o⟩
  ·intro _ K hk;obtain ⟨bb,jb,nb,fa,da,sa,db,ib,pb,aa,ba,i_s,i_p,ec,cc,bd_54,bd_55,pr0,pr1,pr2,pr3,pr4,k⟩:=hk;exact ⟨bb,jb,nb,fa,da,sa,db,ib,pb,aa,ba,i_s,i_p,ec,cc,bd_54,bd_55,pr0,pr1,pr2,pr3,pr4,(fun ja oa ma H' gg ow0=>⟨gg,k ja oa ma H' gg ow0⟩)⟩
 ·exact Nice.no
theorem Own.putX {H:zq} {c:Nat} {cs:List Value} (h:Own H c cs) (cs':List Value):∃H1,z3a c H H1∧Own H1 c cs':=by
 refine ⟨H.set c (some {cells:=cs',own:=true}),⟨by simp,fun i _ hne=>by rw [List.getElem?_set_ne (Ne.symm hne)]⟩,?_⟩
 show (H.set c _)[c]? =_
 rw [List.getElem?_set_self h.lt]
theorem zhk {H H':zq} {b c off n:Nat} {l:List Value} (k:z3a c H H') (hne:b≠c) (h:rdN H b off n=some l):rdN H' b off n=some l:=by
 have hb:b<H.length:=by
  unfold rdN rdB at h
  by_cases hb:b<H.length
  ·exact hb
  ·rw [List.getElem?_eq_none ω2] at h;cases h
 unfold rdN rdB at h ⊢
 rw [k.2 b hb hne];exact h
theorem z12y {H H':zq} {c n:Nat} {a:OA} {xs:LN} (k:z3a c H H') (h:IsL fF H a n xs) (hne:∀x,a=some x→x.block≠c):IsL fF H' a n xs:=by
 unfold IsL rdS at h ⊢
 cases n with
 | zero=>exact h
 | succ n=>
  cases a with
  | none=>exact h
  | some x=>
   obtain ⟨b,off,sub⟩:=x
   cases sub with
   | none=>exact zhk k (hne _ rfl) h
   | some _=>exact h
theorem z3a.trans {c:Nat} {H H1 H2:zq} (h:z3a c H H1) (k:z3a c H1 H2):z3a c H H2:=⟨Nat.le_trans h.1 k.1,fun i hi hne=>(k.2 i (Nat.lt_of_lt_of_le hi h.1) hne).trans (h.2 i hi hne)⟩
theorem z3a.grow {c:Nat} {H H1 H2:zq} (h:z3a c H H1) (k:Grow H1 H2):z3a c H H2:=⟨Nat.le_trans h.1 k.1,fun i hi hne=>(k.2 i (Nat.lt_of_lt_of_le hi h.1)).trans (h.2 i hi hne)⟩
def putS (l q:LN) (W pw x y:Int):Nat→LN
 | 0=>l
 | i+1=>(putS l q W pw x y i).set ((y+Int.tdiv (i:Int) pw)*W+x+Int.tmod (i:Int) pw).toNat (q.getD i 0)
@[simp] theorem z7z (l q:LN) (W pw x y:Int):∀i,(putS l q W pw x y i).length=l.length:=by
 intro i
 induction i with
 | zero=>rfl
 | succ i ih=>exact (List.length_set ..).trans ih
def znx (p part:Nat) (x y:Int) (H:zq) (K:zq→Prop):Prop:=
 ∃(W Hi:Int) (c e:Nat) (l:LN) (pw ph:Int) (qa:OA) (qn qe:Nat) (q:LN),rdN H p 0 3=some [.int .i64 W,.int .i64 Hi,.slice (some ⟨c,0,none⟩) l.length e]∧Own H c (l.map fF)∧rdN H part 0 3=some [.int .i64 pw,.int .i64 ph,.slice qa qn qe]∧IsL fF H qa qn q∧(∀x,qa=some x→x.block≠c)∧p≠c∧part≠c∧(l.length:Int)=W*Hi∧(q.length:Int)=pw*ph∧
  0≤x∧0≤y∧1≤pw∧1≤ph∧x+pw≤W∧y+ph≤Hi∧W≤16∧Hi≤16∧(∀H':zq,z3a c H H'→Own H' c ((putS l q W pw x y (pw*ph).toNat).map fF)→K H')
theorem zzq {p part:Nat} {x y:Int} {H:zq} {K:zq→Prop} (h:∃(W Hi:Int) (c e:Nat) (l:LN) (pw ph:Int) (qa:OA) (qn qe:Nat) (q:LN),rdN H p 0 3=some [.int .i64 W,.int .i64 Hi,.slice (some ⟨c,0,none⟩) l.length e]∧Own H c (l.map fF)∧rdN H part 0 3=some [.int .i64 pw,.int .i64 ph,.slice qa qn qe]∧IsL fF H qa qn q∧(∀x,qa=some x→x.block≠c)∧p≠c∧part≠c∧(l.length:Int)=W*Hi∧(q.length:Int)=pw*ph∧
  0≤x∧0≤y∧1≤pw∧1≤ph∧x+pw≤W∧y+ph≤Hi∧W≤16∧Hi≤16∧(∀H':zq,z3a c H H'→Own H' c ((putS l q W pw x y (pw*ph).toNat).map fF)→K H')):znx p part x y H K:=h
/-! f1yz: function 128 -/
def zcx:Env:=envOf []
def z15x (args:List Value) (H:zq):(Value→zq→Prop)→Prop:=match args with
 | [.pointer (some ⟨p,0,none⟩),.pointer (some ⟨part,0,none⟩),.int .i64 x,.int .i64 y]=>fun K=>znx p part x y H fun  (H':zq)=>K (.tuple #[]) H'
 | _=>fun _=>False
def z16z:FSpec:={F:=z15x,quiet:=false,tame:=false}
theorem z1cd (p part:Nat) (x y:Int) (H:zq) (K:KT):z1a Tryz.prog zcx Tryz.f128 [.pointer (some ⟨p,0,none⟩),.pointer (some ⟨part,0,none⟩),.int .i64 x,.int .i64 y] H K=
 (z1j (exL Tryz.prog zcx (cl (cl (cr (zr Tryz.f128)))) 271 0 [(0,0)]) (.pointer (some ⟨p,0,none⟩)::.pointer (some ⟨part,0,none⟩)::.int .i64 x::.int .i64 y::ud4 (.int .i64 0::ud47 [])) H (zx 0 (retK Tryz.prog Tryz.f128 K))):=by kernel_rfl
abbrev zdk (p part:Nat) (x y i:Int)  :List Value:=(.pointer (some ⟨p,0,none⟩)::.pointer (some ⟨part,0,none⟩)::.int .i64 x::.int .i64 y::ud4 (.int .i64 i::ud47 []))
theorem z1cc (p part:Nat) (x y i:Int)  (H:zq) (R:Post):exL Tryz.prog zcx (cl (cl (cr (zr Tryz.f128)))) 271 0 [(0,0)] (zdk p part x y i) H R=
 (∃x1:Int,  rdC H part 0=some (.int .i64 x1)∧∃x2:Int,  rdC H part 1=some (.int .i64 x2)∧Br (decide ((i:Int)<IntKind.wrap .i64 (x1*x2))) (∃rj:OA,∃mj:Nat,∃wj:Nat,  rdC H p 2=some (.slice rj mj wj)∧∃x4:Int,  rdC H part 0=some (.int .i64 x4)∧x4≠(0:Int)∧∃x5:Int,  rdC H p 0=some (.int .i64 x5)∧∃x6:Int,  rdC H part 0=some (.int .i64 x6)∧x6≠(0:Int)∧∃nj:OA,∃xi:Nat,∃tk:Nat,  rdC H part 2=some (.slice nj xi tk)∧(0:Int)≤i∧i<(xi:Int)∧∃b1 f1,(nj:OA)=some ⟨b1,f1,none⟩∧∃x8:Nat,  rdC H b1 (f1+(i:Int).toNat*1)=some (.float .f32 x8)∧(0:Int)≤IntKind.wrap .i64 ((IntKind.wrap .i64 ((IntKind.wrap .i64 ((IntKind.wrap .i64 (y+(IntKind.wrap .i64 (Int.tdiv i x4))))*x5))+x))+(Int.tmod i x6))∧IntKind.wrap .i64 ((IntKind.wrap .i64 ((IntKind.wrap .i64 ((IntKind.wrap .i64 (y+(IntKind.wrap .i64 (Int.tdiv i x4))))*x5))+x))+(Int.tmod i x6))<(mj:Int)∧∃b2 f2,(rj:OA)=some ⟨b2,f2,none⟩∧isOwn H b2∧(∃l,rdN H b2 (f2+(IntKind.wrap .i64 ((IntKind.wrap .i64 ((IntKind.wrap .i64 ((IntKind.wrap .i64 (y+(IntKind.wrap .i64 (Int.tdiv i x4))))*x5))+x))+(Int.tmod i x6)):Int).toNat*1) 1=some l)∧Lt (setC H b2 (f2+(IntKind.wrap .i64 ((IntKind.wrap .i64 ((IntKind.wrap .i64 ((IntKind.wrap .i64 (y+(IntKind.wrap .i64 (Int.tdiv i x4))))*x5))+x))+(Int.tmod i x6)):Int).toNat*1) (.float .f32 x8)) fun H1=>R .normal (.pointer (some ⟨p,0,none⟩)::.pointer (some ⟨part,0,none⟩)::.int .i64 x::.int .i64 y::ud4 (.int .i64 (IntKind.wrap .i64 (i+1))::ud47 [])) H1) (R (.exit 0) (ud56 []) H)):=by kernel_rfl
def zmc (p part:Nat) (x y:Int) (Inv:Nat→Int→zq→Prop):Nat→List Value→zq→Prop:=fun μ tm H=>∃(i:Int),tm=(zdk p part x y i)∧Inv μ i H
theorem z1c9 (p part:Nat) (x y:Int) {Q:Post} (Inv:Nat→Int→zq→Prop) (ν:Nat) (i:Int)  (H:zq) (h0:Inv ν i H)
  (hs:∀(μ:Nat) (i:Int)  (H:zq),Inv μ i H→exL Tryz.prog zcx (cl (cl (cr (zr Tryz.f128)))) 271 0 [(0,0)] (zdk p part x y i) H (z1b (zmc p part x y Inv) μ Q)):z1j (exL Tryz.prog zcx (cl (cl (cr (zr Tryz.f128)))) 271 0 [(0,0)]) (zdk p part x y i) H Q:=
 ⟨zmc p part x y Inv,ν,⟨i,rfl,h0⟩,fun μ tm H h=>by obtain ⟨i,rfl,hI⟩:=h;exact hs μ i  H hI⟩
theorem z1ca {p part:Nat} {x y:Int} {Q:Post} {Inv:Nat→Int→zq→Prop} {μ:Nat} (μ':Nat) {i:Int}  {H:zq} (hm:μ'<μ) (hI:Inv μ' i H):z1b (zmc p part x y Inv) μ Q .normal (zdk p part x y i) H:=⟨μ',hm,i,rfl,hI⟩
theorem zvr  (H:zq) (K:KT)  {I:Nat→List Value→zq→Prop} {μ:Nat}:z1b I μ (zx 0 (retK Tryz.prog Tryz.f128 K)) (.exit 0) (ud56 []) H=
 (K (.tuple #[]) H):=by kernel_rfl
theorem zt5:∀g,FnOk Tryz.prog g (zcx g):=FnOk.envOf (by
 intro x hx;cases hx)
theorem zvq (p part:Nat) (x y:Int) (H:zq) (K:KT) (h:znx p part x y H fun  (H':zq)=>K (.tuple #[]) H'):z1a Tryz.prog zcx Tryz.f128 [.pointer (some ⟨p,0,none⟩),.pointer (some ⟨part,0,none⟩),.int .i64 x,.int .i64 y] H K:=by
 rw [z1cd]
 obtain ⟨W,Hi,c,e,l,pw,ph,qa,qn,qe,q,h1,oc,h2,iq,hne,pc,qc,hl,hq,x0,y0,w1,w2,wx,wy,wW,wH,hk⟩:=h
 obtain rfl:=iq.eqn
 have hm:=z5l (W:=pw) (H:=ph) w1 ω2 w2 ω2
 obtain ⟨n,hn⟩:∃n:Nat,pw*ph=(n:Int):=⟨(pw*ph).toNat,by omega⟩
 rw [hn,Int.toNat_natCast] at hk
 have cl:=oc.lt
 refine z1c9 p part x y (fun μ t H'=>∃k:Nat,t=(k:Int)∧k≤n∧μ=n-k∧z3a c H H'∧Own H' c ((putS l q W pw x y k).map fF)) n 0 H
  ⟨0,rfl,Nat.zero_le _,rfl,⟨Nat.le_refl _,fun _ _ _=>rfl⟩,oc⟩ ?_
 intro μ t H' hI
 obtain ⟨k,rfl,hkm,rfl,kp,oc'⟩:=hI
 have r1:=zhk kp pc h1
 have r2:=zhk kp qc h2
 have i2:=z12y kp iq hne
 have rp:∀i,i<3→rdC H' p i=[Value.int .i64 W,.int .i64 Hi,.slice (some ⟨c,0,none⟩) l.length e][i]? :=fun i hi=>z1h r1 i hi
 have rq:∀i,i<3→rdC H' part i=[Value.int .i64 pw,.int .i64 ph,.slice qa q.length qe][i]? :=fun i hi=>z1h r2 i hi
 rw [z1cc]
 refine ⟨pw,(rq 0 ω23).trans rfl,ph,(rq 1 ω23).trans rfl,?_⟩
 rw [show IntKind.wrap .i64 (pw*ph)=(n:Int) from (zu ω2 ω2).trans hn]
 refine Br.intro (fun hd=>?_) (fun hd=>?_)
 ·have hd':=of_decide_eq_true hd
  obtain ⟨c1,c2,c3,c4,c5,c6,c7⟩:=zui (x:=x) (y:=y) (W:=W) (H:=Hi) (w:=pw) (h:=ph) (i:=(k:Int)) x0 y0 w1 w2 wx wy wW wH ω2 ω2
  rw [show IntKind.wrap .i64 ((k:Int)+1)=(k:Int)+1 from zu ω2 ω2]
  have hkq:k<q.length:=by omega
  obtain ⟨bq,oq,eq⟩:=i2.pos ω2
  refine ⟨some ⟨c,0,none⟩,l.length,e,(rp 2 ω23).trans rfl,pw,(rq 0 ω23).trans rfl,by omega,W,(rp 0 ω23).trans rfl,pw,(rq 0 ω23).trans rfl,by omega,qa,q.length,qe,(rq 2 ω23).trans rfl,by omega,by omega,bq,oq,eq,q.getD k 0,i2.rd (Grow.refl H') eq (by rw [Int.toNat_natCast];exact hkq) 0,?_⟩
  rw [show IntKind.wrap .i64 (Int.tdiv (k:Int) pw)=Int.tdiv (k:Int) pw from zu ω2 ω2,show IntKind.wrap .i64 (y+Int.tdiv (k:Int) pw)=y+Int.tdiv (k:Int) pw from zu ω2 ω2,show IntKind.wrap .i64 ((y+Int.tdiv (k:Int) pw)*W)=(y+Int.tdiv (k:Int) pw)*W from zu ω2 ω2,show IntKind.wrap .i64 ((y+Int.tdiv (k:Int) pw)*W+x)=(y+Int.tdiv (k:Int) pw)*W+x from zu ω2 ω2,show IntKind.wrap .i64 ((y+Int.tdiv (k:Int) pw)*W+x+Int.tmod (k:Int) pw)=(y+Int.tdiv (k:Int) pw)*W+x+Int.tmod (k:Int) pw from zu ω2 ω2]
  refine ⟨by omega,by omega,c,0,rfl,?_⟩
  have lc:0+((y+Int.tdiv (k:Int) pw)*W+x+Int.tmod (k:Int) pw).toNat*1<((putS l q W pw x y k).map fF).length:=by rw [List.length_map,z7z];omega
  refine Lt.set oc' lc fun H1 l1 o1 k1=>?_
  refine z1ca (n-(k+1)) ω2 ⟨k+1,by omega,by omega,rfl,kp.trans k1,?_⟩
  have e3:0+((y+Int.tdiv (k:Int) pw)*W+x+Int.tmod (k:Int) pw).toNat*1=((y+Int.tdiv (k:Int) pw)*W+x+Int.tmod (k:Int) pw).toNat:=by omega
  have o2:=o1
  rw [e3,show (Value.float .f32 (q.getD k 0))=fF (q.getD k 0) from rfl,←List.map_set] at o2
  exact o2
 ·have hd':=of_decide_eq_false hd
  obtain rfl:k=n:=by omega
  rw [zvr]
  exact hk H' kp oc'
theorem z1cb:FnOk Tryz.prog 128 z16z:=FnOk.bodyF mix_ok zt5 Tryz.func128 rfl ω9 ω9 fun args H=>by
 unfold z15x
 split
 ·refine ⟨?_,?_,?_,?_,fun K hk=>zvq _ _ _ _ H K hk⟩
  ·intro K K' h hk;obtain ⟨W,Hi,c,e,l,pw,ph,qa,qn,qe,q,h1,oc,h2,iq,hne,pc,qc,hl,hq,x0,y0,w1,w2,wx,wy,wW,wH,k⟩:=hk;exact ⟨W,Hi,c,e,l,pw,ph,qa,qn,qe,q,h1,oc,h2,iq,hne,pc,qc,hl,hq,x0,y0,w1,w2,wx,wy,wW,wH,(fun H' kk ow=>h _ _ (k H' kk ow))⟩
  ·nofun
  ·intro K hk;obtain ⟨W,Hi,c,e,l,pw,ph,qa,qn,qe,q,h1,oc,h2,iq,hne,pc,qc,hl,hq,x0,y0,w1,w2,wx,wy,wW,wH,k⟩:=hk;exact (oc.putX _).elim fun H1 h=>⟨_,_,k H1 h.1 h.2⟩
  ·nofun
 ·exact Nice.no
abbrev PicT:=Int×Int×LN×Bool
def z5n (q:PicT) (f:Int→Int→LN→PicT):PicT:=bif q.2.2.2 then f q.1 q.2.1 q.2.2.1 else (0,0,[],false)
def z2f (f:Nat→Int→Int→LN→PicT):Nat→Nat→Int→Int→LN→PicT
 | 0,_,a,b,l=>(a,b,l,true)
 | n+1,k,a,b,l=>z5n (f k a b l) fun a b l=>z2f f n (k+1) a b l
theorem z1r {q:PicT} {f:Int→Int→LN→PicT} (h:q.2.2.2=true):z5n q f=f q.1 q.2.1 q.2.2.1:=by unfold z5n;rw [h,cond_true]
theorem z3q {q:PicT} {f:Int→Int→LN→PicT} (h:q.2.2.2=false):z5n q f=(0,0,[],false):=by unfold z5n;rw [h,cond_false]
theorem z5p {f:Nat→Int→Int→LN→PicT} {n k:Nat} {a b:Int} {l:LN}:z2f f (n+1) k a b l=z5n (f k a b l) fun a b l=>z2f f n (k+1) a b l:=rfl
theorem zxc {f:Nat→Int→Int→LN→PicT} (hf:∀k a b l,(f k a b l).2.2.1.length≤1024):∀(n k:Nat) (a b:Int) (l:LN),l.length≤1024→(z2f f n k a b l).2.2.1.length≤1024:=by
 intro n
 induction n with
 | zero=>intro k a b l h;exact h
 | succ n ih=>
  intro k a b l h
  unfold z2f
  have h1:=hf k a b l
  generalize f k a b l=q at *
  cases hq:q.2.2.2 with
  | false=>rw [z3q hq];exact Nat.zero_le _
  | true=>rw [z1r hq];exact ih _ _ _ _ h1
def z6e (ws:LN) (sc:Nat) (back:Bool) (k:Nat) (W Hi:Int) (l:LN):PicT:=
 bif (back==((k:Int)==0)) then z5n (z2o ws sc (z1u W Hi l).1 (z1u W Hi l).2.1 (z1u W Hi l).2.2 back) fun a b c=>((z1u a b c).1,(z1u a b c).2.1,(z1u a b c).2.2,true)
 else z2o ws sc W Hi l back
theorem z13q (ws:LN) (sc:Nat) (back:Bool) (k:Nat) (W Hi:Int) (l:LN):z6e ws sc back k W Hi l=
 (bif (back==((k:Int)==0)) then z5n (z2o ws sc (z1u W Hi l).1 (z1u W Hi l).2.1 (z1u W Hi l).2.2 back) fun a b c=>((z1u a b c).1,(z1u a b c).2.1,(z1u a b c).2.2,true)
 else z2o ws sc W Hi l back):=rfl
def zg1 (ws:LN) (sc:Nat) (pW:Int) (l:LN) (wide high:Int) (back:Bool):Bool×LN:=
 bif (z2f (z6e ws sc back) 2 0 wide high (picL wide.toNat high.toNat (z5a l 0 0 pW))).2.2.2 then (true,putS l (z2f (z6e ws sc back) 2 0 wide high (picL wide.toNat high.toNat (z5a l 0 0 pW))).2.2.1 pW wide 0 0 (wide*high).toNat) else (false,l)
def znq (s p:Nat) (wide high:Int) (back:Bool) (H:zq) (K:Bool→zq→Prop):Prop:=
 ∃(wa:OA) (wn we sc:Nat) (ws:LN) (pW pH:Int) (c e:Nat) (l:LN),rdN H s 0 2=some [.slice wa wn we,.float .f32 sc]∧IsL fF H wa wn ws∧ws.length<1073741824∧(∀x,wa=some x→x.block≠c)∧rdN H p 0 3=some [.int .i64 pW,.int .i64 pH,.slice (some ⟨c,0,none⟩) l.length e]∧Own H c (l.map fF)∧s≠c∧p≠c∧(l.length:Int)=pW*pH∧pW≤16∧pH≤16∧
  1≤wide∧wide≤pW∧1≤high∧high≤pH∧(∀H':zq,z3a c H H'→Own H' c ((zg1 ws sc pW l wide high back).2.map fF)→K ((zg1 ws sc pW l wide high back).1) H')
theorem zzk {s p:Nat} {wide high:Int} {back:Bool} {H:zq} {K:Bool→zq→Prop} (h:∃(wa:OA) (wn we sc:Nat) (ws:LN) (pW pH:Int) (c e:Nat) (l:LN),rdN H s 0 2=some [.slice wa wn we,.float .f32 sc]∧IsL fF H wa wn ws∧ws.length<1073741824∧(∀x,wa=some x→x.block≠c)∧rdN H p 0 3=some [.int .i64 pW,.int .i64 pH,.slice (some ⟨c,0,none⟩) l.length e]∧Own H c (l.map fF)∧s≠c∧p≠c∧(l.length:Int)=pW*pH∧pW≤16∧pH≤16∧
  1≤wide∧wide≤pW∧1≤high∧high≤pH∧(∀H':zq,z3a c H H'→Own H' c ((zg1 ws sc pW l wide high back).2.map fF)→K ((zg1 ws sc pW l wide high back).1) H')):znq s p wide high back H K:=h
/-! f1nz: function 103 -/
def z9x:Env:=envOf [(121,z16p),(126,z16t),(127,z16m),(128,z16z)]
def z15n (args:List Value) (H:zq):(Value→zq→Prop)→Prop:=match args with
 | [.pointer (some ⟨s,0,none⟩),.pointer (some ⟨p,0,none⟩),.int .i64 wide,.int .i64 high,.bool back]=>fun K=>znq s p wide high back H fun (r1:Bool) (H':zq)=>K (.bool r1) H'
 | _=>fun _=>False
def z16r:FSpec:={F:=z15n,quiet:=false,tame:=false}
theorem z1bc (s p:Nat) (wide high:Int) (back:Bool) (H:zq) (K:KT):z1a Tryz.prog z9x Tryz.f103 [.pointer (some ⟨s,0,none⟩),.pointer (some ⟨p,0,none⟩),.int .i64 wide,.int .i64 high,.bool back] H K=
 (zno p 0 0 wide high H fun (r1:Int) (r2:Int) (a1:OA) (r3:Nat) (r4:Nat) (H1:zq)=>Al [.int .i64 0,.int .i64 0,.slice none 0 0] H1 fun b1 H2=>isOwn H2 b1∧(∃l,rdN H2 b1 0 3=some l)∧Lt (setN H2 b1 0 [.int .i64 r1,.int .i64 r2,.slice a1 r3 r4]) fun H3=>z1j (exL Tryz.prog z9x (cl (cl (cr (cl (cr (cr (zr Tryz.f103))))))) 6163 1024 [(0,2050)]) (.pointer (some ⟨s,0,none⟩)::.pointer (some ⟨p,0,none⟩)::ud2 (.bool back::ud6 (.pointer (some ⟨b1,0,none⟩)::.int .i64 0::ud30 []))) H3 (zx 0 (seqQ (exL Tryz.prog z9x (cr (cr (cr (zr Tryz.f103)))) 1024 1024 []) (retK Tryz.prog Tryz.f103 K)))):=by kernel_rfl
abbrev zdd (b1:Nat) (back:Bool) (p s:Nat) (k:Int)  :List Value:=(.pointer (some ⟨s,0,none⟩)::.pointer (some ⟨p,0,none⟩)::ud2 (.bool back::ud6 (.pointer (some ⟨b1,0,none⟩)::.int .i64 k::ud30 [])))
theorem z1bb (b1:Nat) (back:Bool) (p s:Nat) (k:Int)  (H:zq) (R:Post):exL Tryz.prog z9x (cl (cl (cr (cl (cr (cr (zr Tryz.f103))))))) 6163 1024 [(0,2050)] (zdd b1 back p s k) H R=
 (Br (decide ((k:Int)<2)) (Br (back==((k:Int)==0)) (zfl b1 H fun (r5:Int) (r6:Int) (a2:OA) (r7:Nat) (r8:Nat) (H4:zq)=>isOwn H4 b1∧(∃l,rdN H4 b1 0 3=some l)∧Lt (setN H4 b1 0 [.int .i64 r5,.int .i64 r6,.slice a2 r7 r8]) fun H5=>ziq s b1 back H5 fun (r9:Int) (r10:Int) (a3:OA) (r11:Nat) (r12:Nat) (r13:Bool) (H6:zq)=>Al [.int .i64 0,.int .i64 0,.slice none 0 0] H6 fun b2 H7=>isOwn H7 b2∧(∃l,rdN H7 b2 0 3=some l)∧Lt (setN H7 b2 0 [.int .i64 r9,.int .i64 r10,.slice a3 r11 r12]) fun H8=>Br (!r13) (R .ret (ud10 (.bool false::ud32 [])) H8) (∃c1:Int,∃c2:Int,∃kh:OA,∃mh:Nat,∃lh:Nat,  rdN H8 b2 0 3=some [.int .i64 c1,.int .i64 c2,.slice kh mh lh]∧isOwn H8 b1∧(∃l,rdN H8 b1 0 3=some l)∧Lt (setN H8 b1 0 [.int .i64 c1,.int .i64 c2,.slice kh mh lh]) fun H9=>Br (back==((k:Int)==0)) (zfl b1 H9 fun (r14:Int) (r15:Int) (a4:OA) (r16:Nat) (r17:Nat) (H10:zq)=>isOwn H10 b1∧(∃l,rdN H10 b1 0 3=some l)∧Lt (setN H10 b1 0 [.int .i64 r14,.int .i64 r15,.slice a4 r16 r17]) fun H11=>R .normal (.pointer (some ⟨s,0,none⟩)::.pointer (some ⟨p,0,none⟩)::ud2 (.bool back::ud6 (.pointer (some ⟨b1,0,none⟩)::.int .i64 (IntKind.wrap .i64 (k+1))::ud30 []))) H11) (R .normal (.pointer (some ⟨s,0,none⟩)::.pointer (some ⟨p,0,none⟩)::ud2 (.bool back::ud6 (.pointer (some ⟨b1,0,none⟩)::.int .i64 (IntKind.wrap .i64 (k+1))::ud30 []))) H9))) (ziq s b1 back H fun (r18:Int) (r19:Int) (a5:OA) (r20:Nat) (r21:Nat) (r22:Bool) (H12:zq)=>Al [.int .i64 0,.int .i64 0,.slice none 0 0] H12 fun b3 H13=>isOwn H13 b3∧(∃l,rdN H13 b3 0 3=some l)∧Lt (setN H13 b3 0 [.int .i64 r18,.int .i64 r19,.slice a5 r20 r21]) fun H14=>Br (!r22) (R .ret (ud10 (.bool false::ud32 [])) H14) (∃c4:Int,∃c5:Int,∃th:OA,∃vh:Nat,∃uh:Nat,  rdN H14 b3 0 3=some [.int .i64 c4,.int .i64 c5,.slice th vh uh]∧isOwn H14 b1∧(∃l,rdN H14 b1 0 3=some l)∧Lt (setN H14 b1 0 [.int .i64 c4,.int .i64 c5,.slice th vh uh]) fun H15=>Br (back==((k:Int)==0)) (zfl b1 H15 fun (r23:Int) (r24:Int) (a6:OA) (r25:Nat) (r26:Nat) (H16:zq)=>isOwn H16 b1∧(∃l,rdN H16 b1 0 3=some l)∧Lt (setN H16 b1 0 [.int .i64 r23,.int .i64 r24,.slice a6 r25 r26]) fun H17=>R .normal (.pointer (some ⟨s,0,none⟩)::.pointer (some ⟨p,0,none⟩)::ud2 (.bool back::ud6 (.pointer (some ⟨b1,0,none⟩)::.int .i64 (IntKind.wrap .i64 (k+1))::ud30 []))) H17) (R .normal (.pointer (some ⟨s,0,none⟩)::.pointer (some ⟨p,0,none⟩)::ud2 (.bool back::ud6 (.pointer (some ⟨b1,0,none⟩)::.int .i64 (IntKind.wrap .i64 (k+1))::ud30 []))) H15)))) (R (.exit 0) (ud::.pointer (some ⟨p,0,none⟩)::ud9 (.pointer (some ⟨b1,0,none⟩)::ud31 [])) H)):=by kernel_rfl
def zm4 (b1:Nat) (back:Bool) (p s:Nat) (Inv:Nat→Int→zq→Prop):Nat→List Value→zq→Prop:=fun μ tm H=>∃(k:Int),tm=(zdd b1 back p s k)∧Inv μ k H
theorem z1b9 (b1:Nat) (back:Bool) (p s:Nat) {Q:Post} (Inv:Nat→Int→zq→Prop) (ν:Nat) (k:Int)  (H:zq) (h0:Inv ν k H)
  (hs:∀(μ:Nat) (k:Int)  (H:zq),Inv μ k H→exL Tryz.prog z9x (cl (cl (cr (cl (cr (cr (zr Tryz.f103))))))) 6163 1024 [(0,2050)] (zdd b1 back p s k) H (z1b (zm4 b1 back p s Inv) μ Q)):z1j (exL Tryz.prog z9x (cl (cl (cr (cl (cr (cr (zr Tryz.f103))))))) 6163 1024 [(0,2050)]) (zdd b1 back p s k) H Q:=
 ⟨zm4 b1 back p s Inv,ν,⟨k,rfl,h0⟩,fun μ tm H h=>by obtain ⟨k,rfl,hI⟩:=h;exact hs μ k  H hI⟩
theorem zv9 {b1:Nat} {back:Bool} {p s:Nat} {Q:Post} {Inv:Nat→Int→zq→Prop} {μ:Nat} (μ':Nat) {k:Int}  {H:zq} (hm:μ'<μ) (hI:Inv μ' k H):z1b (zm4 b1 back p s Inv) μ Q .normal (zdd b1 back p s k) H:=⟨μ',hm,k,rfl,hI⟩
theorem zva (b1 p:Nat) (H:zq) (K:KT)  {I:Nat→List Value→zq→Prop} {μ:Nat}:z1b I μ (zx 0 (seqQ (exL Tryz.prog z9x (cr (cr (cr (zr Tryz.f103)))) 1024 1024 []) (retK Tryz.prog Tryz.f103 K))) (.exit 0) (ud::.pointer (some ⟨p,0,none⟩)::ud9 (.pointer (some ⟨b1,0,none⟩)::ud31 [])) H=
 (znx p b1 0 0 H fun  (H18:zq)=>K (.bool true) H18):=by kernel_rfl
theorem zde (t10:Bool) (H:zq) (K:KT)  {I:Nat→List Value→zq→Prop} {μ:Nat}:z1b I μ (zx 0 (seqQ (exL Tryz.prog z9x (cr (cr (cr (zr Tryz.f103)))) 1024 1024 []) (retK Tryz.prog Tryz.f103 K))) .ret (ud10 (.bool t10::ud32 [])) H=
 (K (.bool t10) H):=by kernel_rfl
theorem zsq:∀g,FnOk Tryz.prog g (z9x g):=FnOk.envOf (by
 intro x hx
 simp only [List.mem_cons,List.not_mem_nil,or_false] at hx
 rcases hx with rfl | rfl | rfl | rfl
 ·exact z1b1
 ·exact z1bk
 ·exact z1aq
 ·exact z1cb)
theorem zv8 (s p:Nat) (wide high:Int) (back:Bool) (H:zq) (K:KT) (h:znq s p wide high back H fun (r1:Bool) (H':zq)=>K (.bool r1) H'):z1a Tryz.prog z9x Tryz.f103 [.pointer (some ⟨s,0,none⟩),.pointer (some ⟨p,0,none⟩),.int .i64 wide,.int .i64 high,.bool back] H K:=by
 rw [z1bc]
 obtain ⟨wa,wn,we,sc,ws,pW,pH,c,e,l,h1,iw,bw,hwc,h2,oc,hsc,hpc,hl,hW,hH,w1,w2,w3,w4,hk⟩:=h
 obtain rfl:=iw.eqn
 have ep:zg1 ws sc pW l wide high back=(bif (z2f (z6e ws sc back) 2 0 wide high (picL wide.toNat high.toNat (z5a l 0 0 pW))).2.2.2 then (true,putS l (z2f (z6e ws sc back) 2 0 wide high (picL wide.toNat high.toNat (z5a l 0 0 pW))).2.2.1 pW wide 0 0 (wide*high).toNat) else (false,l)):=rfl
 rw [ep] at hk
 have cl:=oc.lt
 have hll:=z5l (W:=pW) (H:=pH) ω2 hW ω2 hH
 have hwh:=z5l (W:=wide) (H:=high) w1 ω2 w3 ω2
 have il:IsL fF H (some ⟨c,0,none⟩) l.length l:=(oc.ownS rfl (Nat.zero_le c)).isL
 refine zzi ⟨pW,pH,_,_,e,l,h2,il,by omega,by omega,by omega,w1,w3,by omega,by omega,hW,hH,hl,fun a n ne H1 g1 wc=>?_⟩
 rw [zqe pW pH l 0 0 wide high w1 w3] at wc ⊢
 dsimp only at wc ⊢
 have hC:((picL wide.toNat high.toNat (z5a l 0 0 pW)).length:Int)=wide*high:=by rw [z2r,Int.natCast_mul,Int.toNat_of_nonneg ω2,Int.toNat_of_nonneg ω2,Int.mul_comm]
 generalize picL wide.toNat high.toNat (z5a l 0 0 pW)=C at *
 refine Al.intro fun b1 H2 e2 l2 g2 o2=>Lt.setN o2 (n:=3) ω23 rfl fun H3 l3 o3 k3=>?_
 have upc:=wc.up
 have loc:=wc.lo
 have gg1:=g1.1
 have G3:Grow H H3:=(g1.trans g2).keep ω2 k3
 have wc3:=(wc.grow g2).keepA (fun x y hx hy=>by cases hx;have:=upc y hy;show b1≠_;omega) (OwnS.keep1 k3)
 refine z1b9 b1 back p s (fun μ t H'=>∃(k:Nat) (nl:LN),t=(k:Int)∧k≤2∧μ=2-k∧(nl.length:Int)=wide*high∧z2f (z6e ws sc back) (2-k) k wide high nl=z2f (z6e ws sc back) 2 0 wide high C∧z3a b1 H3 H'∧∃(na:OA) (nn ne:Nat),Own H' b1 [.int .i64 wide,.int .i64 high,.slice na nn ne]∧OwnS fF H' H.length na nn ne nl) 2 0 H3
  ⟨0,C,rfl,Nat.zero_le _,rfl,hC,rfl,⟨Nat.le_refl _,fun _ _ _=>rfl⟩,a,n,ne,o3,wc3⟩ ?_
 intro μ t H' hI
 obtain ⟨k,nl,rfl,hkm,rfl,hnl,hit,kp,na,nn,ne',ob,os⟩:=hI
 have lkp:=kp.1
 have GG:Grow H H':=G3.keep ω2 kp
 have os2:=os.len
 subst os2
 have lo:=os.lo
 have up:=os.up
 rw [z1bb]
 refine Br.intro (fun hd=>?_) (fun hd=>?_)
 ·have hd':=of_decide_eq_true hd
  have hk2:k<2:=by omega
  obtain ⟨j,hj⟩:∃j,2-k=j+1:=⟨2-k-1,by omega⟩
  rw [hj,z5p] at hit
  rw [z13q] at hit
  rw [show IntKind.wrap .i64 ((k:Int)+1)=(k:Int)+1 from zu ω2 ω2]
  refine Br.intro (fun hc=>?_) (fun hc=>?_)
  ·rw [hc,cond_true] at hit
   refine zns ⟨wide,high,na,nl.length,ne',nl,(ob.rdN (Nat.le_of_ble_eq_true rfl)).trans rfl,os.isL,by omega,w1,by omega,w3,by omega,hnl,fun a4 n4 e4 H4 g4 w4=>?_⟩
   obtain ⟨s1,s2,s3⟩:=zdt wide high nl w1 w3
   generalize z1u wide high nl=q at *
   have gg4:=g4.1
   refine Lt.setN (ob.grow g4) (n:=3) (Nat.le_of_ble_eq_true rfl) rfl fun H5 l5 o5 k5=>?_
   have obl:=ob.lt
   have lo4:=w4.lo
   have w5:=w4.keepA (fun x y hx hy=>by cases hx;have:=lo4 y hy;show b1≠_;omega) (OwnS.keep1 k5)
   have G5:Grow H H5:=(GG.trans g4).keep ω2 k5
   refine znk ⟨wa,ws.length,we,sc,q.1,q.2.1,a4,n4,e4,ws,q.2.2,zt G5 h1,(o5.rdN (Nat.le_of_ble_eq_true rfl)).trans rfl,iw.grow G5,w5.isL,bw,by omega,by omega,by omega,by omega,by omega,by rw [s1,s2,Int.mul_comm];exact s3,fun a6 n6 e6 H6 g6 w6=>?_⟩
   have md:=z7t (ws:=ws) (sc:=sc) (W:=q.1) (Hi:=q.2.1) (l:=q.2.2) (back:=back) ω2 ω2 (by rw [s1,s2,Int.mul_comm];exact s3)
   generalize z2o ws sc q.1 q.2.1 q.2.2 back=r at *
   have gg6:=g6.1
   have lo6:=w6.lo
   have up6:=w6.up
   refine Al.intro fun b2 H7 e7 l7 g7 o7=>Lt.setN o7 (n:=3) ω23 rfl fun H8 l8 o8 k8=>?_
   have w8:=(w6.grow g7).keepA (fun x y hx hy=>by cases hx;have:=up6 y hy;show b2≠_;omega) (OwnS.keep1 k8)
   have ob8:=((o5.grow g6).grow g7).keep (b':=b2) ω2 k8
   have G8:Grow H H8:=((G5.trans g6).trans g7).keep (by have:=G5.1;omega) k8
   refine Br.intro (fun hp=>?_) (fun hp=>?_)
   ·rw [z3q (z1f hp),z3q rfl] at hit
    rw [←hit] at hk
    rw [zde]
    exact hk H8 ⟨G8.1,fun i hi _=>G8.2 i hi⟩ (oc.grow G8)
   ·rw [z1r (z1e hp),z1r rfl] at hit
    obtain ⟨d1,d2,d3⟩:=md (z1e hp)
    refine ⟨r.1,r.2.1,a6,n6,e6,(o8.rdN (Nat.le_of_ble_eq_true rfl)).trans rfl,?_⟩
    refine Lt.setN ob8 (n:=3) (Nat.le_of_ble_eq_true rfl) rfl fun H9 l9 o9 k9=>?_
    have w9:=w8.keepA (fun x y hx hy=>by cases hx;have:=lo6 y hy;show b1≠_;omega) (OwnS.keep1 k9)
    refine Br.intro (fun hc2=>?_) (fun hc2=>by rw [hc] at hc2;cases hc2)
    have dr:(r.2.2.1.length:Int)=r.1*r.2.1:=by rw [d1,d2];exact d3
    refine zns ⟨r.1,r.2.1,a6,n6,e6,r.2.2.1,(o9.rdN (Nat.le_of_ble_eq_true rfl)).trans rfl,w9.isL,by rw [d1,d2,s1,s2] at dr;rw [Int.mul_comm] at dr;omega,by omega,by omega,by omega,by omega,dr,fun a10 n10 e10 H10 g10 w10=>?_⟩
    obtain ⟨t1,t2,t3⟩:=zdt r.1 r.2.1 r.2.2.1 ω2 ω2
    generalize z1u r.1 r.2.1 r.2.2.1=v at *
    have gg10:=g10.1
    refine Lt.setN (o9.grow g10) (n:=3) (Nat.le_of_ble_eq_true rfl) rfl fun H11 l11 o11 k11=>?_
    have lo10:=w10.lo
    have e1:v.1=wide:=by omega
    have e2:v.2.1=high:=by omega
    have o11':Own H11 b1 [.int .i64 v.1,.int .i64 v.2.1,.slice a10 n10 e10]:=o11
    rw [e1,e2] at o11' hit
    refine zv9 (2-(k+1)) ω2 ⟨k+1,v.2.2,by omega,by omega,rfl,by rw [t3,d1,d2,s1,s2,Int.mul_comm],by rw [show 2-(k+1)=j by omega];exact hit,?_,a10,n10,e10,o11',?_⟩
    ·refine ⟨by omega,fun i hi hne=>?_⟩
     rw [k11.2 i ω2 hne,g10.2 i ω2,k9.2 i ω2 hne,k8.2 i ω2 ω2,g7.2 i ω2,g6.2 i ω2,k5.2 i ω2 hne,g4.2 i ω2,kp.2 i hi hne]
    ·exact (w10.keepA (fun x y hx hy=>by cases hx;have:=lo10 y hy;show b1≠_;omega) (OwnS.keep1 k11)).weak (by have:=GG.1;omega)
  ·rw [hc,cond_false] at hit
   refine znk ⟨wa,ws.length,we,sc,wide,high,na,nl.length,ne',ws,nl,zt GG h1,(ob.rdN (Nat.le_of_ble_eq_true rfl)).trans rfl,iw.grow GG,os.isL,bw,by omega,w1,by omega,w3,by omega,hnl,fun a6 n6 e6 H6 g6 w6=>?_⟩
   have md:=z7t (ws:=ws) (sc:=sc) (W:=wide) (Hi:=high) (l:=nl) (back:=back) w1 w3 hnl
   generalize z2o ws sc wide high nl back=r at *
   have gg6:=g6.1
   have obl:=ob.lt
   have lo6:=w6.lo
   have up6:=w6.up
   refine Al.intro fun b2 H7 e7 l7 g7 o7=>Lt.setN o7 (n:=3) ω23 rfl fun H8 l8 o8 k8=>?_
   have w8:=(w6.grow g7).keepA (fun x y hx hy=>by cases hx;have:=up6 y hy;show b2≠_;omega) (OwnS.keep1 k8)
   have ob8:=((ob.grow g6).grow g7).keep (b':=b2) ω2 k8
   have G8:Grow H H8:=((GG.trans g6).trans g7).keep (by have:=GG.1;omega) k8
   refine Br.intro (fun hp=>?_) (fun hp=>?_)
   ·rw [z3q (z1f hp)] at hit
    rw [←hit] at hk
    rw [zde]
    exact hk H8 ⟨G8.1,fun i hi _=>G8.2 i hi⟩ (oc.grow G8)
   ·rw [z1r (z1e hp)] at hit
    obtain ⟨d1,d2,d3⟩:=md (z1e hp)
    refine ⟨r.1,r.2.1,a6,n6,e6,(o8.rdN (Nat.le_of_ble_eq_true rfl)).trans rfl,?_⟩
    refine Lt.setN ob8 (n:=3) (Nat.le_of_ble_eq_true rfl) rfl fun H9 l9 o9 k9=>?_
    have w9:=w8.keepA (fun x y hx hy=>by cases hx;have:=lo6 y hy;show b1≠_;omega) (OwnS.keep1 k9)
    refine Br.intro (fun hc2=>by rw [hc] at hc2;cases hc2) (fun hc2=>?_)
    have o9':Own H9 b1 [.int .i64 r.1,.int .i64 r.2.1,.slice a6 n6 e6]:=o9
    rw [d1,d2] at o9' hit
    refine zv9 (2-(k+1)) ω2 ⟨k+1,r.2.2.1,by omega,by omega,rfl,d3,by rw [show 2-(k+1)=j by omega];exact hit,?_,a6,n6,e6,o9',?_⟩
    ·refine ⟨by omega,fun i hi hne=>?_⟩
     rw [k9.2 i ω2 hne,k8.2 i ω2 ω2,g7.2 i ω2,g6.2 i ω2,kp.2 i hi hne]
    ·exact w9.weak (by have:=GG.1;omega)
 ·have hd':=of_decide_eq_false hd
  obtain rfl:k=2:=by omega
  rw [Nat.sub_self] at hit
  rw [←hit] at hk
  rw [zva]
  refine zzq ⟨pW,pH,c,e,l,wide,high,na,nl.length,ne',nl,zt GG h2,oc.grow GG,(ob.rdN (Nat.le_of_ble_eq_true rfl)).trans rfl,os.isL,fun x hx=>by have:=lo x hx;omega,hpc,by omega,hl,hnl,by omega,by omega,w1,w3,by omega,by omega,hW,hH,fun H18 k18 o18=>?_⟩
  exact hk H18 ⟨Nat.le_trans GG.1 k18.1,fun i hi hne=>(k18.2 i (by have:=GG.1;omega) hne).trans (GG.2 i hi)⟩ o18
theorem z1ba:FnOk Tryz.prog 103 z16r:=FnOk.bodyF mix_ok zsq Tryz.func103 rfl ω9 ω9 fun args H=>by
 unfold z15n
 split
 ·refine ⟨?_,?_,?_,?_,fun K hk=>zv8 _ _ _ _ _ H K hk⟩
  ·intro K K' h hk;obtain ⟨wa,wn,we,sc,ws,pW,pH,c,e,l,h1,iw,bw,hwc,h2,oc,hsc,hpc,hl,hW,hH,w1,w2,w3,w4,k⟩:=hk;exact ⟨wa,wn,we,sc,ws,pW,pH,c,e,l,h1,iw,bw,hwc,h2,oc,hsc,hpc,hl,hW,hH,w1,w2,w3,w4,(fun H' kk ow=>h _ _ (k H' kk ow))⟩
  ·nofun
  ·intro K hk;obtain ⟨wa,wn,we,sc,ws,pW,pH,c,e,l,h1,iw,bw,hwc,h2,oc,hsc,hpc,hl,hW,hH,w1,w2,w3,w4,k⟩:=hk;exact (oc.putX _).elim fun H1 h=>⟨_,_,k H1 h.1 h.2⟩
  ·nofun
 ·exact Nice.no
def z9t (Q:Int→Int→LN→PicT) (W Hi:Int) (l:LN) (w h:Int):PicT:=bif (Q w h (picL w.toNat h.toNat (z5a l 0 0 W))).2.2.2 then (W,Hi,putS l (Q w h (picL w.toNat h.toNat (z5a l 0 0 W))).2.2.1 W w 0 0 (w*h).toNat,true) else (0,0,[],false)
def zrl (ws:LN) (sc:Nat) (W Hi:Int) (back:Bool) (kk a b:Int) (l:LN):PicT:=z9t (fun W Hi l=>z2f (z6e ws sc back) 2 0 W Hi l) a b l (z2l W Hi kk).1 (z2l W Hi kk).2
theorem z17x {H:zq} {b off n:Nat} {l:List Value} (h:rdN H b off n=some l):b<H.length:=by
 unfold rdN rdB at h
 by_cases hb:b<H.length
 ·exact hb
 ·rw [List.getElem?_eq_none ω2] at h;cases h
theorem z1i2 {α:Type} {f:α→Value} {H:zq} {a:OA} {n:Nat} {xs:List α} (h:IsL f H a n xs) (hn:1≤n):∀x,a=some x→x.block<H.length:=by
 intro x hx
 obtain ⟨b,off,rfl,hc⟩:=h.cell ω2
 cases hx
 have hl:=h.len
 have hx0:xs[0]? =some (xs[0]'ω2):=List.getElem?_eq_getElem ω2
 have hr:=hc 0 _ hx0
 show b<H.length
 unfold rdC rdB at hr
 by_cases hb:b<H.length
 ·exact hb
 ·rw [List.getElem?_eq_none ω2] at hr;cases hr
def z4x (ws:LN) (sc:Nat) (W Hi:Int) (l:LN) (levels:Int):PicT:=z2f (fun (k:Nat) a b l=>zrl ws sc W Hi true (levels-1-(k:Int)) a b l) levels.toNat 0 W Hi l
def znp (s p:Nat) (levels:Int) (H:zq) (K:Int→Int→OA→Nat→Nat→Bool→zq→Prop):Prop:=
 ∃(wa:OA) (wn we sc:Nat) (ws:LN) (W Hi:Int) (pa:OA) (pn pe:Nat) (l:LN),rdN H s 0 2=some [.slice wa wn we,.float .f32 sc]∧IsL fF H wa wn ws∧ws.length<1073741824∧1≤wn∧rdN H p 0 3=some [.int .i64 W,.int .i64 Hi,.slice pa pn pe]∧IsL fF H pa pn l∧1≤W∧W≤16∧1≤Hi∧Hi≤16∧(l.length:Int)=W*Hi∧1≤levels∧levels≤4∧
  (∀(td:OA) (yd xd:Nat),∀H':zq,Grow H H'→OwnS fF H' H.length td yd xd (z4x ws sc W Hi l levels).2.2.1→K (z4x ws sc W Hi l levels).1 (z4x ws sc W Hi l levels).2.1 td yd xd (z4x ws sc W Hi l levels).2.2.2 H')
theorem zzj {s p:Nat} {levels:Int} {H:zq} {K:Int→Int→OA→Nat→Nat→Bool→zq→Prop} (h:∃(wa:OA) (wn we sc:Nat) (ws:LN) (W Hi:Int) (pa:OA) (pn pe:Nat) (l:LN),rdN H s 0 2=some [.slice wa wn we,.float .f32 sc]∧IsL fF H wa wn ws∧ws.length<1073741824∧1≤wn∧rdN H p 0 3=some [.int .i64 W,.int .i64 Hi,.slice pa pn pe]∧IsL fF H pa pn l∧1≤W∧W≤16∧1≤Hi∧Hi≤16∧(l.length:Int)=W*Hi∧1≤levels∧levels≤4∧
  (∀(td:OA) (yd xd:Nat),∀H':zq,Grow H H'→OwnS fF H' H.length td yd xd (z4x ws sc W Hi l levels).2.2.1→K (z4x ws sc W Hi l levels).1 (z4x ws sc W Hi l levels).2.1 td yd xd (z4x ws sc W Hi l levels).2.2.2 H')):znp s p levels H K:=h
/-! f1mz: function 47 -/
def z9w:Env:=envOf [(101,z16y),(102,z16d),(103,z16r)]
def z15m (args:List Value) (H:zq):(Value→zq→Prop)→Prop:=match args with
 | [.pointer (some ⟨s,0,none⟩),.pointer (some ⟨p,0,none⟩),.int .i64 levels]=>fun K=>znp s p levels H fun (sd:Int) (pd:Int) (ja:OA) (oa:Nat) (ma:Nat) (r2:Bool) (H':zq)=>K (.tuple #[.agg #[.int .i64 sd,.int .i64 pd,.slice ja oa ma],.bool r2]) H'
 | _=>fun _=>False
def z16q:FSpec:={F:=z15m,quiet:=false,tame:=false}
theorem z1b8 (s p:Nat) (levels:Int) (H:zq) (K:KT):z1a Tryz.prog z9w Tryz.f47 [.pointer (some ⟨s,0,none⟩),.pointer (some ⟨p,0,none⟩),.int .i64 levels] H K=
 (Al [.int .i64 0,.int .i64 0,.slice none 0 0] H fun b1 H1=>znw p H1 fun (r1:Int) (r2:Int) (a1:OA) (r3:Nat) (r4:Nat) (H2:zq)=>Al [.int .i64 0,.int .i64 0,.slice none 0 0] H2 fun b2 H3=>isOwn H3 b2∧(∃l,rdN H3 b2 0 3=some l)∧Lt (setN H3 b2 0 [.int .i64 r1,.int .i64 r2,.slice a1 r3 r4]) fun H4=>z1j (exL Tryz.prog z9w (cl (cl (cr (cl (cr (cr (zr Tryz.f47))))))) 835 192 [(0,320)]) (.pointer (some ⟨s,0,none⟩)::.pointer (some ⟨p,0,none⟩)::ud4 (.pointer (some ⟨b1,0,none⟩)::ud::.pointer (some ⟨b2,0,none⟩)::.int .i64 (IntKind.wrap .i64 (levels-1))::ud30 [])) H4 (zx 0 (seqQ (exL Tryz.prog z9w (cr (cr (cr (zr Tryz.f47)))) 192 192 []) (retK Tryz.prog Tryz.f47 K)))):=by kernel_rfl
abbrev zdc (b1 b2 p s:Nat) (k:Int)  :List Value:=(.pointer (some ⟨s,0,none⟩)::.pointer (some ⟨p,0,none⟩)::ud4 (.pointer (some ⟨b1,0,none⟩)::ud::.pointer (some ⟨b2,0,none⟩)::.int .i64 k::ud30 []))
theorem z1b7 (b1 b2 p s:Nat) (k:Int)  (H:zq) (R:Post):exL Tryz.prog z9w (cl (cl (cr (cl (cr (cr (zr Tryz.f47))))))) 835 192 [(0,320)] (zdc b1 b2 p s k) H R=
 (Br (decide ((0:Int)≤k)) (∃x1:Int,  rdC H p 1=some (.int .i64 x1)∧∃x2:Int,  rdC H p 0=some (.int .i64 x2)∧zti x2 x1 k H fun (r5:Int) (r6:Int) (H5:zq)=>znq s b2 r5 r6 true H5 fun (r7:Bool) (H6:zq)=>Br (!r7) (isOwn H6 b1∧(∃l,rdN H6 b1 0 3=some l)∧Lt (setN H6 b1 0 [.int .i64 0,.int .i64 0,.slice none 0 0]) fun H7=>R .ret (ud6 (.pointer (some ⟨b1,0,none⟩)::.bool false::ud32 [])) H7) (R .normal (.pointer (some ⟨s,0,none⟩)::.pointer (some ⟨p,0,none⟩)::ud4 (.pointer (some ⟨b1,0,none⟩)::ud::.pointer (some ⟨b2,0,none⟩)::.int .i64 (IntKind.wrap .i64 (k-1))::ud30 [])) H6)) (R (.exit 0) (ud6 (.pointer (some ⟨b1,0,none⟩)::ud::.pointer (some ⟨b2,0,none⟩)::ud31 [])) H)):=by kernel_rfl
def zm2 (b1 b2 p s:Nat) (Inv:Nat→Int→zq→Prop):Nat→List Value→zq→Prop:=fun μ tm H=>∃(k:Int),tm=(zdc b1 b2 p s k)∧Inv μ k H
theorem z1b4 (b1 b2 p s:Nat) {Q:Post} (Inv:Nat→Int→zq→Prop) (ν:Nat) (k:Int)  (H:zq) (h0:Inv ν k H)
  (hs:∀(μ:Nat) (k:Int)  (H:zq),Inv μ k H→exL Tryz.prog z9w (cl (cl (cr (cl (cr (cr (zr Tryz.f47))))))) 835 192 [(0,320)] (zdc b1 b2 p s k) H (z1b (zm2 b1 b2 p s Inv) μ Q)):z1j (exL Tryz.prog z9w (cl (cl (cr (cl (cr (cr (zr Tryz.f47))))))) 835 192 [(0,320)]) (zdc b1 b2 p s k) H Q:=
 ⟨zm2 b1 b2 p s Inv,ν,⟨k,rfl,h0⟩,fun μ tm H h=>by obtain ⟨k,rfl,hI⟩:=h;exact hs μ k  H hI⟩
theorem z1b5 {b1 b2 p s:Nat} {Q:Post} {Inv:Nat→Int→zq→Prop} {μ:Nat} (μ':Nat) {k:Int}  {H:zq} (hm:μ'<μ) (hI:Inv μ' k H):z1b (zm2 b1 b2 p s Inv) μ Q .normal (zdc b1 b2 p s k) H:=⟨μ',hm,k,rfl,hI⟩
theorem zv7 (b1 b2:Nat) (H:zq) (K:KT)  {I:Nat→List Value→zq→Prop} {μ:Nat}:z1b I μ (zx 0 (seqQ (exL Tryz.prog z9w (cr (cr (cr (zr Tryz.f47)))) 192 192 []) (retK Tryz.prog Tryz.f47 K))) (.exit 0) (ud6 (.pointer (some ⟨b1,0,none⟩)::ud::.pointer (some ⟨b2,0,none⟩)::ud31 [])) H=
 (∃c1:Int,∃c2:Int,∃kh:OA,∃mh:Nat,∃lh:Nat,  rdN H b2 0 3=some [.int .i64 c1,.int .i64 c2,.slice kh mh lh]∧isOwn H b1∧(∃l,rdN H b1 0 3=some l)∧Lt (setN H b1 0 [.int .i64 c1,.int .i64 c2,.slice kh mh lh]) fun H8=>∃c4:Int,∃c5:Int,∃th:OA,∃vh:Nat,∃uh:Nat,  rdN H8 b1 0 3=some [.int .i64 c4,.int .i64 c5,.slice th vh uh]∧K (.tuple #[.agg #[.int .i64 c4,.int .i64 c5,.slice th vh uh],.bool true]) H8):=by kernel_rfl
theorem zm3 (b1:Nat) (t7:Bool) (H:zq) (K:KT)  {I:Nat→List Value→zq→Prop} {μ:Nat}:z1b I μ (zx 0 (seqQ (exL Tryz.prog z9w (cr (cr (cr (zr Tryz.f47)))) 192 192 []) (retK Tryz.prog Tryz.f47 K))) .ret (ud6 (.pointer (some ⟨b1,0,none⟩)::.bool t7::ud32 [])) H=
 (∃c7:Int,∃c8:Int,∃fi:OA,∃ii:Nat,∃gi:Nat,  rdN H b1 0 3=some [.int .i64 c7,.int .i64 c8,.slice fi ii gi]∧K (.tuple #[.agg #[.int .i64 c7,.int .i64 c8,.slice fi ii gi],.bool t7]) H):=by kernel_rfl
theorem zsp:∀g,FnOk Tryz.prog g (z9w g):=FnOk.envOf (by
 intro x hx
 simp only [List.mem_cons,List.not_mem_nil,or_false] at hx
 rcases hx with rfl | rfl | rfl
 ·exact z1c7
 ·exact f13z_ok
 ·exact z1ba)
theorem zv6 (s p:Nat) (levels:Int) (H:zq) (K:KT) (h:znp s p levels H fun (sd:Int) (pd:Int) (ja:OA) (oa:Nat) (ma:Nat) (r2:Bool) (H':zq)=>K (.tuple #[.agg #[.int .i64 sd,.int .i64 pd,.slice ja oa ma],.bool r2]) H'):z1a Tryz.prog z9w Tryz.f47 [.pointer (some ⟨s,0,none⟩),.pointer (some ⟨p,0,none⟩),.int .i64 levels] H K:=by
 rw [z1b8]
 obtain ⟨wa,wn,we,sc,ws,W,Hi,pa,pn,pe,l,h1,iw,bw,w0,h2,il,w1,w2,w3,w4,hl,v1,v2,hk⟩:=h
 obtain rfl:=iw.eqn
 obtain rfl:=il.eqn
 have wlt:=z1i2 iw w0
 have slt:=z17x h1
 have plt:=z17x h2
 have e:z4x ws sc W Hi l levels=z2f (fun (k:Nat) a b l=>zrl ws sc W Hi true (levels-1-(k:Int)) a b l) levels.toNat 0 W Hi l:=rfl
 rw [e] at hk
 obtain ⟨m,rfl⟩:∃m:Nat,levels=(m:Int):=⟨levels.toNat,by omega⟩
 rw [Int.toNat_natCast] at hk
 have hll:=z5l (W:=W) (H:=Hi) w1 w2 w3 w4
 refine Al.intro fun b1 H1 e1 l1 g1 o1=>zzp ⟨W,Hi,pa,l.length,pe,l,zt g1 h2,il.grow g1,by omega,fun a n ne H2 g2 wo=>?_⟩
 have eo:zba W Hi l=(W,Hi,l):=rfl
 rw [eo] at wo ⊢
 dsimp only at wo ⊢
 obtain ⟨rfl,⟨_,hn⟩ | ⟨c,rfl,oc,rfl,loc⟩⟩:=wo
 ·rw [hn] at hl;simp at hl;omega
 have clt:=oc.lt
 refine Al.intro fun b2 H3 e3 l3 g3 o3=>Lt.setN o3 (n:=3) ω23 rfl fun H4 l4 o4 k4=>?_
 have gg1:=g1.1
 have gg2:=g2.1
 have G4:Grow H H4:=((g1.trans g2).trans g3).keep ω2 k4
 have oc4:=(oc.grow g3).keep (b':=b2) ω2 k4
 have ob4:=((o1.grow g2).grow g3).keep (b':=b2) (by have:=o1.lt;omega) k4
 have hle4:=G4.1
 have hl1:=o1.lt
 refine z1b4 b1 b2 p s (fun μ t H'=>∃(k:Nat) (nl:LN),t=(m:Int)-1-(k:Int)∧k≤m∧μ=m-k∧nl.length=l.length∧z2f (fun (k:Nat) a b l=>zrl ws sc W Hi true ((m:Int)-1-(k:Int)) a b l) (m-k) k W Hi nl=z2f (fun (k:Nat) a b l=>zrl ws sc W Hi true ((m:Int)-1-(k:Int)) a b l) m 0 W Hi l∧z3a c H4 H'∧Own H' c (nl.map fF)) m (IntKind.wrap .i64 ((m:Int)-1)) H4
  ⟨0,l,by rw [zu ω2 ω2];omega,Nat.zero_le _,rfl,rfl,rfl,⟨Nat.le_refl _,fun _ _ _=>rfl⟩,oc4⟩ ?_
 intro μ t H' hI
 obtain ⟨k,nl,rfl,hkm,rfl,hnl,hit,kp,oc'⟩:=hI
 have lkp:=kp.1
 have GG:Grow H H':=⟨Nat.le_trans G4.1 kp.1,fun i hi=>(kp.2 i ω2 ω2).trans (G4.2 i hi)⟩
 have t1:=ob4.keep (b':=c) ω2 kp
 have t2:=o4.keep (b':=c) ω2 kp
 rw [z1b7]
 refine Br.intro (fun hd=>?_) (fun hd=>?_)
 ·have hd':=of_decide_eq_true hd
  have hkm':k<m:=by omega
  obtain ⟨j,hj⟩:∃j,m-k=j+1:=⟨m-k-1,by omega⟩
  rw [hj,z5p] at hit
  have r2:=zt GG h2
  refine ⟨Hi,(z1h r2 1 ω23).trans rfl,W,(z1h r2 0 ω23).trans rfl,w1,w2,w3,w4,by omega,?_⟩
  obtain ⟨v3,v4,v5,v6⟩:=zhl W Hi ((m:Int)-1-(k:Int)) ⟨w1,w2,w3,w4⟩
  refine zzk ⟨wa,ws.length,we,sc,ws,W,Hi,c,1,nl,zt GG h1,iw.grow GG,bw,fun x hx=>by have:=wlt x hx;omega,?_,oc',by omega,by omega,by rw [hnl];exact hl,w2,w4,v3,v4,v5,v6,fun H5 k5 o5=>?_⟩
  ·rw [hnl];exact (t2.rdN (Nat.le_of_ble_eq_true rfl)).trans rfl
  have lk5:=k5.1
  have t1':=t1.keep (b':=c) ω2 k5
  have es:zrl ws sc W Hi true ((m:Int)-1-(k:Int)) W Hi nl=z9t (fun W Hi l=>z2f (z6e ws sc true) 2 0 W Hi l) W Hi nl (z2l W Hi ((m:Int)-1-(k:Int))).1 (z2l W Hi ((m:Int)-1-(k:Int))).2:=rfl
  rw [es] at hit
  generalize (z2l W Hi ((m:Int)-1-(k:Int))).1=hw at *
  generalize (z2l W Hi ((m:Int)-1-(k:Int))).2=hh at *
  have eo1:zg1 ws sc W nl hw hh true=(bif (z2f (z6e ws sc true) 2 0 hw hh (picL hw.toNat hh.toNat (z5a nl 0 0 W))).2.2.2 then (true,putS nl (z2f (z6e ws sc true) 2 0 hw hh (picL hw.toNat hh.toNat (z5a nl 0 0 W))).2.2.1 W hw 0 0 (hw*hh).toNat) else (false,nl)):=rfl
  have ep:z9t (fun W Hi l=>z2f (z6e ws sc true) 2 0 W Hi l) W Hi nl hw hh=(bif (z2f (z6e ws sc true) 2 0 hw hh (picL hw.toNat hh.toNat (z5a nl 0 0 W))).2.2.2 then (W,Hi,putS nl (z2f (z6e ws sc true) 2 0 hw hh (picL hw.toNat hh.toNat (z5a nl 0 0 W))).2.2.1 W hw 0 0 (hw*hh).toNat,true) else (0,0,[],false)):=rfl
  rw [eo1] at o5 ⊢
  rw [ep] at hit
  generalize z2f (z6e ws sc true) 2 0 hw hh (picL hw.toNat hh.toNat (z5a nl 0 0 W))=q at *
  refine Br.intro (fun hp=>?_) (fun hp=>?_)
  ·cases hq:q.2.2.2 with
   | true=>rw [hq,cond_true] at hp;cases hp
   | false=>
    rw [hq,cond_false] at hit
    rw [z3q rfl] at hit
    rw [←hit] at hk
    refine Lt.setN t1' (n:=3) ω23 rfl fun H6 l6 q6 k6=>?_
    rw [zm3]
    refine ⟨0,0,none,0,0,(q6.rdN (Nat.le_of_ble_eq_true rfl)).trans rfl,?_⟩
    refine hk none 0 0 H6 ⟨by omega,fun i hi=>?_⟩ (OwnS.nil _ _ _ _)
    rw [k6.2 i ω2 ω2,k5.2 i ω2 ω2,GG.2 i hi]
  ·cases hq:q.2.2.2 with
   | false=>rw [hq,cond_false] at hp;cases hp
   | true=>
    rw [hq,cond_true] at hit o5
    rw [z1r rfl] at hit
    dsimp only at hit o5
    refine z1b5 (m-(k+1)) ω2 ⟨k+1,_,by rw [zu ω2 ω2];omega,by omega,rfl,by rw [z7z];exact hnl,by rw [show m-(k+1)=j by omega];exact hit,⟨Nat.le_trans kp.1 k5.1,fun i hi hne=>(k5.2 i ω2 hne).trans (kp.2 i hi hne)⟩,o5⟩
 ·have hd':=of_decide_eq_false hd
  obtain rfl:k=m:=by omega
  rw [Nat.sub_self] at hit
  rw [←hit] at hk
  rw [zv7]
  refine ⟨W,Hi,_,_,_,(t2.rdN (Nat.le_of_ble_eq_true rfl)).trans rfl,Lt.setN t1 (n:=3) (Nat.le_of_ble_eq_true rfl) rfl fun H7 l7 q7 k7=>⟨W,Hi,_,_,_,(q7.rdN (Nat.le_of_ble_eq_true rfl)).trans rfl,?_⟩⟩
  refine hk _ _ _ H7 (GG.keep ω2 k7) ?_
  have oc7:Own H7 c (nl.map fF):=oc'.keep (b':=b1) ω2 k7
  have hf:OwnS fF H7 H.length (some ⟨c,0,none⟩) l.length 1 nl:=oc7.ownS hnl.symm ω2
  exact hf
theorem z1b6:FnOk Tryz.prog 47 z16q:=FnOk.bodyF mix_ok zsp Tryz.func47 rfl ω9 ω9 fun args H=>by
 unfold z15m
 split
 ·refine ⟨?_,?_,?_,?_,fun K hk=>zv6 _ _ _ H K hk⟩
  ·intro K K' h hk;obtain ⟨wa,wn,we,sc,ws,W,Hi,pa,pn,pe,l,h1,iw,bw,w0,h2,il,w1,w2,w3,w4,hl,v1,v2,k⟩:=hk;exact ⟨wa,wn,we,sc,ws,W,Hi,pa,pn,pe,l,h1,iw,bw,w0,h2,il,w1,w2,w3,w4,hl,v1,v2,(fun td yd xd H' gg ow0=>h _ _ (k td yd xd H' gg ow0))⟩
  ·nofun
  ·intro K hk;obtain ⟨wa,wn,we,sc,ws,W,Hi,pa,pn,pe,l,h1,iw,bw,w0,h2,il,w1,w2,w3,w4,hl,v1,v2,k⟩:=hk;exact z4m fun a n e H1 g o=>⟨_,_,k a n e H1 g o⟩
  ·nofun
 ·exact Nice.no
theorem z13r {f:Nat→Int→Int→LN→PicT} (hf:∀k a b l,(f k a b l).2.2.1.length≤l.length):∀(n k:Nat) (a b:Int) (l:LN),(z2f f n k a b l).2.2.1.length≤l.length:=by
 intro n
 induction n with
 | zero=>intro k a b l;exact Nat.le_refl _
 | succ n ih=>
  intro k a b l
  unfold z2f
  have h1:=hf k a b l
  generalize f k a b l=q at *
  cases hq:q.2.2.2 with
  | false=>rw [z3q hq];exact Nat.zero_le _
  | true=>rw [z1r hq];exact Nat.le_trans (ih _ _ _ _) h1
theorem z13p (Q:Int→Int→LN→PicT) (W Hi:Int) (l:LN) (w h:Int):(z9t Q W Hi l w h).2.2.1.length≤l.length:=by
 unfold z9t
 cases (Q w h (picL w.toNat h.toNat (z5a l 0 0 W))).2.2.2 with
 | false=>exact Nat.zero_le _
 | true=>exact Nat.le_of_eq (z7z _ _ _ _ _ _ _)
def z2v (ia:LN) (gb:Nat) (ua va:Int) (ga:LN) (levels:Int):PicT:=
 bif !(zb8 ia gb ua va ga) then (0,0,[],false) else (bif !(zfy levels) then (0,0,[],false) else z4x ia gb ua va ga levels)
theorem zhv (ia:LN) (gb:Nat) (ua va:Int) (ga:LN) (levels:Int):z2v ia gb ua va ga levels=
 (bif !(zb8 ia gb ua va ga) then (0,0,[],false) else (bif !(zfy levels) then (0,0,[],false) else z4x ia gb ua va ga levels)):=rfl
def zzw (sb:OA) (fc xb gb:Nat) (ua va:Int) (ta:OA) (xa ya:Nat) (levels:Int) (H:zq) (K:Int→Int→OA→Nat→Nat→Bool→zq→Prop):Prop:=
 ∃(ia ga:LN),IsL fF H sb fc ia∧IsL fF H ta xa ga∧ia.length<1073741824∧ga.length<1073741824∧
  (∀(td:OA) (yd xd:Nat),∀H':zq,Grow H H'→OwnS fF H' H.length td yd xd ((z2v ia gb ua va ga levels).2.2.1)→K ((z2v ia gb ua va ga levels).1) ((z2v ia gb ua va ga levels).2.1) td yd xd ((z2v ia gb ua va ga levels).2.2.2) H')
theorem z19s {sb:OA} {fc xb gb:Nat} {ua va:Int} {ta:OA} {xa ya:Nat} {levels:Int} {H:zq} {K:Int→Int→OA→Nat→Nat→Bool→zq→Prop} (h:∃(ia ga:LN),IsL fF H sb fc ia∧IsL fF H ta xa ga∧ia.length<1073741824∧ga.length<1073741824∧
  (∀(td:OA) (yd xd:Nat),∀H':zq,Grow H H'→OwnS fF H' H.length td yd xd ((z2v ia gb ua va ga levels).2.2.1)→K ((z2v ia gb ua va ga levels).1) ((z2v ia gb ua va ga levels).2.1) td yd xd ((z2v ia gb ua va ga levels).2.2.2) H')):zzw sb fc xb gb ua va ta xa ya levels H K:=h
theorem z1fb {ws:LN} {sc:Nat} {w h:Int} {l:LN} (hh:zb8 ws sc w h l=true):(1:Int)≤(ws.length:Int):=by
 rw [zb9] at hh
 cases h1:zca ws sc with
 | false=>rw [h1] at hh;cases hh
 | true=>
  rw [ze0] at h1
  by_cases hw:(1:Int)≤(ws.length:Int)
  ·exact hw
  ·rw [decide_eq_false hw] at h1;simp at h1
theorem zvw (ws:LN) (sc:Nat) (W Hi:Int) (l:LN) (levels:Int):(z2v ws sc W Hi l levels).2.2.1.length≤1024:=by
 rw [zhv]
 cases h:zb8 ws sc W Hi l with
 | false=>exact Nat.zero_le _
 | true=>
  obtain ⟨h1,h2,h3,h4,h5,h6,_⟩:=z17i h
  cases zfy levels with
  | false=>exact Nat.zero_le _
  | true=>
   have:(z4x ws sc W Hi l levels).2.2.1.length≤l.length:=z13r (fun k a b l=>z13p _ _ _ _ _ _) _ _ _ _ _
   rw [Bool.not_true,cond_false,cond_false]
   omega
/-! fgz: function 11 -/
def E_fgz:Env:=envOf [(45,z16x),(46,z16e),(47,z16q)]
def F_fgz (args:List Value) (H:zq):(Value→zq→Prop)→Prop:=match args with
 | [.agg ⟨[.slice sb fc xb,.float .f32 gb]⟩,.agg ⟨[.int .i64 ua,.int .i64 va,.slice ta xa ya]⟩,.int .i64 levels]=>fun K=>zzw sb fc xb gb ua va ta xa ya levels H fun (sd:Int) (pd:Int) (ja:OA) (oa:Nat) (ma:Nat) (r2:Bool) (H':zq)=>K (.tuple #[.agg #[.int .i64 sd,.int .i64 pd,.slice ja oa ma],.bool r2]) H'
 | _=>fun _=>False
def S_fgz:FSpec:={F:=F_fgz,quiet:=false,tame:=false}
theorem z1fr (sb:OA) (fc xb gb:Nat) (ua va:Int) (ta:OA) (xa ya:Nat) (levels:Int) (H:zq) (K:KT):z1a Tryz.prog E_fgz Tryz.f11 [.agg #[.slice sb fc xb,.float .f32 gb],.agg #[.int .i64 ua,.int .i64 va,.slice ta xa ya],.int .i64 levels] H K=
 (Al [.slice sb fc xb,.float .f32 gb] H fun b1 H1=>Al [.int .i64 ua,.int .i64 va,.slice ta xa ya] H1 fun b2 H2=>Al [.int .i64 0,.int .i64 0,.slice none 0 0] H2 fun b3 H3=>znv b1 b2 H3 fun (r1:Bool) (H4:zq)=>Br (!r1) (isOwn H4 b3∧(∃l,rdN H4 b3 0 3=some l)∧Lt (setN H4 b3 0 [.int .i64 0,.int .i64 0,.slice none 0 0]) fun H5=>∃c1:Int,∃c2:Int,∃kh:OA,∃mh:Nat,∃lh:Nat,  rdN H5 b3 0 3=some [.int .i64 c1,.int .i64 c2,.slice kh mh lh]∧K (.tuple #[.agg #[.int .i64 c1,.int .i64 c2,.slice kh mh lh],.bool false]) H5) (znc levels H4 fun (r2:Bool) (H6:zq)=>Br (!r2) (isOwn H6 b3∧(∃l,rdN H6 b3 0 3=some l)∧Lt (setN H6 b3 0 [.int .i64 0,.int .i64 0,.slice none 0 0]) fun H7=>∃c4:Int,∃c5:Int,∃th:OA,∃vh:Nat,∃uh:Nat,  rdN H7 b3 0 3=some [.int .i64 c4,.int .i64 c5,.slice th vh uh]∧K (.tuple #[.agg #[.int .i64 c4,.int .i64 c5,.slice th vh uh],.bool false]) H7) (znp b1 b2 levels H6 fun (r3:Int) (r4:Int) (a1:OA) (r5:Nat) (r6:Nat) (r7:Bool) (H8:zq)=>isOwn H8 b3∧(∃l,rdN H8 b3 0 3=some l)∧Lt (setN H8 b3 0 [.int .i64 r3,.int .i64 r4,.slice a1 r5 r6]) fun H9=>∃c7:Int,∃c8:Int,∃fi:OA,∃ii:Nat,∃gi:Nat,  rdN H9 b3 0 3=some [.int .i64 c7,.int .i64 c8,.slice fi ii gi]∧K (.tuple #[.agg #[.int .i64 c7,.int .i64 c8,.slice fi ii gi],.bool r7]) H9))):=by kernel_rfl
theorem zyl:∀g,FnOk Tryz.prog g (E_fgz g):=FnOk.envOf (by
 intro x hx
 simp only [List.mem_cons,List.not_mem_nil,or_false] at hx
 rcases hx with rfl | rfl | rfl
 ·exact z1c5
 ·exact f14z_ok
 ·exact z1b6)
theorem z11d (sb:OA) (fc xb gb:Nat) (ua va:Int) (ta:OA) (xa ya:Nat) (levels:Int) (H:zq) (K:KT) (h:zzw sb fc xb gb ua va ta xa ya levels H fun (sd:Int) (pd:Int) (ja:OA) (oa:Nat) (ma:Nat) (r2:Bool) (H':zq)=>K (.tuple #[.agg #[.int .i64 sd,.int .i64 pd,.slice ja oa ma],.bool r2]) H'):z1a Tryz.prog E_fgz Tryz.f11 [.agg #[.slice sb fc xb,.float .f32 gb],.agg #[.int .i64 ua,.int .i64 va,.slice ta xa ya],.int .i64 levels] H K:=by
 rw [z1fr]
 obtain ⟨ws,l,iw,il,bw,bl,hk⟩:=h
 obtain rfl:=iw.eqn
 obtain rfl:=il.eqn
 rw [zhv] at hk
 refine Al.intro fun b1 H1 e1 l1 g1 o1=>Al.intro fun b2 H2 e2 l2 g2 o2=>Al.intro fun b3 H3 e3 l3 g3 o3=>?_
 have G3:Grow H H3:=(g1.trans g2).trans g3
 have p1:=(o1.grow g2).grow g3
 have p2:=o2.grow g3
 have hle3:=G3.1
 refine zzo ⟨sb,ws.length,xb,gb,ua,va,ta,l.length,ya,ws,l,(p1.rdN (Nat.le_of_ble_eq_true rfl)).trans rfl,(p2.rdN (Nat.le_of_ble_eq_true rfl)).trans rfl,iw.grow G3,il.grow G3,bw,bl,?_⟩
 refine Br.intro (fun hc=>?_) (fun hc=>?_)
 ·rw [z1f hc,Bool.not_false,cond_true] at hk
  refine Lt.setN o3 (n:=3) ω23 rfl fun H5 l5 q5 k5=>⟨0,0,none,0,0,(q5.rdN (Nat.le_of_ble_eq_true rfl)).trans rfl,?_⟩
  exact hk none 0 0 H5 (G3.keep ω2 k5) (OwnS.nil _ _ _ _)
 have hcan:=z1e hc
 rw [hcan,Bool.not_true,cond_false] at hk
 obtain ⟨w1,w2,w3,w4,w5,w6,w7⟩:=z17i hcan
 refine (?_:Br _ _ _)
 refine Br.intro (fun hp=>?_) (fun hp=>?_)
 ·rw [z1f hp,Bool.not_false,cond_true] at hk
  refine Lt.setN o3 (n:=3) ω23 rfl fun H5 l5 q5 k5=>⟨0,0,none,0,0,(q5.rdN (Nat.le_of_ble_eq_true rfl)).trans rfl,?_⟩
  exact hk none 0 0 H5 (G3.keep ω2 k5) (OwnS.nil _ _ _ _)
 have hlv:=z1e hp
 rw [hlv,Bool.not_true,cond_false] at hk
 obtain ⟨v1,v2⟩:1≤levels∧levels≤4:=f20z_t hlv
 have hwn:1≤ws.length:=by have:=z1fb hcan;omega
 refine zzj ⟨sb,ws.length,xb,gb,ws,ua,va,ta,l.length,ya,l,(p1.rdN (Nat.le_of_ble_eq_true rfl)).trans rfl,iw.grow G3,bw,hwn,(p2.rdN (Nat.le_of_ble_eq_true rfl)).trans rfl,il.grow G3,w1,w2,w3,w4,w5,v1,v2,fun a n ne H4 g4 w4'=>?_⟩
 have lo:=w4'.lo
 refine Lt.setN (o3.grow g4) (n:=3) ω23 rfl fun H5 l5 q5 k5=>⟨_,_,_,_,_,(q5.rdN (Nat.le_of_ble_eq_true rfl)).trans rfl,?_⟩
 exact hk a n ne H5 ((G3.trans g4).keep ω2 k5) ((w4'.keepA (fun x y hx hy=>by cases hx;have:=lo y hy;have:=o3.lt;show b3≠_;omega) (OwnS.keep1 k5)).weak ω2)
theorem z1fq:FnOk Tryz.prog 11 S_fgz:=FnOk.bodyF mix_ok zyl Tryz.func11 rfl ω9 ω9 fun args H=>by
 unfold F_fgz
 split
 ·refine ⟨?_,?_,?_,?_,fun K hk=>z11d _ _ _ _ _ _ _ _ _ _ H K hk⟩
  ·intro K K' h hk;obtain ⟨ws,l,i1,i2,b1,b2,k⟩:=hk;exact ⟨ws,l,i1,i2,b1,b2,(fun td yd xd H' gg ow0=>h _ _ (k td yd xd H' gg ow0))⟩
  ·nofun
  ·intro K hk;obtain ⟨ws,l,i1,i2,b1,b2,k⟩:=hk;exact z4m fun a n e H1 g o=>⟨_,_,k a n e H1 g o⟩
  ·nofun
 ·exact Nice.no
def z3f (n low high:Int):Bool:=(bif decide ((low:Int)≤n) then decide ((n:Int)≤high) else false)
def z5e (n low high:Int) (H:zq) (K:Bool→zq→Prop):Prop:=K (z3f n low high) H
theorem z4v {n a b:Int} (h:z3f n a b=true):a≤n∧n≤b:=by
 unfold z3f at h
 by_cases h1:a≤n
 ·rw [decide_eq_true h1,cond_true] at h;exact ⟨h1,of_decide_eq_true h⟩
 ·rw [decide_eq_false h1] at h;cases h
theorem z7o {n low high:Int} {H:zq} {K:Bool→zq→Prop} (h:K (z3f n low high) H):z5e n low high H K:=h
/-! f1vz: function 68 -/
def zsz:Env:=envOf []
def z15u (args:List Value) (H:zq):(Value→zq→Prop)→Prop:=match args with
 | [.int .i64 n,.int .i64 low,.int .i64 high]=>fun K=>z5e n low high H fun (r1:Bool) (H':zq)=>K (.bool r1) H'
 | _=>fun _=>False
def zfi:FSpec:={F:=z15u,quiet:=true,tame:=false}
theorem z1c4 (n low high:Int) (H:zq) (K:KT):z1a Tryz.prog zsz Tryz.f68 [.int .i64 n,.int .i64 low,.int .i64 high] H K=
 (Br (decide ((low:Int)≤n)) (K (.bool (decide ((n:Int)≤high))) H) (K (.bool false) H)):=by kernel_rfl
theorem zt0:∀g,FnOk Tryz.prog g (zsz g):=FnOk.envOf (by
 intro x hx;cases hx)
theorem zvn (n low high:Int) (H:zq) (K:KT) (h:z5e n low high H fun (r1:Bool) (H':zq)=>K (.bool r1) H'):z1a Tryz.prog zsz Tryz.f68 [.int .i64 n,.int .i64 low,.int .i64 high] H K:=by
 rw [z1c4]
 unfold z5e z3f at h
 repeat' (first | exact h | (exfalso;simp_all;done) | (refine ⟨by decide,?_⟩) | (refine Br.intro (fun hb=>?_) (fun hb=>?_)<;>(try simp only [hb,cond_true,cond_false,Bool.not_true,Bool.not_false] at h)))
theorem zdj:FnOk Tryz.prog 68 zfi:=FnOk.bodyF mix_ok zt0 Tryz.func68 rfl ω9 ω9 fun args H=>by
 unfold z15u
 split
 ·refine ⟨?_,?_,?_,?_,fun K hk=>zvn _ _ _ H K hk⟩
  ·intro K K' h hk;have k:=hk;exact h _ _ k
  ·intro _ K hk;have k:=hk;exact ⟨_,k,fun K' k'=>k'⟩
  ·intro K hk;have k:=hk;exact ⟨_,_,k⟩
  ·nofun
 ·exact Nice.no
def zfz (x:Nat):Bool:=feq .f32 (fsub .f32 x x) 0
def zcy (x:Nat) (H:zq) (K:Bool→zq→Prop):Prop:=K (zfz x) H

theorem zzc {x:Nat} {H:zq} {K:Bool→zq→Prop} (h:K (zfz x) H):zcy x H K:=h
/-! f18z: function 118 -/
def zs4:Env:=envOf []
def z15a (args:List Value) (H:zq):(Value→zq→Prop)→Prop:=match args with
 | [.float .f32 x]=>fun K=>zcy x H fun (r1:Bool) (H':zq)=>K (.bool r1) H'
 | _=>fun _=>False
def ztc:FSpec:={F:=z15a,quiet:=true,tame:=false}
theorem f18z_vc (x:Nat) (H:zq) (K:KT):z1a Tryz.prog zs4 Tryz.f118 [.float .f32 x] H K=
 (K (.bool (feq .f32 (fsub .f32 x x) 0)) H):=by kernel_rfl
theorem zs5:∀g,FnOk Tryz.prog g (zs4 g):=FnOk.envOf (by
 intro x hx;cases hx)
theorem f18z_main (x:Nat) (H:zq) (K:KT) (h:zcy x H fun (r1:Bool) (H':zq)=>K (.bool r1) H'):z1a Tryz.prog zs4 Tryz.f118 [.float .f32 x] H K:=by
 rw [f18z_vc]
 unfold zcy zfz at h
 repeat' (first | exact h | (exfalso;simp_all;done) | (refine ⟨by decide,?_⟩) | (refine Br.intro (fun hb=>?_) (fun hb=>?_)<;>(try simp only [hb,cond_true,cond_false,Bool.not_true,Bool.not_false] at h)))
theorem f18z_ok:FnOk Tryz.prog 118 ztc:=FnOk.bodyF mix_ok zs5 Tryz.func118 rfl ω9 ω9 fun args H=>by
 unfold z15a
 split
 ·refine ⟨?_,?_,?_,?_,fun K hk=>f18z_main _ H K hk⟩
  ·intro K K' h hk;have k:=hk;exact h _ _ k
  ·intro _ K hk;have k:=hk;exact ⟨_,k,fun K' k'=>k'⟩
  ·intro K hk;have k:=hk;exact ⟨_,_,k⟩
  ·nofun
 ·exact Nice.no

def zbi (yf:List LN) (t2:Bool) (t9:Int) (k2_2:Bool→Int→Bool):Nat→Bool→Int→Bool
 | 0,_,_=>false
 | μ2+1,t2_2,t15=>(bif decide ((t15:Int)<((((yf).getD (t9:Int).toNat [])).length:Int)) then (bif !((zfz (((((yf).getD (t9:Int).toNat [])).getD (t15:Int).toNat 0)))) then false else (zbi yf t2 t9 k2_2 μ2 t2_2 (t15+1))) else (k2_2 t2_2 t15))
def zgf:=fun yf t2 t9 k2_2 μ2 t2_2 t15=>@zbi.eq_2 yf t2 t9 k2_2 t2_2 t15 μ2
def z6n (yf:List LN):Nat→Bool→Int→Bool
 | 0,_,_=>false
 | μ+1,t2,t9=>(bif decide ((t9:Int)<(yf.length:Int)) then (zbi yf t2 t9 (fun (t2_2:Bool) (t15:Int)=>(z6n yf μ t2_2 (t9+1))) (Int.toNat (((((yf).getD (t9:Int).toNat [])).length:Int)-(0:Int))+1) t2 (0:Int)) else true)
def zge:=fun yf μ t2 t9=>@z6n.eq_2 yf t2 t9 μ
def z4y (yf:List LN):Bool:=(z6n yf (Int.toNat ((yf.length:Int)-(0:Int))+1) false (0:Int))
def zp1:=@z4y.eq_1
def zit (bg:OA) (jf mg:Nat) (H:zq) (K:Bool→zq→Prop):Prop:=∃(yf:List LN),IsLL fF H bg jf yf∧yf.length<1073741824∧(∀y ∈ yf,y.length<1073741824)∧K (z4y yf) H
theorem zd0 {bg:OA} {jf mg:Nat} {H:zq} {K:Bool→zq→Prop} (h:∃(yf:List LN),IsLL fF H bg jf yf∧yf.length<1073741824∧(∀y ∈ yf,y.length<1073741824)∧K (z4y yf) H):zit bg jf mg H K:=h

/-! frz: function 104 -/
def z8h:Env:=envOf [(118,ztc)]
def F_frz (args:List Value) (H:zq):(Value→zq→Prop)→Prop:=match args with
 | [.slice bg jf mg]=>fun K=>zit bg jf mg H fun (r1:Bool) (H':zq)=>K (.bool r1) H'
 | _=>fun _=>False
def zth:FSpec:={F:=F_frz,quiet:=true,tame:=false}
theorem z1hb (bg:OA) (jf mg:Nat) (H:zq) (K:KT):z1a Tryz.prog z8h Tryz.f104 [.slice bg jf mg] H K=
 (z1j (exL Tryz.prog z8h (cl (cl (cr (cl (cr (zr Tryz.f104)))))) 896 4 [(0,0)]) (ud7 (.slice bg jf mg::.int .i64 (jf:Int)::.int .i64 0::ud14 [])) H (zx 0 (seqQ (exL Tryz.prog z8h (cr (cr (zr Tryz.f104))) 4 4 []) (retK Tryz.prog Tryz.f104 K)))):=by kernel_rfl
abbrev zjp (bg:OA) (mg jf:Nat) (t9:Int)  :List Value:=(ud7 (.slice bg jf mg::.int .i64 (jf:Int)::.int .i64 t9::ud14 []))
theorem z1h9 (bg:OA) (mg jf:Nat) (t9:Int)  (H:zq) (R:Post):exL Tryz.prog z8h (cl (cl (cr (cl (cr (zr Tryz.f104)))))) 896 4 [(0,0)] (zjp bg mg jf t9) H R=
 (Br (decide ((t9:Int)<(jf:Int))) ((0:Int)≤t9∧t9<(jf:Int)∧∃b1 f1,(bg:OA)=some ⟨b1,f1,none⟩∧∃fh:OA,∃bh:Nat,∃qh:Nat,  rdC H b1 (f1+(t9:Int).toNat*1)=some (.slice fh bh qh)∧z1j (exL Tryz.prog z8h (cl (cl (cr (cr (cl (cl (cr (cr (cl (cl (cr (cl (cr (zr Tryz.f104)))))))))))))) 58240 4 [(2,896),(1,896),(0,0)]) (ud7 (.slice bg jf mg::.int .i64 (jf:Int)::.int .i64 t9::ud3 (.slice fh bh qh::.int .i64 (bh:Int)::.int .i64 0::ud8 []))) H (zx 2 (zx 1 (seqQ (exL Tryz.prog z8h (cr (cr (cr (cl (cl (cr (cl (cr (zr Tryz.f104))))))))) 896 4 [(0,0)]) (R))))) (R (.exit 0) (ud24 []) H)):=by kernel_rfl
def zwc (bg:OA) (mg jf:Nat) (Inv:Nat→Int→zq→Prop):Nat→List Value→zq→Prop:=fun μ tm H=>∃(t9:Int),tm=(zjp bg mg jf t9)∧Inv μ t9 H
theorem z1h5 (bg:OA) (mg jf:Nat) {Q:Post} (Inv:Nat→Int→zq→Prop) (ν:Nat) (t9:Int)  (H:zq) (h0:Inv ν t9 H)
  (hs:∀(μ:Nat) (t9:Int)  (H:zq),Inv μ t9 H→exL Tryz.prog z8h (cl (cl (cr (cl (cr (zr Tryz.f104)))))) 896 4 [(0,0)] (zjp bg mg jf t9) H (z1b (zwc bg mg jf Inv) μ Q)):z1j (exL Tryz.prog z8h (cl (cl (cr (cl (cr (zr Tryz.f104)))))) 896 4 [(0,0)]) (zjp bg mg jf t9) H Q:=
 ⟨zwc bg mg jf Inv,ν,⟨t9,rfl,h0⟩,fun μ tm H h=>by obtain ⟨t9,rfl,hI⟩:=h;exact hs μ t9  H hI⟩
theorem z1h7 {bg:OA} {mg jf:Nat} {Q:Post} {Inv:Nat→Int→zq→Prop} {μ:Nat} (μ':Nat) {t9:Int}  {H:zq} (hm:μ'<μ) (hI:Inv μ' t9 H):z1b (zwc bg mg jf Inv) μ Q .normal (zjp bg mg jf t9) H:=⟨μ',hm,t9,rfl,hI⟩
theorem z12d  (H:zq) (K:KT)  {I:Nat→List Value→zq→Prop} {μ:Nat}:z1b I μ (zx 0 (seqQ (exL Tryz.prog z8h (cr (cr (zr Tryz.f104))) 4 4 []) (retK Tryz.prog Tryz.f104 K))) (.exit 0) (ud24 []) H=
 (K (.bool true) H):=by kernel_rfl
theorem zq0 (t2:Bool) (H:zq) (K:KT)  {I:Nat→List Value→zq→Prop} {μ:Nat}:z1b I μ (zx 0 (seqQ (exL Tryz.prog z8h (cr (cr (zr Tryz.f104))) 4 4 []) (retK Tryz.prog Tryz.f104 K))) .ret (ud2 (.bool t2::ud21 [])) H=
 (K (.bool t2) H):=by kernel_rfl
abbrev zjq (bg:OA) (mg jf:Nat) (t9:Int) (fh:OA) (qh bh:Nat) (t15:Int)  :List Value:=(ud7 (.slice bg jf mg::.int .i64 (jf:Int)::.int .i64 t9::ud3 (.slice fh bh qh::.int .i64 (bh:Int)::.int .i64 t15::ud8 [])))
theorem z1ha (bg:OA) (mg jf:Nat) (t9:Int) (fh:OA) (qh bh:Nat) (t15:Int)  (H:zq) (R:Post):exL Tryz.prog z8h (cl (cl (cr (cr (cl (cl (cr (cr (cl (cl (cr (cl (cr (zr Tryz.f104)))))))))))))) 58240 4 [(2,896),(1,896),(0,0)] (zjq bg mg jf t9 fh qh bh t15) H R=
 (Br (decide ((t15:Int)<(bh:Int))) ((0:Int)≤t15∧t15<(bh:Int)∧∃b2 f2,(fh:OA)=some ⟨b2,f2,none⟩∧∃x2:Nat,  rdC H b2 (f2+(t15:Int).toNat*1)=some (.float .f32 x2)∧zcy x2 H fun (r1:Bool) (H1:zq)=>Br (!r1) (R .ret (ud2 (.bool false::ud21 [])) H1) (R .normal (ud7 (.slice bg jf mg::.int .i64 (jf:Int)::.int .i64 t9::ud3 (.slice fh bh qh::.int .i64 (bh:Int)::.int .i64 (IntKind.wrap .i64 (t15+1))::ud8 []))) H1)) (R (.exit 2) (ud7 (.slice bg jf mg::.int .i64 (jf:Int)::.int .i64 t9::ud14 [])) H)):=by kernel_rfl
def zwd (bg:OA) (mg jf:Nat) (t9:Int) (fh:OA) (qh bh:Nat) (Inv:Nat→Int→zq→Prop):Nat→List Value→zq→Prop:=fun μ tm H=>∃(t15:Int),tm=(zjq bg mg jf t9 fh qh bh t15)∧Inv μ t15 H
theorem z1h6 (bg:OA) (mg jf:Nat) (t9:Int) (fh:OA) (qh bh:Nat) {Q:Post} (Inv:Nat→Int→zq→Prop) (ν:Nat) (t15:Int)  (H:zq) (h0:Inv ν t15 H)
  (hs:∀(μ:Nat) (t15:Int)  (H:zq),Inv μ t15 H→exL Tryz.prog z8h (cl (cl (cr (cr (cl (cl (cr (cr (cl (cl (cr (cl (cr (zr Tryz.f104)))))))))))))) 58240 4 [(2,896),(1,896),(0,0)] (zjq bg mg jf t9 fh qh bh t15) H (z1b (zwd bg mg jf t9 fh qh bh Inv) μ Q)):z1j (exL Tryz.prog z8h (cl (cl (cr (cr (cl (cl (cr (cr (cl (cl (cr (cl (cr (zr Tryz.f104)))))))))))))) 58240 4 [(2,896),(1,896),(0,0)]) (zjq bg mg jf t9 fh qh bh t15) H Q:=
 ⟨zwd bg mg jf t9 fh qh bh Inv,ν,⟨t15,rfl,h0⟩,fun μ tm H h=>by obtain ⟨t15,rfl,hI⟩:=h;exact hs μ t15  H hI⟩
theorem z1h8 {bg:OA} {mg jf:Nat} {t9:Int} {fh:OA} {qh bh:Nat} {Q:Post} {Inv:Nat→Int→zq→Prop} {μ:Nat} (μ':Nat) {t15:Int}  {H:zq} (hm:μ'<μ) (hI:Inv μ' t15 H):z1b (zwd bg mg jf t9 fh qh bh Inv) μ Q .normal (zjq bg mg jf t9 fh qh bh t15) H:=⟨μ',hm,t15,rfl,hI⟩
theorem z12e (bg:OA) (mg jf:Nat) (t9:Int) (H:zq)  (R:Post) {I:Nat→List Value→zq→Prop} {μ:Nat}:z1b I μ (zx 2 (zx 1 (seqQ (exL Tryz.prog z8h (cr (cr (cr (cl (cl (cr (cl (cr (zr Tryz.f104))))))))) 896 4 [(0,0)]) (R)))) (.exit 2) (ud7 (.slice bg jf mg::.int .i64 (jf:Int)::.int .i64 t9::ud14 [])) H=
 (R .normal (ud7 (.slice bg jf mg::.int .i64 (jf:Int)::.int .i64 (IntKind.wrap .i64 (t9+1))::ud14 [])) H):=by kernel_rfl
theorem zq1 (t2_2:Bool) (H:zq)  (R:Post) {I:Nat→List Value→zq→Prop} {μ:Nat}:z1b I μ (zx 2 (zx 1 (seqQ (exL Tryz.prog z8h (cr (cr (cr (cl (cl (cr (cl (cr (zr Tryz.f104))))))))) 896 4 [(0,0)]) (R)))) .ret (ud2 (.bool t2_2::ud21 [])) H=
 (R .ret (ud2 (.bool t2_2::ud21 [])) H):=by kernel_rfl
theorem zyw:∀g,FnOk Tryz.prog g (z8h g):=FnOk.envOf (by
 intro x hx
 simp only [List.mem_cons,List.not_mem_nil,or_false] at hx
 subst hx;exact f18z_ok)
theorem z12c (bg:OA) (jf mg:Nat) (H:zq) (K:KT) (h:zit bg jf mg H fun (r1:Bool) (H':zq)=>K (.bool r1) H'):z1a Tryz.prog z8h Tryz.f104 [.slice bg jf mg] H K:=by
 rw [z1hb]
 obtain ⟨yf,i_lists,bd_22,bb_l_lists,hk⟩:=h
 obtain rfl:=i_lists.eqn
 have e:(z4y yf)=_:=rfl
 have e:=e.trans (zp1 yf)
 have g0:=Grow.refl H
 refine z1h5 _ _ _ (fun (μ:Nat) (t9:Int) (H_1:zq)=>∃(t2:Bool),H=H_1∧(0:Int)≤t9∧t9≤(yf.length:Int)∧(yf.length:Int)-t9≤(μ:Int)∧z4y yf=z6n yf (μ+1) t2 t9) (Int.toNat ((yf.length:Int)-(0:Int))) _ H ?_ ?_
 ·exact ⟨_,rfl,ω7,ω7,ω2,e⟩
 ·intro μ t9  H_1 hI
  obtain ⟨t2,rfl,v_1,v_2,hμ,e⟩:=hI
  rw [z1h9]
  have e:=e.trans (zge yf μ t2 t9)
  have l_3:=g0.1
  refine Br.intro (fun c_4=>?_) (fun c_4=>?_)
  ·have e:=e.trans (zw c_4)
   have c_4':=of_decide_eq_true c_4
   obtain ⟨b_5,f_6,q_7⟩:=((i_lists.grow g0)).pos ω0
   refine ⟨by omega,by omega,b_5,f_6,q_7,?_⟩
   obtain ⟨a_8,n_9,e_10,r_11,nh⟩:=(i_lists).rd (i:=(t9:Int).toNat) g0 q_7 ω2
   obtain rfl:=nh.eqn
   refine ⟨a_8,_,e_10,r_11,?_⟩
   have z13:=z12s bb_l_lists (t9:Int).toNat
   refine z1h6 _ _ _ _ _ _ _ (fun (μ2:Nat) (t15:Int) (H_2:zq)=>∃(t2_2:Bool),H=H_2∧(0:Int)≤t15∧t15≤((((yf).getD (t9:Int).toNat [])).length:Int)∧((((yf).getD (t9:Int).toNat [])).length:Int)-t15≤(μ2:Int)∧z4y yf=zbi yf t2 t9 (fun (t2_2:Bool) (t15:Int)=>(z6n yf μ t2_2 (t9+1))) (μ2+1) t2_2 t15) (Int.toNat (((((yf).getD (t9:Int).toNat [])).length:Int)-(0:Int))) _ H ?_ ?_
   ·exact ⟨_,rfl,ω7,ω7,ω2,e⟩
   ·intro μ2 t15  H_2 hI
    obtain ⟨t2_2,rfl,v_14,v_15,hμ,e⟩:=hI
    rw [z1ha]
    have e:=e.trans (zgf yf t2 t9 (fun (t2_2:Bool) (t15:Int)=>(z6n yf μ t2_2 (t9+1))) μ2 t2_2 t15)
    have l_16:=g0.1
    refine Br.intro (fun c_17=>?_) (fun c_17=>?_)
    ·have e:=e.trans (zw c_17)
     have c_17':=of_decide_eq_true c_17
     obtain ⟨b18,f_19,q_20⟩:=((nh.grow g0)).pos ω0
     refine ⟨by omega,by omega,b18,f_19,q_20,?_⟩
     refine ⟨((((yf).getD (t9:Int).toNat [])).getD (t15:Int).toNat 0),(nh).rd g0 q_20 ω2 _,?_⟩
     refine zzc ?_
     refine Br.intro (fun c_21=>?_) (fun c_21=>?_)
     ·have e:=e.trans (zw c_21)
      have c_21n:=z1f c_21
      rw [zq1]
      rw [zq0]
      rw [e] at hk
      exact hk
     ·have e:=e.trans (zv c_21)
      have c_21n:=z1e c_21
      rw [show IntKind.wrap .i64 (t15+1)=(t15+1) from zu ω2 ω2]
      refine z1h8 (μ2-1) ω17 ⟨_,rfl,ω1,ω1,ω17,ω28⟩
    ·have e:=e.trans (zv c_17)
     have c_17':=of_decide_eq_false c_17
     rw [z12e]
     rw [show IntKind.wrap .i64 (t9+1)=(t9+1) from zu ω2 ω2]
     refine z1h7 (μ-1) ω17 ⟨_,rfl,ω1,ω1,ω17,ω13⟩
  ·have e:=e.trans (zv c_4)
   have c_4':=of_decide_eq_false c_4
   rw [z12d]
   rw [e] at hk
   exact hk
theorem zod:FnOk Tryz.prog 104 zth:=FnOk.bodyF mix_ok zyw Tryz.func104 rfl ω9 ω9 fun args H=>by
 unfold F_frz
 split
 ·refine ⟨?_,?_,?_,?_,fun K hk=>z12c _ _ _ H K hk⟩
  ·intro K K' h hk;obtain ⟨yf,i_lists,bd_22,bb_l_lists,k⟩:=hk;exact ⟨yf,i_lists,bd_22,bb_l_lists,h _ _ k⟩
  ·intro _ K hk;obtain ⟨yf,i_lists,bd_22,bb_l_lists,k⟩:=hk;exact ⟨_,k,fun K' k'=>⟨yf,i_lists,bd_22,bb_l_lists,k'⟩⟩
  ·intro K hk;obtain ⟨yf,i_lists,bd_22,bb_l_lists,k⟩:=hk;exact ⟨_,_,k⟩
  ·nofun
 ·exact Nice.no
def zkt (x:Nat):Bool:=(bif (zfz x) then flt .f32 0 x else false)
def zis (x:Nat) (H:zq) (K:Bool→zq→Prop):Prop:=K (zkt x) H

theorem zzn {x:Nat} {H:zq} {K:Bool→zq→Prop} (h:K (zkt x) H):zis x H K:=h
/-! f1tz: function 91 -/
def zsx:Env:=envOf [(118,ztc)]
def z15t (args:List Value) (H:zq):(Value→zq→Prop)→Prop:=match args with
 | [.float .f32 x]=>fun K=>zis x H fun (r1:Bool) (H':zq)=>K (.bool r1) H'
 | _=>fun _=>False
def z16w:FSpec:={F:=z15t,quiet:=true,tame:=false}
theorem z1by (x:Nat) (H:zq) (K:KT):z1a Tryz.prog zsx Tryz.f91 [.float .f32 x] H K=
 (zcy x H fun (r1:Bool) (H1:zq)=>Br r1 (K (.bool (flt .f32 0 x)) H1) (K (.bool false) H1)):=by kernel_rfl
theorem zsy:∀g,FnOk Tryz.prog g (zsx g):=FnOk.envOf (by
 intro x hx
 simp only [List.mem_cons,List.not_mem_nil,or_false] at hx
 subst hx;exact f18z_ok)
theorem zvk (x:Nat) (H:zq) (K:KT) (h:zis x H fun (r1:Bool) (H':zq)=>K (.bool r1) H'):z1a Tryz.prog zsx Tryz.f91 [.float .f32 x] H K:=by
 rw [z1by]
 simp only [zcy]
 unfold zis zkt at h
 repeat' (first | exact h | (exfalso;simp_all;done) | (refine ⟨by decide,?_⟩) | (refine Br.intro (fun hb=>?_) (fun hb=>?_)<;>(try simp only [hb,cond_true,cond_false,Bool.not_true,Bool.not_false] at h)))
theorem z1bx:FnOk Tryz.prog 91 z16w:=FnOk.bodyF mix_ok zsy Tryz.func91 rfl ω9 ω9 fun args H=>by
 unfold z15t
 split
 ·refine ⟨?_,?_,?_,?_,fun K hk=>zvk _ H K hk⟩
  ·intro K K' h hk;have k:=hk;exact h _ _ k
  ·intro _ K hk;have k:=hk;exact ⟨_,k,fun K' k'=>k'⟩
  ·intro K hk;have k:=hk;exact ⟨_,_,k⟩
  ·nofun
 ·exact Nice.no

def z5k (ia:LN) (gb:Nat):Bool:=(bif (z3f (ia.length:Int) (1:Int) (8:Int)) then (bif (z4y ([ia])) then (zkt gb) else false) else false)
def zht:=@z5k.eq_1
def zpg (sb:OA) (fc xb gb:Nat) (H:zq) (K:Bool→zq→Prop):Prop:=∃(ia:LN),IsL fF H sb fc ia∧ia.length<1073741824∧((∀H':zq,Grow H H'→K (z5k ia gb) H'))
theorem zlm {sb:OA} {fc xb gb:Nat} {H:zq} {K:Bool→zq→Prop} (h:∃(ia:LN),IsL fF H sb fc ia∧ia.length<1073741824∧((∀H':zq,Grow H H'→K (z5k ia gb) H'))):zpg sb fc xb gb H K:=h

/-! fdz: function 49 -/
def E_fdz:Env:=envOf [(68,zfi),(104,zth),(91,z16w)]
def F_fdz (args:List Value) (H:zq):(Value→zq→Prop)→Prop:=match args with
 | [.agg ⟨[.slice sb fc xb,.float .f32 gb]⟩]=>fun K=>zpg sb fc xb gb H fun (r1:Bool) (H':zq)=>K (.bool r1) H'
 | _=>fun _=>False
def zz6:FSpec:={F:=F_fdz,quiet:=false,tame:=true}
theorem z1fl (sb:OA) (fc xb gb:Nat) (H:zq) (K:KT):z1a Tryz.prog E_fdz Tryz.f49 [.agg #[.slice sb fc xb,.float .f32 gb]] H K=
 (Al [.slice sb fc xb,.float .f32 gb] H fun b1 H1=>∃fh:OA,∃bh:Nat,∃qh:Nat,  rdC H1 b1 0=some (.slice fh bh qh)∧z5e (bh:Int) 1 8 H1 fun (r1:Bool) (H2:zq)=>Br r1 (∃sk:OA,∃rk:Nat,∃uk:Nat,  rdC H2 b1 0=some (.slice sk rk uk)∧Al [.slice sk rk uk] H2 fun b2 H3=>zit (some ⟨b2,0,none⟩) 1 1 H3 fun (r2:Bool) (H4:zq)=>Br r2 (∃x3:Nat,  rdC H4 b1 1=some (.float .f32 x3)∧zis x3 H4 fun (r3:Bool) (H5:zq)=>K (.bool r3) H5) (K (.bool false) H4)) (K (.bool false) H2)):=by kernel_rfl
theorem zyi:∀g,FnOk Tryz.prog g (E_fdz g):=FnOk.envOf (by
 intro x hx
 simp only [List.mem_cons,List.not_mem_nil,or_false] at hx
 rcases hx with rfl | rfl | rfl
 ·exact zdj
 ·exact zod
 ·exact z1bx)
theorem ω12 {P:Prop} (h:P:=by first | assumption | exact zon (by assumption) (by omega) | exact zon (by assumption:_∧(_∨_)).2 (by omega) | (intro y hy;simp only [List.mem_cons,List.not_mem_nil,or_false] at hy;first | omega | (subst hy;omega) | (rcases hy with rfl | rfl<;>omega) | (rcases hy with rfl | rfl | rfl<;>omega))):P:=h
theorem z10z (sb:OA) (fc xb gb:Nat) (H:zq) (K:KT) (h:zpg sb fc xb gb H fun (r1:Bool) (H':zq)=>K (.bool r1) H'):z1a Tryz.prog E_fdz Tryz.f49 [.agg #[.slice sb fc xb,.float .f32 gb]] H K:=by
 rw [z1fl]
 obtain ⟨ia,xg,bd_25,hk⟩:=h
 obtain rfl:=xg.eqn
 have e:(z5k ia gb)=_:=rfl
 have e:=e.trans (zht ia gb)
 have g0:=Grow.refl H
 refine Al.intro (fun b_1 H_1 hb_2 hl_3 g_4 o_5=>?_)
 have l_7:=g_4.1
 have g_8:=g0.trans g_4
 have l_9:=g_8.1
 have w24:=o_5.lt
 refine ⟨sb,ia.length,xb,(o_5.rdC _).trans rfl,?_⟩
 refine z7o ?_
 refine Br.intro (fun c_10=>?_) (fun c_10=>?_)
 ·have e:=e.trans (zw c_10)
  have c_10':=z4v c_10
  refine ⟨sb,ia.length,xb,(o_5.rdC _).trans rfl,?_⟩
  refine Al.intro (fun b_11 H_2 hb_12 hl_13 g_14 o15=>?_)
  have l_17:=g_14.1
  have g_18:=g_8.trans g_14
  have l_19:=g_18.1
  have o20:=o_5.grow g_14
  have w21:=o20.lt
  have w23:=o15.lt
  refine zd0 ⟨[ia],⟨_,o15.rdAll rfl,LLc.cons (xg.grow g_18) (LLc.nil _ _)⟩,ω0,ω12,?_⟩
  refine Br.intro (fun c_22=>?_) (fun c_22=>?_)
  ·have e:=e.trans (zw c_22)
   refine ⟨gb,(o20.rdC _).trans rfl,?_⟩
   refine zzn ?_
   rw [e] at hk
   exact hk  H_2 g_18 
  ·have e:=e.trans (zv c_22)
   rw [e] at hk
   exact hk  H_2 g_18 
 ·have e:=e.trans (zv c_10)
  rw [e] at hk
  exact hk  H_1 g_8 
theorem zvu:FnOk Tryz.prog 49 zz6:=FnOk.bodyF mix_ok zyi Tryz.func49 rfl ω9 ω9 fun args H=>by
 unfold F_fdz
 split
 ·refine ⟨?_,?_,?_,?_,fun K hk=>z10z _ _ _ _ H K hk⟩
  ·intro K K' h hk;obtain ⟨ia,xg,bd_25,k⟩:=hk;exact ⟨ia,xg,bd_25,(fun  H' gg  =>h _ _ (k  H' gg))⟩
  ·nofun
  ·intro K hk;obtain ⟨ia,xg,bd_25,k⟩:=hk;exact ⟨_,_,k H (Grow.refl H)⟩
  ·intro _ K hk;obtain ⟨ia,xg,bd_25,k⟩:=hk;exact ⟨ia,xg,bd_25,(fun  H' gg  =>⟨gg,k  H' gg⟩)⟩
 ·exact Nice.no

def z1p (ua va:Int) (ga:LN):Bool:=((bif (z3f ua (1:Int) (16:Int)) then (bif (z3f va (1:Int) (16:Int)) then (bif ((ga.length:Int):Int)==IntKind.wrap .i64 (ua*va) then (z4y ([ga])) else false) else false) else false))
def zbb:=@z1p.eq_1
def zh7 (ua va:Int) (ta:OA) (xa ya:Nat) (H:zq) (K:Bool→zq→Prop):Prop:=∃(ga:LN),IsL fF H ta xa ga∧ga.length<1073741824∧((∀H':zq,Grow H H'→K (z1p ua va ga) H'))
theorem zbo {ua va:Int} {ta:OA} {xa ya:Nat} {H:zq} {K:Bool→zq→Prop} (h:∃(ga:LN),IsL fF H ta xa ga∧ga.length<1073741824∧((∀H':zq,Grow H H'→K (z1p ua va ga) H'))):zh7 ua va ta xa ya H K:=h
theorem f6z_t {w h:Int} {l:LN} (hh:z1p w h l=true):1≤w∧w≤16∧1≤h∧h≤16∧(l.length:Int)=w*h∧(l.length:Int)≤256∧1≤(l.length:Int):=by
 rw [zbb] at hh
 simp only [Bool.cond_false_right,Bool.and_eq_true] at hh
 obtain ⟨a,b,c,-⟩:=hh
 have a:=z4v a
 have b:=z4v b
 have h1:w*h≤16*16:=Int.mul_le_mul ω2 ω2 ω2 ω23
 have h2:1*1≤w*h:=Int.mul_le_mul ω2 ω2 ω2 ω2
 have c:=eq_of_beq c
 rw [zu ω2 ω2] at c
 exact ⟨a.1,a.2,b.1,b.2,c,by omega,by omega⟩
/-! f6z: function 50 -/
def E_f6z:Env:=envOf [(68,zfi),(104,zth)]
def F_f6z (args:List Value) (H:zq):(Value→zq→Prop)→Prop:=match args with
 | [.agg ⟨[.int .i64 ua,.int .i64 va,.slice ta xa ya]⟩]=>fun K=>zh7 ua va ta xa ya H fun (r1:Bool) (H':zq)=>K (.bool r1) H'
 | _=>fun _=>False
def zll:FSpec:={F:=F_f6z,quiet:=false,tame:=true}
theorem f6z_vc (ua va:Int) (ta:OA) (xa ya:Nat) (H:zq) (K:KT):z1a Tryz.prog E_f6z Tryz.f50 [.agg #[.int .i64 ua,.int .i64 va,.slice ta xa ya]] H K=
 (Al [.int .i64 ua,.int .i64 va,.slice ta xa ya] H fun b1 H1=>∃x1:Int,  rdC H1 b1 0=some (.int .i64 x1)∧z5e x1 1 16 H1 fun (r1:Bool) (H2:zq)=>Br r1 (∃x2:Int,  rdC H2 b1 1=some (.int .i64 x2)∧z5e x2 1 16 H2 fun (r2:Bool) (H3:zq)=>Br r2 (∃rj:OA,∃mj:Nat,∃wj:Nat,  rdC H3 b1 2=some (.slice rj mj wj)∧∃x4:Int,  rdC H3 b1 0=some (.int .i64 x4)∧∃x5:Int,  rdC H3 b1 1=some (.int .i64 x5)∧Br (((mj:Int):Int)==IntKind.wrap .i64 (x4*x5)) (∃ji:OA,∃ei:Nat,∃qi:Nat,  rdC H3 b1 2=some (.slice ji ei qi)∧Al [.slice ji ei qi] H3 fun b2 H4=>zit (some ⟨b2,0,none⟩) 1 1 H4 fun (r3:Bool) (H5:zq)=>K (.bool r3) H5) (K (.bool false) H3)) (K (.bool false) H3)) (K (.bool false) H2)):=by kernel_rfl
theorem zyb:∀g,FnOk Tryz.prog g (E_f6z g):=FnOk.envOf (by
 intro x hx
 simp only [List.mem_cons,List.not_mem_nil,or_false] at hx
 rcases hx with rfl | rfl
 ·exact zdj
 ·exact zod)
theorem f6z_main (ua va:Int) (ta:OA) (xa ya:Nat) (H:zq) (K:KT) (h:zh7 ua va ta xa ya H fun (r1:Bool) (H':zq)=>K (.bool r1) H'):z1a Tryz.prog E_f6z Tryz.f50 [.agg #[.int .i64 ua,.int .i64 va,.slice ta xa ya]] H K:=by
 rw [f6z_vc]
 obtain ⟨ga,tf,bd_26,hk⟩:=h
 obtain rfl:=tf.eqn
 have e:(z1p ua va ga)=_:=rfl
 have e:=e.trans (zbb ua va ga)
 have g0:=Grow.refl H
 refine Al.intro (fun b_1 H_1 hb_2 hl_3 g_4 o_5=>?_)
 have l_7:=g_4.1
 have g_8:=g0.trans g_4
 have l_9:=g_8.1
 have w25:=o_5.lt
 refine ⟨ua,(o_5.rdC _).trans rfl,?_⟩
 refine z7o ?_
 refine Br.intro (fun c_10=>?_) (fun c_10=>?_)
 ·have e:=e.trans (zw c_10)
  have c_10':=z4v c_10
  refine ⟨va,(o_5.rdC _).trans rfl,?_⟩
  refine z7o ?_
  refine Br.intro (fun c_11=>?_) (fun c_11=>?_)
  ·have e:=e.trans (zw c_11)
   have c_11':=z4v c_11
   refine ⟨ta,ga.length,ya,(o_5.rdC _).trans rfl,?_⟩
   refine ⟨ua,(o_5.rdC _).trans rfl,?_⟩
   refine ⟨va,(o_5.rdC _).trans rfl,?_⟩
   refine Br.intro (fun c_12=>?_) (fun c_12=>?_)
   ·have e:=e.trans (zw c_12)
    have c_12':=zjv c_12
    refine ⟨ta,ga.length,ya,(o_5.rdC _).trans rfl,?_⟩
    refine Al.intro (fun b_13 H_2 hb_14 hl_15 g16 o_17=>?_)
    have l_19:=g16.1
    have g20:=g_8.trans g16
    have l_21:=g20.1
    have o22:=o_5.grow g16
    have w23:=o22.lt
    have w24:=o_17.lt
    refine zd0 ⟨[ga],⟨_,o_17.rdAll rfl,LLc.cons (tf.grow g20) (LLc.nil _ _)⟩,ω0,ω12,?_⟩
    rw [e] at hk
    exact hk  H_2 g20 
   ·have e:=e.trans (zv c_12)
    have c_12':=zju c_12
    rw [e] at hk
    exact hk  H_1 g_8 
  ·have e:=e.trans (zv c_11)
   rw [e] at hk
   exact hk  H_1 g_8 
 ·have e:=e.trans (zv c_10)
  rw [e] at hk
  exact hk  H_1 g_8 
theorem f6z_ok:FnOk Tryz.prog 50 zll:=FnOk.bodyF mix_ok zyb Tryz.func50 rfl ω9 ω9 fun args H=>by
 unfold F_f6z
 split
 ·refine ⟨?_,?_,?_,?_,fun K hk=>f6z_main _ _ _ _ _ H K hk⟩
  ·intro K K' h hk;obtain ⟨ga,tf,bd_26,k⟩:=hk;exact ⟨ga,tf,bd_26,(fun  H' gg  =>h _ _ (k  H' gg))⟩
  ·nofun
  ·intro K hk;obtain ⟨ga,tf,bd_26,k⟩:=hk;exact ⟨_,_,k H (Grow.refl H)⟩
  ·intro _ K hk;obtain ⟨ga,tf,bd_26,k⟩:=hk;exact ⟨ga,tf,bd_26,(fun  H' gg  =>⟨gg,k  H' gg⟩)⟩
 ·exact Nice.no
def zqt (levels:Int):Bool:=(z3f levels 1 4)
def zu4 (levels:Int) (H:zq) (K:Bool→zq→Prop):Prop:=K (zqt levels) H
/-! ftz: function 51 -/
def E_ftz:Env:=envOf [(68,zfi)]
def F_ftz (args:List Value) (H:zq):(Value→zq→Prop)→Prop:=match args with
 | [.int .i64 levels]=>fun K=>zu4 levels H fun (r1:Bool) (H':zq)=>K (.bool r1) H'
 | _=>fun _=>False
def S_ftz:FSpec:={F:=F_ftz,quiet:=true,tame:=false}
theorem z1hd (levels:Int) (H:zq) (K:KT):z1a Tryz.prog E_ftz Tryz.f51 [.int .i64 levels] H K=
 (z5e levels 1 4 H fun (r1:Bool) (H1:zq)=>K (.bool r1) H1):=by kernel_rfl
theorem zyx:∀g,FnOk Tryz.prog g (E_ftz g):=FnOk.envOf (by
 intro x hx
 simp only [List.mem_cons,List.not_mem_nil,or_false] at hx
 subst hx;exact zdj)
theorem z12g (levels:Int) (H:zq) (K:KT) (h:zu4 levels H fun (r1:Bool) (H':zq)=>K (.bool r1) H'):z1a Tryz.prog E_ftz Tryz.f51 [.int .i64 levels] H K:=by
 rw [z1hd]
 simp only [z5e]
 unfold zu4 zqt at h
 repeat' (first | exact h | (exfalso;simp_all;done) | (refine ⟨by decide,?_⟩) | (refine Br.intro (fun hb=>?_) (fun hb=>?_)<;>(try simp only [hb,cond_true,cond_false,Bool.not_true,Bool.not_false] at h)))
theorem z1hc:FnOk Tryz.prog 51 S_ftz:=FnOk.bodyF mix_ok zyx Tryz.func51 rfl ω9 ω9 fun args H=>by
 unfold F_ftz
 split
 ·refine ⟨?_,?_,?_,?_,fun K hk=>z12g _ H K hk⟩
  ·intro K K' h hk;have k:=hk;exact h _ _ k
  ·intro _ K hk;have k:=hk;exact ⟨_,k,fun K' k'=>k'⟩
  ·intro K hk;have k:=hk;exact ⟨_,_,k⟩
  ·nofun
 ·exact Nice.no

def zop (qb:LN):LN:=(([]:LN)++qb)
def zkr:=@zop.eq_1
def zat (ld:OA) (tc ee:Nat) (H:zq) (K:OA→Nat→Nat→zq→Prop):Prop:=∃(qb:LN),IsL fF H ld tc qb∧qb.length<1073741824∧((∀(td:OA) (yd xd:Nat),∀H':zq,Grow H H'→OwnS fF H' H.length td yd xd qb→K td yd xd H'))
theorem z9i {ld:OA} {tc ee:Nat} {H:zq} {K:OA→Nat→Nat→zq→Prop} (h:∃(qb:LN),IsL fF H ld tc qb∧qb.length<1073741824∧((∀(td:OA) (yd xd:Nat),∀H':zq,Grow H H'→OwnS fF H' H.length td yd xd qb→K td yd xd H'))):zat ld tc ee H K:=h
theorem z1bn (l:LN):zop l=l:=by
 rw [zkr];rfl
/-! f1qz: function 53 -/
def zst:Env:=envOf []
def z15q (args:List Value) (H:zq):(Value→zq→Prop)→Prop:=match args with
 | [.slice ld tc ee]=>fun K=>zat ld tc ee H fun (td:OA) (yd:Nat) (xd:Nat) (H':zq)=>K (.slice td yd xd) H'
 | _=>fun _=>False
def zna:FSpec:={F:=z15q,quiet:=false,tame:=true}
theorem z1bo (ld:OA) (tc ee:Nat) (H:zq) (K:KT):z1a Tryz.prog zst Tryz.f53 [.slice ld tc ee] H K=
 (Al [] H fun b1 H1=>∃o1 w1:List Value,ownB H1 (some ⟨b1,0,none⟩) 0 1 1=some o1∧rdS H1 ld (tc*1)=some w1∧((some ⟨b1,0,none⟩:OA)=none→0<(tc:Nat))∧(0:Nat)+tc<most∧Ap H1 (z2y H1 (some ⟨b1,0,none⟩)++[some ⟨o1++w1,true⟩]) fun b2 H2=>K (.slice (some ⟨b2,0,none⟩) (0+tc) 1) H2):=by kernel_rfl
theorem zsu:∀g,FnOk Tryz.prog g (zst g):=FnOk.envOf (by
 intro x hx;cases hx)
theorem zvf (ld:OA) (tc ee:Nat) (H:zq) (K:KT) (h:zat ld tc ee H fun (td:OA) (yd:Nat) (xd:Nat) (H':zq)=>K (.slice td yd xd) H'):z1a Tryz.prog zst Tryz.f53 [.slice ld tc ee] H K:=by
 rw [z1bo]
 obtain ⟨qb,i_list,bd_21,hk⟩:=h
 have hk:(∀(td:OA) (yd xd:Nat),∀H':zq,Grow H H'→OwnS fF H' H.length td yd xd (zop qb)→(fun (td:OA) (yd:Nat) (xd:Nat) (H':zq)=>K (.slice td yd xd) H') td yd xd H'):=by rw [z1bn qb];exact hk
 obtain rfl:=i_list.eqn
 have e:(zop qb)=_:=rfl
 have e:=e.trans (zkr qb)
 have g0:=Grow.refl H
 refine Al.intro (fun b_1 H_1 hb_2 hl_3 g_4 o_5=>?_)
 have o_5:Own H_1 b_1 ((([]:LN)).map fF):=o_5
 have l_7:=g_4.1
 have g_8:=g0.trans g_4
 have l_9:=g_8.1
 have w20:=o_5.lt
 refine ⟨_,_,o_5.ownB ω3 rfl,(z2q (i_list.grow g_8)),(fun h=>by cases h),ω25,?_⟩
 refine Ap.app o_5 rfl rfl (fun b_14 H_2 q_18 hl_10 o_11 k_12=>?_)
 have o_11:=z2b o_11
 have l_15:=k_12.1
 have g16:=g_8.keep (b:=b_1) ω2 k_12
 have l_17:=g16.1
 have w_19:=o_11.lt
 rw [e] at hk
 exact hk _ _ _ H_2 g16 (o_11.ownS ω8 ω2)
theorem zm8:FnOk Tryz.prog 53 zna:=FnOk.bodyF mix_ok zsu Tryz.func53 rfl ω9 ω9 fun args H=>by
 unfold z15q
 split
 ·refine ⟨?_,?_,?_,?_,fun K hk=>zvf _ _ _ H K hk⟩
  ·intro K K' h hk;obtain ⟨qb,i_list,bd_21,k⟩:=hk;exact ⟨qb,i_list,bd_21,(fun td yd xd H' gg ow0=>h _ _ (k td yd xd H' gg ow0))⟩
  ·nofun
  ·intro K hk;obtain ⟨qb,i_list,bd_21,k⟩:=hk;exact z4m fun a n e H1 g o=>⟨_,_,k a n e H1 g o⟩
  ·intro _ K hk;obtain ⟨qb,i_list,bd_21,k⟩:=hk;exact ⟨qb,i_list,bd_21,(fun td yd xd H' gg ow0=>⟨gg,k td yd xd H' gg ow0⟩)⟩
 ·exact Nice.no

def z8u (n times:Int):Nat→Int→Int→Int
 | 0,_,_=>0
 | μ+1,n_0,t6=>(bif decide ((t6:Int)<times) then (z8u n times μ ((Int.tdiv (n_0+1) 2)) (t6+1)) else n_0)
def zae:=fun n times μ n_0 t6=>@z8u.eq_2 n times n_0 t6 μ
def z7h (n times:Int):Int:=(z8u n times (Int.toNat (times-(0:Int))+1) n (0:Int))
def zks:=@z7h.eq_1
def znt (n times:Int) (H:zq) (K:Int→zq→Prop):Prop:=1≤n∧n≤16∧times≤1000∧K (z7h n times) H
theorem z1bq (n times:Int):∀(μ:Nat) (a k:Int),1≤a→a≤16→times-k≤μ→z8u n times (μ+1) a k=z6a (times-k).toNat a:=by
 intro μ
 induction μ with
 | zero=>
  intro a k h1 h2 hm
  rw [zae,decide_eq_false ω2,cond_false,show (times-k).toNat=0 by omega];rfl
 | succ μ ih=>
  intro a k h1 h2 hm
  rw [zae]
  by_cases h:k<times
  ·rw [decide_eq_true h,cond_true,zdp h1]
   have ra:=zb0 h1 h2
   obtain ⟨j,hj⟩:∃j,(times-k).toNat=j+1:=⟨(times-k).toNat-1,by omega⟩
   rw [ih (zhh a) (k+1) ω2 ω2 ω2,hj,show (times-(k+1)).toNat=j by omega];rfl
  ·rw [decide_eq_false h,cond_false,show (times-k).toNat=0 by omega];rfl
theorem zvg (n times:Int) (h1:1≤n) (h2:n≤16):z7h n times=z6a times.toNat n:=by
 rw [zks,z1bq n times _ n 0 h1 h2 ω2,show times-0=times by omega]
/-! f1rz: function 55 -/
def zar:Env:=envOf []
def z15r (args:List Value) (H:zq):(Value→zq→Prop)→Prop:=match args with
 | [.int .i64 n,.int .i64 times]=>fun K=>znt n times H fun (r1:Int) (H':zq)=>K (.int .i64 r1) H'
 | _=>fun _=>False
def z16u:FSpec:={F:=z15r,quiet:=true,tame:=false}
theorem z1bu (n times:Int) (H:zq) (K:KT):z1a Tryz.prog zar Tryz.f55 [.int .i64 n,.int .i64 times] H K=
 (z1j (exL Tryz.prog zar (cl (cl (cr (cl (cr (zr Tryz.f55)))))) 97 16 [(0,1)]) (.int .i64 n::ud4 (.int .i64 times::.int .i64 0::ud6 [])) H (zx 0 (seqQ (exL Tryz.prog zar (cr (cr (zr Tryz.f55))) 16 16 []) (retK Tryz.prog Tryz.f55 K)))):=by kernel_rfl
abbrev zdh (times n_0 t6:Int)  :List Value:=(.int .i64 n_0::ud4 (.int .i64 times::.int .i64 t6::ud6 []))
theorem z1bt (times n_0 t6:Int)  (H:zq) (R:Post):exL Tryz.prog zar (cl (cl (cr (cl (cr (zr Tryz.f55)))))) 97 16 [(0,1)] (zdh times n_0 t6) H R=
 (Br (decide ((t6:Int)<times)) (2≠(0:Int)∧R .normal (.int .i64 (IntKind.wrap .i64 (Int.tdiv (IntKind.wrap .i64 (n_0+1)) 2))::ud4 (.int .i64 times::.int .i64 (IntKind.wrap .i64 (t6+1))::ud6 [])) H) (R (.exit 0) (.int .i64 n_0::ud12 []) H)):=by kernel_rfl
def zm9 (times:Int) (Inv:Nat→Int→Int→zq→Prop):Nat→List Value→zq→Prop:=fun μ tm H=>∃(n_0 t6:Int),tm=(zdh times n_0 t6)∧Inv μ n_0 t6 H
theorem z1bp (times:Int) {Q:Post} (Inv:Nat→Int→Int→zq→Prop) (ν:Nat) (n_0 t6:Int)  (H:zq) (h0:Inv ν n_0 t6 H)
  (hs:∀(μ:Nat) (n_0:Int) (t6:Int)  (H:zq),Inv μ n_0 t6 H→exL Tryz.prog zar (cl (cl (cr (cl (cr (zr Tryz.f55)))))) 97 16 [(0,1)] (zdh times n_0 t6) H (z1b (zm9 times Inv) μ Q)):z1j (exL Tryz.prog zar (cl (cl (cr (cl (cr (zr Tryz.f55)))))) 97 16 [(0,1)]) (zdh times n_0 t6) H Q:=
 ⟨zm9 times Inv,ν,⟨n_0,t6,rfl,h0⟩,fun μ tm H h=>by obtain ⟨n_0,t6,rfl,hI⟩:=h;exact hs μ n_0 t6  H hI⟩
theorem z1br {times:Int} {Q:Post} {Inv:Nat→Int→Int→zq→Prop} {μ:Nat} (μ':Nat) {n_0 t6:Int}  {H:zq} (hm:μ'<μ) (hI:Inv μ' n_0 t6 H):z1b (zm9 times Inv) μ Q .normal (zdh times n_0 t6) H:=⟨μ',hm,n_0,t6,rfl,hI⟩
theorem zvi (n_0:Int) (H:zq) (K:KT)  {I:Nat→List Value→zq→Prop} {μ:Nat}:z1b I μ (zx 0 (seqQ (exL Tryz.prog zar (cr (cr (zr Tryz.f55))) 16 16 []) (retK Tryz.prog Tryz.f55 K))) (.exit 0) (.int .i64 n_0::ud12 []) H=
 (K (.int .i64 n_0) H):=by kernel_rfl
theorem zsv:∀g,FnOk Tryz.prog g (zar g):=FnOk.envOf (by
 intro x hx;cases hx)
theorem zvh (n times:Int) (H:zq) (K:KT) (h:znt n times H fun (r1:Int) (H':zq)=>K (.int .i64 r1) H'):z1a Tryz.prog zar Tryz.f55 [.int .i64 n,.int .i64 times] H K:=by
 rw [z1bu]
 obtain ⟨pr0,pr1,pr2,hk⟩:=h
 have e:(z7h n times)=_:=rfl
 have e:=e.trans (zks n times)
 have g0:=Grow.refl H
 refine z1bp _ (fun (μ:Nat) (n_0:Int) (t6:Int) (H_1:zq)=>H=H_1∧(0:Int)≤t6∧((t6≤times∨t6≤(0:Int)))∧1≤n_0∧n_0≤16∧times-t6≤(μ:Int)∧z7h n times=z8u n times (μ+1) n_0 t6) (Int.toNat (times-(0:Int))) _ _ H ?_ ?_
 ·exact ⟨rfl,ω7,ω7,ω7,ω7,ω2,e⟩
 ·intro μ n_0 t6  H_1 hI
  obtain ⟨rfl,v_1,v_2,v_3,v_4,hμ,e⟩:=hI
  rw [z1bt]
  have e:=e.trans (zae n times μ n_0 t6)
  have l_5:=g0.1
  refine Br.intro (fun c_6=>?_) (fun c_6=>?_)
  ·have e:=e.trans (zw c_6)
   have c_6':=of_decide_eq_true c_6
   rw [show IntKind.wrap .i64 (n_0+1)=(n_0+1) from zu ω2 ω2]
   have z7:=zc0 (n_0+1) 2
   refine ⟨ω24,?_⟩
   rw [show IntKind.wrap .i64 (Int.tdiv (n_0+1) 2)=(Int.tdiv (n_0+1) 2) from zu ω2 ω2]
   rw [show IntKind.wrap .i64 (t6+1)=(t6+1) from zu ω2 ω2]
   refine z1br (μ-1) ω17 ⟨rfl,ω1,ω1,ω1,ω1,ω17,ω13⟩
  ·have e:=e.trans (zv c_6)
   have c_6':=of_decide_eq_false c_6
   rw [zvi]
   rw [e] at hk
   exact hk
theorem z1bs:FnOk Tryz.prog 55 z16u:=FnOk.bodyF mix_ok zsv Tryz.func55 rfl ω9 ω9 fun args H=>by
 unfold z15r
 split
 ·refine ⟨?_,?_,?_,?_,fun K hk=>zvh _ _ H K hk⟩
  ·intro K K' h hk;obtain ⟨pr0,pr1,pr2,k⟩:=hk;exact ⟨pr0,pr1,pr2,h _ _ k⟩
  ·intro _ K hk;obtain ⟨pr0,pr1,pr2,k⟩:=hk;exact ⟨_,k,fun K' k'=>⟨pr0,pr1,pr2,k'⟩⟩
  ·intro K hk;obtain ⟨pr0,pr1,pr2,k⟩:=hk;exact ⟨_,_,k⟩
  ·nofun
 ·exact Nice.no

def z8d (ua va:Int) (ga:LN) (x y wide high:Int):Bool:=(bif (z1p ua va ga) then (bif (z3f x (0:Int) (ua-1)) then (bif (z3f y (0:Int) (va-1)) then (bif (z3f wide (1:Int) (IntKind.wrap .i64 (ua-x))) then (z3f high (1:Int) (IntKind.wrap .i64 (va-y))) else false) else false) else false) else false)
def ze2:=@z8d.eq_1
def zim (ua va:Int) (ta:OA) (xa ya:Nat) (x y wide high:Int) (H:zq) (K:Bool→zq→Prop):Prop:=∃(ga:LN),IsL fF H ta xa ga∧ga.length<1073741824∧((∀H':zq,Grow H H'→K (z8d ua va ga x y wide high) H'))
theorem zng {ua va:Int} {ta:OA} {xa ya:Nat} {x y wide high:Int} {H:zq} {K:Bool→zq→Prop} (h:∃(ga:LN),IsL fF H ta xa ga∧ga.length<1073741824∧((∀H':zq,Grow H H'→K (z8d ua va ga x y wide high) H'))):zim ua va ta xa ya x y wide high H K:=h
theorem f19z_t {W H:Int} {l:LN} {x y w h:Int} (hh:z8d W H l x y w h=true):
  1≤W∧W≤16∧1≤H∧H≤16∧(l.length:Int)=W*H∧(l.length:Int)≤256∧0≤x∧0≤y∧1≤w∧1≤h∧x+w≤W∧y+h≤H:=by
 rw [ze2] at hh
 simp only [Bool.cond_false_right,Bool.and_eq_true] at hh
 obtain ⟨a,b,c,d,e⟩:=hh
 have a:=f6z_t a
 have b:=z4v b
 have c:=z4v c
 have d:=z4v d
 have e:=z4v e
 rw [zu ω2 ω2] at d e
 omega
/-! f19z: function 81 -/
def zs6:Env:=envOf [(50,zll),(68,zfi)]
def z15b (args:List Value) (H:zq):(Value→zq→Prop)→Prop:=match args with
 | [.agg ⟨[.int .i64 ua,.int .i64 va,.slice ta xa ya]⟩,.int .i64 x,.int .i64 y,.int .i64 wide,.int .i64 high]=>fun K=>zim ua va ta xa ya x y wide high H fun (r1:Bool) (H':zq)=>K (.bool r1) H'
 | _=>fun _=>False
def ztd:FSpec:={F:=z15b,quiet:=false,tame:=true}
theorem f19z_vc (ua va:Int) (ta:OA) (xa ya:Nat) (x y wide high:Int) (H:zq) (K:KT):z1a Tryz.prog zs6 Tryz.f81 [.agg #[.int .i64 ua,.int .i64 va,.slice ta xa ya],.int .i64 x,.int .i64 y,.int .i64 wide,.int .i64 high] H K=
 (Al [.int .i64 ua,.int .i64 va,.slice ta xa ya] H fun b1 H1=>∃c1:Int,∃c2:Int,∃kh:OA,∃mh:Nat,∃lh:Nat,  rdN H1 b1 0 3=some [.int .i64 c1,.int .i64 c2,.slice kh mh lh]∧zh7 c1 c2 kh mh lh H1 fun (r1:Bool) (H2:zq)=>Br r1 (∃x1:Int,  rdC H2 b1 0=some (.int .i64 x1)∧z5e x 0 (IntKind.wrap .i64 (x1-1)) H2 fun (r2:Bool) (H3:zq)=>Br r2 (∃x2:Int,  rdC H3 b1 1=some (.int .i64 x2)∧z5e y 0 (IntKind.wrap .i64 (x2-1)) H3 fun (r3:Bool) (H4:zq)=>Br r3 (∃x3:Int,  rdC H4 b1 0=some (.int .i64 x3)∧z5e wide 1 (IntKind.wrap .i64 (x3-x)) H4 fun (r4:Bool) (H5:zq)=>Br r4 (∃x4:Int,  rdC H5 b1 1=some (.int .i64 x4)∧z5e high 1 (IntKind.wrap .i64 (x4-y)) H5 fun (r5:Bool) (H6:zq)=>K (.bool r5) H6) (K (.bool false) H5)) (K (.bool false) H4)) (K (.bool false) H3)) (K (.bool false) H2)):=by kernel_rfl
theorem zs7:∀g,FnOk Tryz.prog g (zs6 g):=FnOk.envOf (by
 intro x hx
 simp only [List.mem_cons,List.not_mem_nil,or_false] at hx
 rcases hx with rfl | rfl
 ·exact f6z_ok
 ·exact zdj)
theorem f19z_main (ua va:Int) (ta:OA) (xa ya:Nat) (x y wide high:Int) (H:zq) (K:KT) (h:zim ua va ta xa ya x y wide high H fun (r1:Bool) (H':zq)=>K (.bool r1) H'):z1a Tryz.prog zs6 Tryz.f81 [.agg #[.int .i64 ua,.int .i64 va,.slice ta xa ya],.int .i64 x,.int .i64 y,.int .i64 wide,.int .i64 high] H K:=by
 rw [f19z_vc]
 obtain ⟨ga,tf,bd_21,hk⟩:=h
 obtain rfl:=tf.eqn
 have e:(z8d ua va ga x y wide high)=_:=rfl
 have e:=e.trans (ze2 ua va ga x y wide high)
 have g0:=Grow.refl H
 refine Al.intro (fun b_1 H_1 hb_2 hl_3 g_4 o_5=>?_)
 have l_7:=g_4.1
 have g_8:=g0.trans g_4
 have l_9:=g_8.1
 have w20:=o_5.lt
 refine ⟨ua,va,ta,ga.length,ya,(o_5.rdN (Nat.le_of_ble_eq_true rfl)).trans rfl,?_⟩
 refine zbo ⟨_,(tf.grow g_8),ω0,fun  H_2 g_10  =>?_⟩
 have l_11:=g_10.1
 have g_12:=g_8.trans g_10
 have l_13:=g_12.1
 have o_14:=o_5.grow g_10
 have w15:=o_14.lt
 refine Br.intro (fun c_16=>?_) (fun c_16=>?_)
 ·have e:=e.trans (zw c_16)
  have c_16':=f6z_t c_16
  refine ⟨ua,(o_14.rdC _).trans rfl,?_⟩
  rw [show IntKind.wrap .i64 (ua-1)=(ua-1) from zu ω2 ω2]
  refine z7o ?_
  refine Br.intro (fun c_17=>?_) (fun c_17=>?_)
  ·have e:=e.trans (zw c_17)
   have c_17':=z4v c_17
   refine ⟨va,(o_14.rdC _).trans rfl,?_⟩
   rw [show IntKind.wrap .i64 (va-1)=(va-1) from zu ω2 ω2]
   refine z7o ?_
   refine Br.intro (fun c_18=>?_) (fun c_18=>?_)
   ·have e:=e.trans (zw c_18)
    have c_18':=z4v c_18
    refine ⟨ua,(o_14.rdC _).trans rfl,?_⟩
    refine z7o ?_
    refine Br.intro (fun c_19=>?_) (fun c_19=>?_)
    ·have e:=e.trans (zw c_19)
     have c_19':=z4v c_19
     refine ⟨va,(o_14.rdC _).trans rfl,?_⟩
     refine z7o ?_
     rw [e] at hk
     exact hk  H_2 g_12 
    ·have e:=e.trans (zv c_19)
     rw [e] at hk
     exact hk  H_2 g_12 
   ·have e:=e.trans (zv c_18)
    rw [e] at hk
    exact hk  H_2 g_12 
  ·have e:=e.trans (zv c_17)
   rw [e] at hk
   exact hk  H_2 g_12 
 ·have e:=e.trans (zv c_16)
  rw [e] at hk
  exact hk  H_2 g_12 
theorem f19z_ok:FnOk Tryz.prog 81 ztd:=FnOk.bodyF mix_ok zs7 Tryz.func81 rfl ω9 ω9 fun args H=>by
 unfold z15b
 split
 ·refine ⟨?_,?_,?_,?_,fun K hk=>f19z_main _ _ _ _ _ _ _ _ _ H K hk⟩
  ·intro K K' h hk;obtain ⟨ga,tf,bd_21,k⟩:=hk;exact ⟨ga,tf,bd_21,(fun  H' gg  =>h _ _ (k  H' gg))⟩
  ·nofun
  ·intro K hk;obtain ⟨ga,tf,bd_21,k⟩:=hk;exact ⟨_,_,k H (Grow.refl H)⟩
  ·intro _ K hk;obtain ⟨ga,tf,bd_21,k⟩:=hk;exact ⟨ga,tf,bd_21,(fun  H' gg  =>⟨gg,k  H' gg⟩)⟩
 ·exact Nice.no

def p_f2z (u v oe sf:Int) (ae:LN) (cap1p cap2p:Int):Nat:=((ae).getD (((((((cap1p+v)*oe))+cap2p))+u):Int).toNat 0)
def z13i:=@p_f2z.eq_1
def T_f2z (u v:Int) (cap0 cap1 cap2:Nat) (H:zq) (K:Nat→zq→Prop):Prop:=∃(oe sf:Int),∃(ag:OA),∃(og ng:Nat),∃(cap1p cap2p:Int),∃(ae:LN),rdN H cap0 0 3=some [.int .i64 oe,.int .i64 sf,.slice ag og ng]∧rdN H cap1 0 1=some [.int .i64 cap1p]∧rdN H cap2 0 1=some [.int .i64 cap2p]∧IsL fF H ag og ae∧ae.length<1073741824∧0≤u∧0≤v∧0≤cap1p∧0≤cap2p∧cap2p+u<oe∧cap1p+v<sf∧oe≤16∧sf≤16∧(ae.length:Int)=oe*sf∧K (p_f2z u v oe sf ae cap1p cap2p) H
/-! f2z: function 83 -/
def E_f2z:Env:=envOf []
def F_f2z (args:List Value) (H:zq):(Value→zq→Prop)→Prop:=match args with
 | [.int .i64 u,.int .i64 v,.pointer (some ⟨cap0,0,none⟩),.pointer (some ⟨cap1,0,none⟩),.pointer (some ⟨cap2,0,none⟩)]=>fun K=>T_f2z u v cap0 cap1 cap2 H fun (r1:Nat) (H':zq)=>K (.float .f32 r1) H'
 | _=>fun _=>False
def S_f2z:FSpec:={F:=F_f2z,quiet:=true,tame:=false}
theorem f2z_vc (u v:Int) (cap0 cap1 cap2:Nat) (H:zq) (K:KT):z1a Tryz.prog E_f2z Tryz.f83 [.int .i64 u,.int .i64 v,.pointer (some ⟨cap0,0,none⟩),.pointer (some ⟨cap1,0,none⟩),.pointer (some ⟨cap2,0,none⟩)] H K=
 (∃fh:OA,∃bh:Nat,∃qh:Nat,  rdC H cap0 2=some (.slice fh bh qh)∧∃x2:Int,  rdC H cap1 0=some (.int .i64 x2)∧∃x3:Int,  rdC H cap0 0=some (.int .i64 x3)∧∃x4:Int,  rdC H cap2 0=some (.int .i64 x4)∧(0:Int)≤IntKind.wrap .i64 ((IntKind.wrap .i64 ((IntKind.wrap .i64 ((IntKind.wrap .i64 (x2+v))*x3))+x4))+u)∧IntKind.wrap .i64 ((IntKind.wrap .i64 ((IntKind.wrap .i64 ((IntKind.wrap .i64 (x2+v))*x3))+x4))+u)<(bh:Int)∧∃b1 f1,(fh:OA)=some ⟨b1,f1,none⟩∧∃x5:Nat,  rdC H b1 (f1+(IntKind.wrap .i64 ((IntKind.wrap .i64 ((IntKind.wrap .i64 ((IntKind.wrap .i64 (x2+v))*x3))+x4))+u):Int).toNat*1)=some (.float .f32 x5)∧K (.float .f32 x5) H):=by kernel_rfl
theorem zy7:∀g,FnOk Tryz.prog g (E_f2z g):=FnOk.envOf (by
 intro x hx;cases hx)
theorem f2z_main (u v:Int) (cap0 cap1 cap2:Nat) (H:zq) (K:KT) (h:T_f2z u v cap0 cap1 cap2 H fun (r1:Nat) (H':zq)=>K (.float .f32 r1) H'):z1a Tryz.prog E_f2z Tryz.f83 [.int .i64 u,.int .i64 v,.pointer (some ⟨cap0,0,none⟩),.pointer (some ⟨cap1,0,none⟩),.pointer (some ⟨cap2,0,none⟩)] H K:=by
 rw [f2z_vc]
 obtain ⟨oe,sf,ag,og,ng,cap1p,cap2p,ae,i_cap0,i_cap1,i_cap2,pg,bd_4,pr0,pr1,pr2,pr3,pr4,pr5,pr6,pr7,pr8,hk⟩:=h
 obtain rfl:=pg.eqn
 have zz:=zo5 (x:=cap2p) (y:=cap1p) (u:=u) (v:=v) (W:=oe) (H:=sf) ω2 ω2 ω2 ω2 ω2 ω2
 have e:(p_f2z u v oe sf ae cap1p cap2p)=_:=rfl
 have e:=e.trans (z13i u v oe sf ae cap1p cap2p)
 have g0:=Grow.refl H
 refine ⟨ag,ae.length,ng,(z1h (zt g0 i_cap0) 2 (Nat.le_of_ble_eq_true rfl)).trans rfl,?_⟩
 refine ⟨cap1p,(z1h (zt g0 i_cap1) 0 (Nat.le_of_ble_eq_true rfl)).trans rfl,?_⟩
 rw [show IntKind.wrap .i64 (cap1p+v)=(cap1p+v) from zu ω2 ω2]
 refine ⟨oe,(z1h (zt g0 i_cap0) 0 (Nat.le_of_ble_eq_true rfl)).trans rfl,?_⟩
 rw [show IntKind.wrap .i64 ((cap1p+v)*oe)=((cap1p+v)*oe) from zu ω2 ω2]
 refine ⟨cap2p,(z1h (zt g0 i_cap2) 0 (Nat.le_of_ble_eq_true rfl)).trans rfl,?_⟩
 rw [show IntKind.wrap .i64 ((((cap1p+v)*oe))+cap2p)=((((cap1p+v)*oe))+cap2p) from zu ω2 ω2]
 rw [show IntKind.wrap .i64 ((((((cap1p+v)*oe))+cap2p))+u)=((((((cap1p+v)*oe))+cap2p))+u) from zu ω2 ω2]
 obtain ⟨b_1,f_2,q_3⟩:=((pg.grow g0)).pos ω0
 refine ⟨by omega,by omega,b_1,f_2,q_3,?_⟩
 refine ⟨((ae).getD (((((((cap1p+v)*oe))+cap2p))+u):Int).toNat 0),(pg).rd g0 q_3 ω2 _,?_⟩
 rw [e] at hk
 exact hk
theorem f2z_ok:FnOk Tryz.prog 83 S_f2z:=FnOk.bodyF mix_ok zy7 Tryz.func83 rfl ω9 ω9 fun args H=>by
 unfold F_f2z
 split
 ·refine ⟨?_,?_,?_,?_,fun K hk=>f2z_main _ _ _ _ _ H K hk⟩
  ·intro K K' h hk;obtain ⟨oe,sf,ag,og,ng,cap1p,cap2p,ae,i_cap0,i_cap1,i_cap2,pg,bd_4,pr0,pr1,pr2,pr3,pr4,pr5,pr6,pr7,pr8,k⟩:=hk;exact ⟨oe,sf,ag,og,ng,cap1p,cap2p,ae,i_cap0,i_cap1,i_cap2,pg,bd_4,pr0,pr1,pr2,pr3,pr4,pr5,pr6,pr7,pr8,h _ _ k⟩
  ·intro _ K hk;obtain ⟨oe,sf,ag,og,ng,cap1p,cap2p,ae,i_cap0,i_cap1,i_cap2,pg,bd_4,pr0,pr1,pr2,pr3,pr4,pr5,pr6,pr7,pr8,k⟩:=hk;exact ⟨_,k,fun K' k'=>⟨oe,sf,ag,og,ng,cap1p,cap2p,ae,i_cap0,i_cap1,i_cap2,pg,bd_4,pr0,pr1,pr2,pr3,pr4,pr5,pr6,pr7,pr8,k'⟩⟩
  ·intro K hk;obtain ⟨oe,sf,ag,og,ng,cap1p,cap2p,ae,i_cap0,i_cap1,i_cap2,pg,bd_4,pr0,pr1,pr2,pr3,pr4,pr5,pr6,pr7,pr8,k⟩:=hk;exact ⟨_,_,k⟩
  ·nofun
 ·exact Nice.no
theorem z14l {x y W H:Int} (h1:0≤x) (h2:0≤y) (h3:x<H) (h4:y<W) (hW:W≤16) (hH:H≤16):0≤x*W∧x*W≤256∧x*W+y<W*H:=by
 have a:0≤x*W:=Int.mul_nonneg h1 ω2
 have b:(x+1)*W≤H*W:=Int.mul_le_mul_of_nonneg_right ω2 ω2
 have c:(x+1)*W=x*W+W:=by rw [Int.add_mul,Int.one_mul]
 have d:H*W≤16*16:=Int.mul_le_mul ω2 ω2 ω2 ω23
 have e:H*W=W*H:=Int.mul_comm _ _
 refine ⟨a,by omega,by omega⟩
def p_fcz (x y oe sf:Int) (ae:LN):Nat:=((ae).getD (((x*oe)+y):Int).toNat 0)
def z13k:=@p_fcz.eq_1
def T_fcz (x y:Int) (cap0:Nat) (H:zq) (K:Nat→zq→Prop):Prop:=∃(oe sf:Int),∃(ag:OA),∃(og ng:Nat),∃(ae:LN),rdN H cap0 0 3=some [.int .i64 oe,.int .i64 sf,.slice ag og ng]∧IsL fF H ag og ae∧ae.length<1073741824∧0≤x∧0≤y∧x<sf∧y<oe∧oe≤16∧sf≤16∧(ae.length:Int)=oe*sf∧K (p_fcz x y oe sf ae) H
/-! fcz: function 84 -/
def E_fcz:Env:=envOf []
def F_fcz (args:List Value) (H:zq):(Value→zq→Prop)→Prop:=match args with
 | [.int .i64 x,.int .i64 y,.pointer (some ⟨cap0,0,none⟩)]=>fun K=>T_fcz x y cap0 H fun (r1:Nat) (H':zq)=>K (.float .f32 r1) H'
 | _=>fun _=>False
def S_fcz:FSpec:={F:=F_fcz,quiet:=true,tame:=false}
theorem z1fk (x y:Int) (cap0:Nat) (H:zq) (K:KT):z1a Tryz.prog E_fcz Tryz.f84 [.int .i64 x,.int .i64 y,.pointer (some ⟨cap0,0,none⟩)] H K=
 (∃fh:OA,∃bh:Nat,∃qh:Nat,  rdC H cap0 2=some (.slice fh bh qh)∧∃x2:Int,  rdC H cap0 0=some (.int .i64 x2)∧(0:Int)≤IntKind.wrap .i64 ((IntKind.wrap .i64 (x*x2))+y)∧IntKind.wrap .i64 ((IntKind.wrap .i64 (x*x2))+y)<(bh:Int)∧∃b1 f1,(fh:OA)=some ⟨b1,f1,none⟩∧∃x3:Nat,  rdC H b1 (f1+(IntKind.wrap .i64 ((IntKind.wrap .i64 (x*x2))+y):Int).toNat*1)=some (.float .f32 x3)∧K (.float .f32 x3) H):=by kernel_rfl
theorem zyh:∀g,FnOk Tryz.prog g (E_fcz g):=FnOk.envOf (by
 intro x hx;cases hx)
theorem z10y (x y:Int) (cap0:Nat) (H:zq) (K:KT) (h:T_fcz x y cap0 H fun (r1:Nat) (H':zq)=>K (.float .f32 r1) H'):z1a Tryz.prog E_fcz Tryz.f84 [.int .i64 x,.int .i64 y,.pointer (some ⟨cap0,0,none⟩)] H K:=by
 rw [z1fk]
 obtain ⟨oe,sf,ag,og,ng,ae,i_cap0,pg,bd_4,pr0,pr1,pr2,pr3,pr4,pr5,pr6,hk⟩:=h
 obtain rfl:=pg.eqn
 have zz:=z14l (x:=x) (y:=y) (W:=oe) (H:=sf) ω2 ω2 ω2 ω2 ω2 ω2
 have e:(p_fcz x y oe sf ae)=_:=rfl
 have e:=e.trans (z13k x y oe sf ae)
 have g0:=Grow.refl H
 refine ⟨ag,ae.length,ng,(z1h (zt g0 i_cap0) 2 (Nat.le_of_ble_eq_true rfl)).trans rfl,?_⟩
 refine ⟨oe,(z1h (zt g0 i_cap0) 0 (Nat.le_of_ble_eq_true rfl)).trans rfl,?_⟩
 rw [show IntKind.wrap .i64 (x*oe)=(x*oe) from zu ω2 ω2]
 rw [show IntKind.wrap .i64 ((x*oe)+y)=((x*oe)+y) from zu ω2 ω2]
 obtain ⟨b_1,f_2,q_3⟩:=((pg.grow g0)).pos ω0
 refine ⟨by omega,by omega,b_1,f_2,q_3,?_⟩
 refine ⟨((ae).getD (((x*oe)+y):Int).toNat 0),(pg).rd g0 q_3 ω2 _,?_⟩
 rw [e] at hk
 exact hk
theorem z1fj:FnOk Tryz.prog 84 S_fcz:=FnOk.bodyF mix_ok zyh Tryz.func84 rfl ω9 ω9 fun args H=>by
 unfold F_fcz
 split
 ·refine ⟨?_,?_,?_,?_,fun K hk=>z10y _ _ _ H K hk⟩
  ·intro K K' h hk;obtain ⟨oe,sf,ag,og,ng,ae,i_cap0,pg,bd_4,pr0,pr1,pr2,pr3,pr4,pr5,pr6,k⟩:=hk;exact ⟨oe,sf,ag,og,ng,ae,i_cap0,pg,bd_4,pr0,pr1,pr2,pr3,pr4,pr5,pr6,h _ _ k⟩
  ·intro _ K hk;obtain ⟨oe,sf,ag,og,ng,ae,i_cap0,pg,bd_4,pr0,pr1,pr2,pr3,pr4,pr5,pr6,k⟩:=hk;exact ⟨_,k,fun K' k'=>⟨oe,sf,ag,og,ng,ae,i_cap0,pg,bd_4,pr0,pr1,pr2,pr3,pr4,pr5,pr6,k'⟩⟩
  ·intro K hk;obtain ⟨oe,sf,ag,og,ng,ae,i_cap0,pg,bd_4,pr0,pr1,pr2,pr3,pr4,pr5,pr6,k⟩:=hk;exact ⟨_,_,k⟩
  ·nofun
 ·exact Nice.no

def z9s (ua va:Int) (ga:LN):Int×Int×LN×Bool:=(bif !(z1p ua va ga) then ((0:Int),(0:Int),[],false) else (ua,va,ga,true))
def z4g:=@z9s.eq_1
def ztl (ua va:Int) (ta:OA) (xa ya:Nat) (H:zq) (K:Int→Int→OA→Nat→Nat→Bool→zq→Prop):Prop:=∃(ga:LN),IsL fF H ta xa ga∧ga.length<1073741824∧((∀H':zq,Grow H H'→Br ((z9s ua va ga).2.2.2) (K ua va ta xa ya true H') (K 0 0 none 0 0 false H')))
theorem ztm {ua va:Int} {ta:OA} {xa ya:Nat} {H:zq} {K:Int→Int→OA→Nat→Nat→Bool→zq→Prop} (h:∃(ga:LN),IsL fF H ta xa ga∧ga.length<1073741824∧((∀H':zq,Grow H H'→Br ((z9s ua va ga).2.2.2) (K ua va ta xa ya true H') (K 0 0 none 0 0 false H')))):ztl ua va ta xa ya H K:=h

/-! f7z: function 113 -/
def E_f7z:Env:=envOf [(50,zll)]
def F_f7z (args:List Value) (H:zq):(Value→zq→Prop)→Prop:=match args with
 | [.agg ⟨[.int .i64 ua,.int .i64 va,.slice ta xa ya]⟩]=>fun K=>ztl ua va ta xa ya H fun (sd:Int) (pd:Int) (ja:OA) (oa:Nat) (ma:Nat) (r2:Bool) (H':zq)=>K (.tuple #[.agg #[.int .i64 sd,.int .i64 pd,.slice ja oa ma],.bool r2]) H'
 | _=>fun _=>False
def S_f7z:FSpec:={F:=F_f7z,quiet:=false,tame:=true}
theorem f7z_vc (ua va:Int) (ta:OA) (xa ya:Nat) (H:zq) (K:KT):z1a Tryz.prog E_f7z Tryz.f113 [.agg #[.int .i64 ua,.int .i64 va,.slice ta xa ya]] H K=
 (Al [.int .i64 ua,.int .i64 va,.slice ta xa ya] H fun b1 H1=>Al [.int .i64 0,.int .i64 0,.slice none 0 0] H1 fun b2 H2=>∃c1:Int,∃c2:Int,∃kh:OA,∃mh:Nat,∃lh:Nat,  rdN H2 b1 0 3=some [.int .i64 c1,.int .i64 c2,.slice kh mh lh]∧zh7 c1 c2 kh mh lh H2 fun (r1:Bool) (H3:zq)=>Br (!r1) (isOwn H3 b2∧(∃l,rdN H3 b2 0 3=some l)∧Lt (setN H3 b2 0 [.int .i64 0,.int .i64 0,.slice none 0 0]) fun H4=>∃c4:Int,∃c5:Int,∃th:OA,∃vh:Nat,∃uh:Nat,  rdN H4 b2 0 3=some [.int .i64 c4,.int .i64 c5,.slice th vh uh]∧K (.tuple #[.agg #[.int .i64 c4,.int .i64 c5,.slice th vh uh],.bool false]) H4) (∃c7:Int,∃c8:Int,∃fi:OA,∃ii:Nat,∃gi:Nat,  rdN H3 b1 0 3=some [.int .i64 c7,.int .i64 c8,.slice fi ii gi]∧isOwn H3 b2∧(∃l,rdN H3 b2 0 3=some l)∧Lt (setN H3 b2 0 [.int .i64 c7,.int .i64 c8,.slice fi ii gi]) fun H5=>∃c10:Int,∃c11:Int,∃ti:OA,∃vi:Nat,∃ui:Nat,  rdN H5 b2 0 3=some [.int .i64 c10,.int .i64 c11,.slice ti vi ui]∧K (.tuple #[.agg #[.int .i64 c10,.int .i64 c11,.slice ti vi ui],.bool true]) H5)):=by kernel_rfl
theorem zyc:∀g,FnOk Tryz.prog g (E_f7z g):=FnOk.envOf (by
 intro x hx
 simp only [List.mem_cons,List.not_mem_nil,or_false] at hx
 subst hx;exact f6z_ok)
theorem f7z_main (ua va:Int) (ta:OA) (xa ya:Nat) (H:zq) (K:KT) (h:ztl ua va ta xa ya H fun (sd:Int) (pd:Int) (ja:OA) (oa:Nat) (ma:Nat) (r2:Bool) (H':zq)=>K (.tuple #[.agg #[.int .i64 sd,.int .i64 pd,.slice ja oa ma],.bool r2]) H'):z1a Tryz.prog E_f7z Tryz.f113 [.agg #[.int .i64 ua,.int .i64 va,.slice ta xa ya]] H K:=by
 rw [f7z_vc]
 obtain ⟨ga,tf,bd_50,hk⟩:=h
 obtain rfl:=tf.eqn
 have e:(z9s ua va ga)=_:=rfl
 have e:=e.trans (z4g ua va ga)
 have g0:=Grow.refl H
 refine Al.intro (fun b_1 H_1 hb_2 hl_3 g_4 o_5=>?_)
 have l_7:=g_4.1
 have g_8:=g0.trans g_4
 have l_9:=g_8.1
 have w49:=o_5.lt
 refine Al.intro (fun b_10 H_2 hb_11 hl_12 g_13 o_14=>?_)
 have l_16:=g_13.1
 have g_17:=g_8.trans g_13
 have l_18:=g_17.1
 have o_19:=o_5.grow g_13
 have w20:=o_19.lt
 have w48:=o_14.lt
 refine ⟨ua,va,ta,ga.length,ya,(o_19.rdN (Nat.le_of_ble_eq_true rfl)).trans rfl,?_⟩
 refine zbo ⟨_,(tf.grow g_17),ω0,fun  H_3 g21  =>?_⟩
 have l_22:=g21.1
 have g23:=g_17.trans g21
 have l24:=g23.1
 have o25:=o_19.grow g21
 have w26:=o25.lt
 have o27:=o_14.grow g21
 have w28:=o27.lt
 refine Br.intro (fun c29=>?_) (fun c29=>?_)
 ·have e:=e.trans (zw c29)
  have c_29n:=z1f c29
  refine Lt.setN (n:=3) o27 (Nat.le_of_ble_eq_true rfl) rfl (fun H_4 hl_30 o32 k31=>?_)
  have o32:Own H_4 b_10 [.int .i64 0,.int .i64 0,.slice none 0 0]:=o32
  have l33:=k31.1
  have g34:=g23.keep (b:=b_10) ω2 k31
  have l35:=g34.1
  have o36:=o25.keep ω2 k31
  have w37:=o36.lt
  have w38:=o32.lt
  refine ⟨0,0,none,0,0,(o32.rdN (Nat.le_of_ble_eq_true rfl)).trans rfl,?_⟩
  have q:=hk H_4 g34
  rw [e] at q
  exact q
 ·have e:=e.trans (zv c29)
  have c_29n:=z1e c29
  have c_29n':=f6z_t c_29n
  refine ⟨ua,va,ta,ga.length,ya,(o25.rdN (Nat.le_of_ble_eq_true rfl)).trans rfl,?_⟩
  refine Lt.setN (n:=3) o27 (Nat.le_of_ble_eq_true rfl) rfl (fun H_5 hl_39 o41 k40=>?_)
  have o41:Own H_5 b_10 [.int .i64 ua,.int .i64 va,.slice ta ga.length ya]:=o41
  have l42:=k40.1
  have g43:=g23.keep (b:=b_10) ω2 k40
  have l44:=g43.1
  have o45:=o25.keep ω2 k40
  have w46:=o45.lt
  have w47:=o41.lt
  refine ⟨ua,va,ta,ga.length,ya,(o41.rdN (Nat.le_of_ble_eq_true rfl)).trans rfl,?_⟩
  have q:=hk H_5 g43
  rw [e] at q
  exact q
theorem f7z_ok:FnOk Tryz.prog 113 S_f7z:=FnOk.bodyF mix_ok zyc Tryz.func113 rfl ω9 ω9 fun args H=>by
 unfold F_f7z
 split
 ·refine ⟨?_,?_,?_,?_,fun K hk=>f7z_main _ _ _ _ _ H K hk⟩
  ·intro K K' h hk;obtain ⟨ga,tf,bd_50,k⟩:=hk;exact ⟨ga,tf,bd_50,(fun H' gg=>zbn (h _ _) (h _ _) (k H' gg))⟩
  ·nofun
  ·intro K hk;obtain ⟨ga,tf,bd_50,k⟩:=hk;exact zlj (k H (Grow.refl H))
  ·intro _ K hk;obtain ⟨ga,tf,bd_50,k⟩:=hk;exact ⟨ga,tf,bd_50,(fun H' gg=>zbn (fun q=>⟨gg,q⟩) (fun q=>⟨gg,q⟩) (k H' gg))⟩
 ·exact Nice.no
end Go.Proofs.YthheoefadijhdaaGreat.Ai
