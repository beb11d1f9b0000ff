/- What functions of the program come to on the abstract machine, and that they do so; printed by a program of mine around proofs of mine. -/
import Derived.Test.YthheoefadijhdaaGreatFFnExactThumbOf0
set_option linter.unusedVariables false
set_option linter.unusedSimpArgs false
set_option linter.defProp false
set_option maxRecDepth 100000
set_option maxHeartbeats 1000000
namespace Go.Proofs.YthheoefadijhdaaGreat.Ai
open Go
attribute [local irreducible] z6i zw
theorem z19z {W H y:Int} (L:LN) (h0:0≤y) (h2:1≤W) (h3:W≤16) (h4:H≤16):(y<H→0≤y*W∧y*W≤(y+1)*W∧(y+1)*W=y*W+W∧(y+1)*W≤W*H∧W*H≤256)∧(List.take ((y+1)*W-y*W).toNat (List.drop (y*W).toNat L)).length≤((y+1)*W-y*W).toNat:=by
 refine ⟨fun h1=>?_,List.length_take_le _ _⟩
 have a:0≤y*W:=Int.mul_nonneg h0 ω2
 have b:(y+1)*W=y*W+W:=by rw [Int.add_mul,Int.one_mul]
 have c:(y+1)*W≤H*W:=Int.mul_le_mul_of_nonneg_right ω2 ω2
 have d:W*H≤16*16:=Int.mul_le_mul ω2 ω2 ω2 ω22
 have e:H*W=W*H:=Int.mul_comm _ _
 refine ⟨a,by omega,b,by omega,by omega⟩
def z4p (aa:LN) (xa:Nat) (ia ua:Int) (da:LN):Nat→Bool→Int→Int→Int→Int→Int→LN→Int×Int×LN×Bool
 | 0,_,_,_,_,_,_,_=>(0,0,[],false)
 | μ+1,t5,y,q1_1,q1_2,q1_4,q1_5,q1_6=>(bif decide ((y:Int)<ua) then (bif !((z8e aa xa (((((((da).drop ((y*ia):Int).toNat).take ((((y+1)*ia):Int)-(y*ia)).toNat)).drop (0:Int).toNat).take (((Int.tdiv (ia+1) 2):Int)-0).toNat)) (((((((da).drop ((y*ia):Int).toNat).take ((((y+1)*ia):Int)-(y*ia)).toNat)).drop ((Int.tdiv (ia+1) 2):Int).toNat).take (((((((y+1)*ia):Int)-(y*ia)).toNat:Int):Int)-(Int.tdiv (ia+1) 2)).toNat))).2) then ((0:Int),(0:Int),[],false) else (z4p aa xa ia ua da μ t5 (y+1) q1_1 q1_2 q1_4 q1_5 ((q1_6++(z8e aa xa (((((((da).drop ((y*ia):Int).toNat).take ((((y+1)*ia):Int)-(y*ia)).toNat)).drop (0:Int).toNat).take (((Int.tdiv (ia+1) 2):Int)-0).toNat)) (((((((da).drop ((y*ia):Int).toNat).take ((((y+1)*ia):Int)-(y*ia)).toNat)).drop ((Int.tdiv (ia+1) 2):Int).toNat).take (((((((y+1)*ia):Int)-(y*ia)).toNat:Int):Int)-(Int.tdiv (ia+1) 2)).toNat))).1)))) else (q1_4,q1_5,q1_6,true))
def zeb:=fun aa xa ia ua da μ t5 y q1_1 q1_2 q1_4 q1_5 q1_6=>@z4p.eq_2 aa xa ia ua da t5 y q1_1 q1_2 q1_4 q1_5 q1_6 μ
def z3d (aa:LN) (xa:Nat) (ia ua:Int) (da:LN):Int×Int×LN×Bool:=(z4p aa xa ia ua da (Int.toNat (ua-(0:Int))+1) false (0:Int) 0 0 ia ua ([]:LN))
def zky:=@z3d.eq_1
def znv (s p:Nat) (H:zp) (K:Int→Int→OA→Nat→Nat→Bool→zp→Prop):Prop:=∃jb:OA,∃(qb tb xa:Nat),∃(ia ua:Int),∃db:OA,∃(ib nb:Nat),∃(aa da:LN),rdN H s 0 2=some [.slice jb qb tb,.float .f32 xa]∧rdN H p 0 3=some [.int .i64 ia,.int .i64 ua,.slice db ib nb]∧IsL fF H jb qb aa∧IsL fF H db ib da∧aa.length<1073741824∧da.length<1073741824∧1≤ia∧ia≤16∧1≤ua∧ua≤16∧(da.length:Int)=ia*ua∧((∀(ma:OA) (sa oa:Nat),∀H':zp,Grow H H'→OwnS fF H' H.length ma sa oa ((z3d aa xa ia ua da).2.2.1)→K ((z3d aa xa ia ua da).1) ((z3d aa xa ia ua da).2.1) ma sa oa ((z3d aa xa ia ua da).2.2.2) H'))
theorem z10k {s p:Nat} {H:zp} {K:Int→Int→OA→Nat→Nat→Bool→zp→Prop} (h:∃jb:OA,∃(qb tb xa:Nat),∃(ia ua:Int),∃db:OA,∃(ib nb:Nat),∃(aa da:LN),rdN H s 0 2=some [.slice jb qb tb,.float .f32 xa]∧rdN H p 0 3=some [.int .i64 ia,.int .i64 ua,.slice db ib nb]∧IsL fF H jb qb aa∧IsL fF H db ib da∧aa.length<1073741824∧da.length<1073741824∧1≤ia∧ia≤16∧1≤ua∧ua≤16∧(da.length:Int)=ia*ua∧((∀(ma:OA) (sa oa:Nat),∀H':zp,Grow H H'→OwnS fF H' H.length ma sa oa ((z3d aa xa ia ua da).2.2.1)→K ((z3d aa xa ia ua da).1) ((z3d aa xa ia ua da).2.1) ma sa oa ((z3d aa xa ia ua da).2.2.2) H'))):znv s p H K:=h
theorem zyl {l:LN} {W Hi y:Int} (h1:1≤W) (hl:(l.length:Int)=W*Hi) (h0:0≤y) (hy:y<Hi):(((((l).drop ((y*W):Int).toNat).take ((((y+1)*W):Int)-(y*W)).toNat)).length:Int)=W:=by
 have e2:(y+1)*W=y*W+W:=by rw [Int.add_mul,Int.one_mul]
 have s1:0≤y*W:=Int.mul_nonneg ω2 ω2
 have s3:(y+1)*W≤(l.length:Int):=by
  rw [hl,Int.mul_comm]
  exact Int.mul_le_mul_of_nonneg_left ω2 ω2
 rw [List.length_take,List.length_drop]
 omega
theorem zc2 (ws:LN) (sc:Nat) (W Hi:Int) (l:LN) (h1:1≤W) (hl:(l.length:Int)=W*Hi):∀(μ:Nat) (t5:Bool) (y q1 q2 q4 q5:Int) (q6:LN),0≤y→y≤Hi→(z4p ws sc W Hi l μ t5 y q1 q2 q4 q5 q6).2.2.2=true→
  (z4p ws sc W Hi l μ t5 y q1 q2 q4 q5 q6).1=q4∧(z4p ws sc W Hi l μ t5 y q1 q2 q4 q5 q6).2.1=q5∧((z4p ws sc W Hi l μ t5 y q1 q2 q4 q5 q6).2.2.1.length:Int)=q6.length+(Hi-y)*W:=by
 intro μ
 induction μ with
 | zero=>intro t5 y q1 q2 q4 q5 q6 _ _ h;simp [z4p] at h
 | succ μ ih=>
  intro t5 y q1 q2 q4 q5 q6 h0 hy h
  rw [zeb] at h ⊢
  by_cases c:y<Hi
  ·have hr:=zyl (l:=l) h1 hl h0 c
   have e1:(((((y+1)*W):Int)-(y*W)).toNat:Int)=W:=by
    have e2:(y+1)*W=y*W+W:=by rw [Int.add_mul,Int.one_mul]
    omega
   have hh:Int.tdiv (W+1) 2=(W+1) / 2:=Int.tdiv_eq_ediv_of_nonneg ω2
   rw [dct c] at h ⊢
   simp only [cond_true] at h ⊢
   rw [e1] at h ⊢
   generalize ((((l).drop ((y*W):Int).toNat).take ((((y+1)*W):Int)-(y*W)).toNat))=r at *
   generalize hA:List.take (((Int.tdiv (W+1) 2):Int)-0).toNat (List.drop (0:Int).toNat r)=A at *
   generalize hB:List.take (W-(Int.tdiv (W+1) 2)).toNat (List.drop ((Int.tdiv (W+1) 2):Int).toNat r)=B at *
   have lA:(A.length:Int)=(W+1) / 2:=by rw [←hA,List.length_take,List.length_drop];omega
   have lB:(B.length:Int)=W-(W+1) / 2:=by rw [←hB,List.length_take,List.length_drop];omega
   cases hg:(z8e ws sc A B).2 with
   | false=>rw [hg] at h;simp at h
   | true=>
    obtain ⟨g1,_⟩:=zrw ws sc A B hg
    have g3:=zjq ws sc A B
    rw [hg] at h
    simp only [Bool.not_true,cond_false] at h ⊢
    obtain ⟨b1,b2,b3⟩:=ih t5 (y+1) q1 q2 q4 q5 _ ω2 ω2 h
    refine ⟨b1,b2,b3.trans ?_⟩
    rw [List.length_append,g1]
    have e3:(Hi-(y+1))*W=(Hi-y)*W-W:=by rw [show Hi-(y+1)=(Hi-y)-1 by omega,Int.sub_mul,Int.one_mul]
    omega
  ·rw [dcf c,cond_false]
   refine ⟨rfl,rfl,?_⟩
   rw [show Hi-y=0 by omega,Int.zero_mul];show (q6.length:Int)=_;omega
theorem zfm {ws:LN} {sc:Nat} {W Hi:Int} {l:LN} (h1:1≤W) (h3:1≤Hi) (hl:(l.length:Int)=W*Hi) (h:(z3d ws sc W Hi l).2.2.2=true):(z3d ws sc W Hi l).1=W∧(z3d ws sc W Hi l).2.1=Hi∧((z3d ws sc W Hi l).2.2.1.length:Int)=W*Hi:=by
 rw [zky] at h ⊢
 obtain ⟨a,b,c⟩:=zc2 ws sc W Hi l h1 hl _ _ _ _ _ _ _ _ ω2 ω2 h
 refine ⟨a,b,c.trans ?_⟩
 rw [show Hi-0=Hi by omega,Int.mul_comm];simp
def za5:Env:=envOf [(167,S_fjz)]
def z16l (args:List Value) (H:zp):(Value→zp→Prop)→Prop:=match args with
 | [.pointer (some ⟨s,0,none⟩),.pointer (some ⟨p,0,none⟩)]=>fun K=>znv s p H fun (tc:Int) (nc:Int) (ma:OA) (sa:Nat) (oa:Nat) (r2:Bool) (H':zp)=>K (.tuple #[.agg #[.int .i64 tc,.int .i64 nc,.slice ma sa oa],.bool r2]) H'
 | _=>fun _=>False
def z17z:FSpec:={F:=z16l,quiet:=false,tame:=true}
theorem f16z_vc (s p:Nat) (H:zp) (K:KT):zw Tryz.prog za5 Tryz.f151 [.pointer (some ⟨s,0,none⟩),.pointer (some ⟨p,0,none⟩)] H K=
 (Al [.int .i64 0,.int .i64 0,.slice none 0 0] H fun b1 H1=>∃x1:Int,  rdC H1 p 1=some (.int .i64 x1)∧∃x2:Int,  rdC H1 p 0=some (.int .i64 x2)∧Al [] H1 fun b2 H2=>Al [.int .i64 0,.int .i64 0,.slice none 0 0] H2 fun b3 H3=>isOwn H3 b3∧(∃l,rdN H3 b3 0 3=some l)∧Lt (setN H3 b3 0 [.int .i64 x2,.int .i64 x1,.slice (some ⟨b2,0,none⟩) 0 1]) fun H4=>∃x3:Int,  rdC H4 p 0=some (.int .i64 x3)∧2≠(0:Int)∧z1n (exL Tryz.prog za5 (cl (cl (cr (cl (cr (cr (cr (zq Tryz.f151)))))))) 467 48 [(0,80)]) (.pointer (some ⟨s,0,none⟩)::.pointer (some ⟨p,0,none⟩)::ud2 (.pointer (some ⟨b1,0,none⟩)::ud::.pointer (some ⟨b3,0,none⟩)::.int .i64 (IntKind.wrap .i64 (Int.tdiv (IntKind.wrap .i64 (x3+1)) 2))::.int .i64 0::ud65 [])) H4 (z1a 0 (seqQ (exL Tryz.prog za5 (cr (cr (cr (cr (zq Tryz.f151))))) 48 48 []) (retK Tryz.prog Tryz.f151 K)))):=by kernel_rfl
abbrev f16z_P1 (b1 b3 p s:Nat) (z1_7 y:Int)  :List Value:=(.pointer (some ⟨s,0,none⟩)::.pointer (some ⟨p,0,none⟩)::ud2 (.pointer (some ⟨b1,0,none⟩)::ud::.pointer (some ⟨b3,0,none⟩)::.int .i64 z1_7::.int .i64 y::ud65 []))
theorem f16z_r1 (b1 b3 p s:Nat) (z1_7 y:Int)  (H:zp) (R:Post):exL Tryz.prog za5 (cl (cl (cr (cl (cr (cr (cr (zq Tryz.f151)))))))) 467 48 [(0,80)] (f16z_P1 b1 b3 p s z1_7 y) H R=
 (∃x4:Int,  rdC H p 1=some (.int .i64 x4)∧Br (decide ((y:Int)<x4)) (∃kj:OA,∃(ij zj:Nat),  rdC H p 2=some (.slice kj ij zj)∧∃x6:Int,  rdC H p 0=some (.int .i64 x6)∧∃x7:Int,  rdC H p 0=some (.int .i64 x7)∧(0:Int)≤IntKind.wrap .i64 (y*x6)∧IntKind.wrap .i64 (y*x6)≤IntKind.wrap .i64 ((IntKind.wrap .i64 (y+1))*x7)∧IntKind.wrap .i64 ((IntKind.wrap .i64 (y+1))*x7)≤(ij:Int)∧(0:Int)≤0∧0≤z1_7∧z1_7≤(((IntKind.wrap .i64 ((IntKind.wrap .i64 (y+1))*x7):Int)-IntKind.wrap .i64 (y*x6)).toNat:Int)∧(0:Int)≤z1_7∧z1_7≤(((IntKind.wrap .i64 ((IntKind.wrap .i64 (y+1))*x7):Int)-IntKind.wrap .i64 (y*x6)).toNat:Int)∧(((IntKind.wrap .i64 ((IntKind.wrap .i64 (y+1))*x7):Int)-IntKind.wrap .i64 (y*x6)).toNat:Int)≤(((IntKind.wrap .i64 ((IntKind.wrap .i64 (y+1))*x7):Int)-IntKind.wrap .i64 (y*x6)).toNat:Int)∧T_fjz s ((((kj:OA).map fun a=>⟨a.block,a.off+(IntKind.wrap .i64 (y*x6):Int).toNat*1,none⟩:OA)).map fun a=>⟨a.block,a.off+(0:Int).toNat*1,none⟩) (((z1_7:Int)-0).toNat) 0 ((((kj:OA).map fun a=>⟨a.block,a.off+(IntKind.wrap .i64 (y*x6):Int).toNat*1,none⟩:OA)).map fun a=>⟨a.block,a.off+(z1_7:Int).toNat*1,none⟩) ((((((IntKind.wrap .i64 ((IntKind.wrap .i64 (y+1))*x7):Int)-IntKind.wrap .i64 (y*x6)).toNat:Int):Int)-z1_7).toNat) 0 H fun (a1:OA) (r1:Nat) (r2:Nat) (r3:Bool) (H5:zp)=>Br (!r3) (isOwn H5 b1∧(∃l,rdN H5 b1 0 3=some l)∧Lt (setN H5 b1 0 [.int .i64 0,.int .i64 0,.slice none 0 0]) fun H6=>R .ret (ud4 (.pointer (some ⟨b1,0,none⟩)::.bool false::ud68 [])) H6) (∃tj:OA,∃(uj tk:Nat),  rdC H5 b3 2=some (.slice tj uj tk)∧∃o1 w1:List Value,ownB H5 tj uj tk 1=some o1∧rdS H5 a1 (r1*1)=some w1∧((tj:OA)=none→0<(r1:Nat))∧(uj:Nat)+r1<most∧Ap H5 (z3c H5 tj++[some ⟨o1++w1,true⟩]) fun b4 H7=>isOwn H7 b3∧(∃l,rdN H7 b3 2 1=some l)∧Lt (setC H7 b3 2 (.slice (some ⟨b4,0,none⟩) (uj+r1) 1)) fun H8=>R .normal (.pointer (some ⟨s,0,none⟩)::.pointer (some ⟨p,0,none⟩)::ud2 (.pointer (some ⟨b1,0,none⟩)::ud::.pointer (some ⟨b3,0,none⟩)::.int .i64 z1_7::.int .i64 (IntKind.wrap .i64 (y+1))::ud65 [])) H8)) (R (.exit 0) (ud4 (.pointer (some ⟨b1,0,none⟩)::ud::.pointer (some ⟨b3,0,none⟩)::ud67 [])) H)):=by kernel_rfl
def f16z_I1 (b1 b3 p s:Nat) (z1_7:Int) (Inv:Nat→Int→zp→Prop):Nat→List Value→zp→Prop:=fun μ tm H=>∃y:Int,tm=(f16z_P1 b1 b3 p s z1_7 y)∧Inv μ y H
theorem f16z_L1 (b1 b3 p s:Nat) (z1_7:Int) {Q:Post} (Inv:Nat→Int→zp→Prop) (ν:Nat) (y:Int)  (H:zp) (h0:Inv ν y H)
  (hs:∀(μ:Nat) (y:Int)  (H:zp),Inv μ y H→exL Tryz.prog za5 (cl (cl (cr (cl (cr (cr (cr (zq Tryz.f151)))))))) 467 48 [(0,80)] (f16z_P1 b1 b3 p s z1_7 y) H (z1b (f16z_I1 b1 b3 p s z1_7 Inv) μ Q)):z1n (exL Tryz.prog za5 (cl (cl (cr (cl (cr (cr (cr (zq Tryz.f151)))))))) 467 48 [(0,80)]) (f16z_P1 b1 b3 p s z1_7 y) H Q:=
 ⟨f16z_I1 b1 b3 p s z1_7 Inv,ν,⟨y,rfl,h0⟩,fun μ tm H h=>by obtain ⟨y,rfl,hI⟩:=h;exact hs μ y  H hI⟩
theorem f16z_n1 {b1 b3 p s:Nat} {z1_7:Int} {Q:Post} {Inv:Nat→Int→zp→Prop} {μ:Nat} (μ':Nat) {y:Int}  {H:zp} (hm:μ'<μ) (hI:Inv μ' y H):z1b (f16z_I1 b1 b3 p s z1_7 Inv) μ Q .normal (f16z_P1 b1 b3 p s z1_7 y) H:=⟨μ',hm,y,rfl,hI⟩
theorem f16z_x1_0 (b1 b3:Nat) (H:zp) (K:KT)  {I:Nat→List Value→zp→Prop} {μ:Nat}:z1b I μ (z1a 0 (seqQ (exL Tryz.prog za5 (cr (cr (cr (cr (zq Tryz.f151))))) 48 48 []) (retK Tryz.prog Tryz.f151 K))) (.exit 0) (ud4 (.pointer (some ⟨b1,0,none⟩)::ud::.pointer (some ⟨b3,0,none⟩)::ud67 [])) H=
 (∃(c1 c2:Int),∃vg:OA,∃(xg wg:Nat),  rdN H b3 0 3=some [.int .i64 c1,.int .i64 c2,.slice vg xg wg]∧isOwn H b1∧(∃l,rdN H b1 0 3=some l)∧Lt (setN H b1 0 [.int .i64 c1,.int .i64 c2,.slice vg xg wg]) fun H9=>∃(c4 c5:Int),∃eh:OA,∃(gh fh:Nat),  rdN H9 b1 0 3=some [.int .i64 c4,.int .i64 c5,.slice eh gh fh]∧K (.tuple #[.agg #[.int .i64 c4,.int .i64 c5,.slice eh gh fh],.bool true]) H9):=by kernel_rfl
theorem f16z_x1_ret (b1:Nat) (t5:Bool) (H:zp) (K:KT)  {I:Nat→List Value→zp→Prop} {μ:Nat}:z1b I μ (z1a 0 (seqQ (exL Tryz.prog za5 (cr (cr (cr (cr (zq Tryz.f151))))) 48 48 []) (retK Tryz.prog Tryz.f151 K))) .ret (ud4 (.pointer (some ⟨b1,0,none⟩)::.bool t5::ud68 [])) H=
 (∃(c7 c8:Int),∃sh:OA,∃(uh th:Nat),  rdN H b1 0 3=some [.int .i64 c7,.int .i64 c8,.slice sh uh th]∧K (.tuple #[.agg #[.int .i64 c7,.int .i64 c8,.slice sh uh th],.bool t5]) H):=by kernel_rfl
theorem zso:∀g,FnOk Tryz.prog g (za5 g):=FnOk.envOf (by
 intro x hx
 simp only [List.mem_cons,List.not_mem_nil,or_false] at hx
 subst hx;exact z1hm)
theorem f16z_main (s p:Nat) (H:zp) (K:KT) (h:znv s p H fun (tc:Int) (nc:Int) (ma:OA) (sa:Nat) (oa:Nat) (r2:Bool) (H':zp)=>K (.tuple #[.agg #[.int .i64 tc,.int .i64 nc,.slice ma sa oa],.bool r2]) H'):zw Tryz.prog za5 Tryz.f151 [.pointer (some ⟨s,0,none⟩),.pointer (some ⟨p,0,none⟩)] H K:=by
 rw [f16z_vc]
 obtain ⟨jb,qb,tb,xa,ia,ua,db,ib,nb,aa,da,i_s,i_p,dc,yb,bd_138,bd_139,pr0,pr1,pr2,pr3,pr4,hk⟩:=h
 obtain rfl:=dc.eqn
 obtain rfl:=yb.eqn
 have e:(z3d aa xa ia ua da)=_:=rfl
 have e:=e.trans (zky aa xa ia ua da)
 have g0:=Grow.refl H
 refine Al.intro (fun b_1 H_1 hb_2 hl_3 g_4 o_5=>?_)
 have l_7:=g_4.1
 have g_8:=g0.trans g_4
 have l_9:=g_8.1
 have w137:=o_5.lt
 refine ⟨ua,(z1l (zr g_8 i_p) 1 (nbl rfl)).trans rfl,?_⟩
 refine ⟨ia,(z1l (zr g_8 i_p) 0 (nbl rfl)).trans rfl,?_⟩
 refine Al.intro (fun b_10 H_2 hb_11 hl_12 g_13 o_14=>?_)
 have o_14:Own H_2 b_10 ((([]:LN)).map fF):=o_14
 have l_16:=g_13.1
 have g_17:=g_8.trans g_13
 have l_18:=g_17.1
 have o_19:=o_5.grow g_13
 have w20:=o_19.lt
 have w136:=o_14.lt
 refine Al.intro (fun b_21 H_3 hb_22 hl_23 g24 o25=>?_)
 have l27:=g24.1
 have g28:=g_17.trans g24
 have l29:=g28.1
 have o30:=o_19.grow g24
 have w31:=o30.lt
 have o32:=o_14.grow g24
 have w33:=o32.lt
 have w135:=o25.lt
 refine Lt.setN (n:=3) o25 (nbl rfl) rfl (fun H_4 hl_34 o36 k35=>?_)
 have o36:Own H_4 b_21 [.int .i64 ia,.int .i64 ua,.slice (some ⟨b_10,0,none⟩) 0 1]:=o36
 have l37:=k35.1
 have g38:=g28.keep (b:=b_21) ω2 k35
 have l39:=g38.1
 have o40:=o30.keep ω2 k35
 have w41:=o40.lt
 have o42:=o32.keep ω2 k35
 have w43:=o42.lt
 have w134:=o36.lt
 refine ⟨ia,(z1l (zr g38 i_p) 0 (nbl rfl)).trans rfl,?_⟩
 rw [show IntKind.wrap .i64 (ia+1)=(ia+1) from zt ω2 ω2]
 have z44:=zca (ia+1) 2
 refine ⟨ω23,?_⟩
 rw [show IntKind.wrap .i64 (Int.tdiv (ia+1) 2)=(Int.tdiv (ia+1) 2) from zt ω2 ω2]
 refine f16z_L1 _ _ _ _ _ (fun (μ:Nat) (y:Int) (H_5:zp)=>∃t5:Bool,∃(q1_1 q1_2 q1_4 q1_5:Int),∃q1_6:LN,∃b47:Nat,Own H_5 b_1 [.int .i64 q1_1,.int .i64 q1_2,.slice none 0 0]∧Own H_5 b47 (q1_6.map fF)∧Own H_5 b_21 [.int .i64 q1_4,.int .i64 q1_5,.slice (some ⟨b47,0,none⟩) q1_6.length 1]∧(b_21≠b_1)∧(b47≠b_1)∧(b47≠b_21)∧Grow H H_5∧H.length≤b47∧(0:Int)≤y∧((y≤ua∨y≤(0:Int)))∧(q1_6.length:Int)≤32*(y)∧ua-y≤(μ:Int)∧z3d aa xa ia ua da=z4p aa xa ia ua da (μ+1) t5 y q1_1 q1_2 q1_4 q1_5 q1_6) (Int.toNat (ua-(0:Int))) _ H_4 ?_ ?_
 ·exact ⟨_,_,_,_,_,_,_,ω19,o42,ω20,ω2,ω2,ω2,g38,ω2,ω7,ω7,ω7,ω2,e⟩
 ·intro μ y  H_5 hI
  obtain ⟨t5,q1_1,q1_2,q1_4,q1_5,q1_6,b47,o45,o48,o46,n49,n50,n51,g52,l53,v_54,v_55,v_56,hμ,e⟩:=hI
  rw [f16z_r1]
  have e:=e.trans (zeb aa xa ia ua da μ t5 y q1_1 q1_2 q1_4 q1_5 q1_6)
  have zy:=z19z (W:=ia) (H:=ua) (y:=y) da ω2 ω2 ω2 ω2;have zk:=List.length_take_le (Int.tdiv (ia+1) 2-0:Int).toNat ((((da).drop ((y*ia):Int).toNat).take ((((y+1)*ia):Int)-(y*ia)).toNat).drop (0:Int).toNat)
  have w57:=o45.lt
  have w58:=o46.lt
  have w59:=o48.lt
  have l60:=g52.1
  refine ⟨ua,(z1l (zr g52 i_p) 1 (nbl rfl)).trans rfl,?_⟩
  refine Br.intro (fun c61=>?_) (fun c61=>?_)
  ·have e:=e.trans (zv c61)
   have c_61':=odt c61
   refine ⟨db,da.length,nb,(z1l (zr g52 i_p) 2 (nbl rfl)).trans rfl,?_⟩
   refine ⟨ia,(z1l (zr g52 i_p) 0 (nbl rfl)).trans rfl,?_⟩
   rw [show IntKind.wrap .i64 (y*ia)=(y*ia) from zt ω2 ω2]
   rw [show IntKind.wrap .i64 (y+1)=(y+1) from zt ω2 ω2]
   refine ⟨ia,(z1l (zr g52 i_p) 0 (nbl rfl)).trans rfl,?_⟩
   rw [show IntKind.wrap .i64 ((y+1)*ia)=((y+1)*ia) from zt ω2 ω2]
   refine ⟨by omega,by omega,by omega,?_⟩
   have i62:=zc9 yb (lo:=(y*ia)) (hi:=((y+1)*ia)) ω2 ω2 ω2
   refine ⟨by omega,by omega,by omega,?_⟩
   have i63:=zc9 i62 (lo:=0) (hi:=(Int.tdiv (ia+1) 2)) ω2 ω2 ω2
   refine ⟨by omega,by omega,by omega,?_⟩
   have i_64:=zc9 i62 (lo:=(Int.tdiv (ia+1) 2)) (hi:=(((((y+1)*ia):Int)-(y*ia)).toNat:Int)) ω2 ω2 ω2
   refine z1be ⟨jb,aa.length,tb,xa,_,_,_,(zr g52 i_s),(dc.grow g52),(i63.grow g52),(i_64.grow g52),ω0,ω0,ω0,ω9,ω9,ω9,fun a65 n66 e67 H_6 g70 r68=>?_⟩
   have z69:=zni aa xa (((((((da).drop ((y*ia):Int).toNat).take ((((y+1)*ia):Int)-(y*ia)).toNat)).drop (0:Int).toNat).take (((Int.tdiv (ia+1) 2):Int)-0).toNat)) (((((((da).drop ((y*ia):Int).toNat).take ((((y+1)*ia):Int)-(y*ia)).toNat)).drop ((Int.tdiv (ia+1) 2):Int).toNat).take (((((((y+1)*ia):Int)-(y*ia)).toNat:Int):Int)-(Int.tdiv (ia+1) 2)).toNat))
   have l71:=g70.1
   have g72:=g52.trans g70
   have l73:=g72.1
   have o74:=o45.grow g70
   have w75:=o74.lt
   have o76:=o46.grow g70
   have w77:=o76.lt
   have o78:=o48.grow g70
   have w79:=o78.lt
   obtain rfl:=r68.isL.eqn
   have u80:=r68.up
   have u81:=r68.lo
   refine Br.intro (fun c83=>?_) (fun c83=>?_)
   ·have e:=e.trans (zv c83)
    have c_83n:=z1g c83
    refine Lt.setN (n:=3) o74 (nbl rfl) rfl (fun H_7 hl_84 o86 k85=>?_)
    have o86:Own H_7 b_1 [.int .i64 0,.int .i64 0,.slice none 0 0]:=o86
    have l87:=k85.1
    have g88:=g72.keep (b:=b_1) ω2 k85
    have l89:=g88.1
    have o90:=o76.keep ω2 k85
    have w91:=o90.lt
    have o92:=o78.keep ω2 k85
    have w93:=o92.lt
    have r94:=r68.keep u80 ω2 k85
    have w95:=o86.lt
    rw [f16z_x1_ret]
    refine ⟨0,0,none,0,0,(o86.rdN (nbl rfl)).trans rfl,?_⟩
    rw [e] at hk
    exact hk _ _ _ H_7 g88 ω17
   ·have e:=e.trans (zu c83)
    have c_83n:=z1d c83
    refine ⟨some ⟨b47,0,none⟩,q1_6.length,1,(o76.rdC _).trans rfl,?_⟩
    refine ⟨_,_,o78.ownB ω3 rfl,(z2t r68.isL),(fun h=>by cases h),ω25,?_⟩
    refine Ap.app o78 rfl rfl (fun b100 H_8 q121 hl_96 o97 k98=>?_)
    have o97:=z2l o97
    have l101:=k98.1
    have g102:=g72.keep (b:=b47) ω2 k98
    have l103:=g102.1
    have o104:=o74.keep ω2 k98
    have w105:=o104.lt
    have o106:=o76.keep ω2 k98
    have w107:=o106.lt
    have r108:=r68.keep u80 ω2 k98
    have w122:=o97.lt
    refine Lt.set o106 (nbl rfl) (fun H_9 hl_109 o111 k110=>?_)
    have o111:Own H_9 b_21 [.int .i64 q1_4,.int .i64 q1_5,.slice (some ⟨b100,0,none⟩) (q1_6.length+(((z8e aa xa (((((((da).drop ((y*ia):Int).toNat).take ((((y+1)*ia):Int)-(y*ia)).toNat)).drop (0:Int).toNat).take (((Int.tdiv (ia+1) 2):Int)-0).toNat)) (((((((da).drop ((y*ia):Int).toNat).take ((((y+1)*ia):Int)-(y*ia)).toNat)).drop ((Int.tdiv (ia+1) 2):Int).toNat).take (((((((y+1)*ia):Int)-(y*ia)).toNat:Int):Int)-(Int.tdiv (ia+1) 2)).toNat))).1).length)) 1]:=o111
    have l112:=k110.1
    have g113:=g102.keep (b:=b_21) ω2 k110
    have l114:=g113.1
    have o115:=o104.keep ω2 k110
    have w116:=o115.lt
    have o117:=o97.keep ω2 k110
    have w118:=o117.lt
    have r119:=r108.keep u80 ω2 k110
    have w120:=o111.lt
    refine f16z_n1 (μ-1) ω15 ⟨_,_,_,_,_,_,_,(by first | exact o115 | (have hbx:=o115;(try simp only [List.length_append,List.length_cons,List.length_nil,Nat.zero_add] at hbx);(try simp only [List.length_append,List.length_cons,List.length_nil,Nat.zero_add]);exact hbx)),o117,(by first | exact o111 | (have hbx:=o111;(try simp only [List.length_append,List.length_cons,List.length_nil,Nat.zero_add] at hbx);(try simp only [List.length_append,List.length_cons,List.length_nil,Nat.zero_add]);exact hbx)),ω2,ω2,ω2,g113,ω2,ω1,ω1,ω1,ω15,ω13⟩
  ·have e:=e.trans (zu c61)
   have c_61':=odf c61
   rw [f16z_x1_0]
   refine ⟨q1_4,q1_5,some ⟨b47,0,none⟩,q1_6.length,1,(o46.rdN (nbl rfl)).trans rfl,?_⟩
   refine Lt.setN (n:=3) o45 (nbl rfl) rfl (fun H_10 hl_123 o125 k124=>?_)
   have o125:Own H_10 b_1 [.int .i64 q1_4,.int .i64 q1_5,.slice (some ⟨b47,0,none⟩) q1_6.length 1]:=o125
   have l126:=k124.1
   have g127:=g52.keep (b:=b_1) ω2 k124
   have l128:=g127.1
   have o129:=o46.keep ω2 k124
   have w130:=o129.lt
   have o131:=o48.keep ω2 k124
   have w132:=o131.lt
   have w133:=o125.lt
   refine ⟨q1_4,q1_5,some ⟨b47,0,none⟩,q1_6.length,1,(o125.rdN (nbl rfl)).trans rfl,?_⟩
   rw [e] at hk
   exact hk _ _ _ H_10 g127 (o131.ownS ω5 ω2)
theorem f16z_ok:FnOk Tryz.prog 151 z17z:=FnOk.bodyF mix_ok zso Tryz.func151 rfl ω10 ω10 fun args H=>by
 unfold z16l
 split
 ·refine ⟨?_,?_,?_,?_,fun K hk=>f16z_main _ _ H K hk⟩
  ·intro K K' h hk;obtain ⟨jb,qb,tb,xa,ia,ua,db,ib,nb,aa,da,i_s,i_p,dc,yb,bd_138,bd_139,pr0,pr1,pr2,pr3,pr4,k⟩:=hk;exact ⟨jb,qb,tb,xa,ia,ua,db,ib,nb,aa,da,i_s,i_p,dc,yb,bd_138,bd_139,pr0,pr1,pr2,pr3,pr4,(fun ma sa oa H' gg ow0=>h _ _ (k ma sa oa H' gg ow0))⟩
  ·nofun
  ·intro K hk;obtain ⟨jb,qb,tb,xa,ia,ua,db,ib,nb,aa,da,i_s,i_p,dc,yb,bd_138,bd_139,pr0,pr1,pr2,pr3,pr4,k⟩:=hk;exact z4i fun a n e H1 g o=>⟨_,_,k a n e H1 g o⟩
  ·intro _ K hk;obtain ⟨jb,qb,tb,xa,ia,ua,db,ib,nb,aa,da,i_s,i_p,dc,yb,bd_138,bd_139,pr0,pr1,pr2,pr3,pr4,k⟩:=hk;exact ⟨jb,qb,tb,xa,ia,ua,db,ib,nb,aa,da,i_s,i_p,dc,yb,bd_138,bd_139,pr0,pr1,pr2,pr3,pr4,(fun ma sa oa H' gg ow0=>⟨gg,k ma sa oa H' gg ow0⟩)⟩
 ·exact Nice.no
def evs (l:LN):LN:=l.zipIdx.filterMap fun p=>if p.2 % 2=0 then some p.1 else none
def ods (l:LN):LN:=l.zipIdx.filterMap fun p=>if p.2 % 2=0 then none else some p.1
theorem zhu (l:LN) (x:Nat):evs (l++[x])=if l.length % 2=0 then evs l++[x] else evs l:=by
 unfold evs
 rw [List.zipIdx_append,List.filterMap_append]
 by_cases h:l.length % 2=0<;>simp [h]
theorem zib (l:LN) (x:Nat):ods (l++[x])=if l.length % 2=0 then ods l else ods l++[x]:=by
 unfold ods
 rw [List.zipIdx_append,List.filterMap_append]
 by_cases h:l.length % 2=0<;>simp [h]
theorem zf5 (l:LN) (i:Nat) (h:i<l.length):l.take (i+1)=l.take i++[l.getD i 0]:=by
 rw [List.take_add_one];simp [List.getD_eq_getElem?_getD,h]
theorem zh5 (l:LN):∀k,k≤l.length→(evs (l.take k)).length=(k+1) / 2∧(ods (l.take k)).length=k / 2:=by
 intro k
 induction k with
 | zero=>intro _;simp [evs,ods]
 | succ k ih=>
  intro h
  obtain ⟨h1,h2⟩:=ih ω2
  have hl:(l.take k).length=k:=by simp;omega
  rw [zf5 l k ω2,zhu,zib,hl]
  by_cases hk:k % 2=0
  ·rw [if_pos hk,if_pos hk,List.length_append,h1,h2];simp;omega
  ·rw [if_neg hk,if_neg hk,List.length_append,h1,h2];simp;omega
theorem z4u (l:LN):(evs l).length=(l.length+1) / 2:=by have:=(zh5 l l.length (Nat.le_refl _)).1;rwa [List.take_of_length_le (Nat.le_refl _)] at this
theorem z4y (l:LN):(ods l).length=l.length / 2:=by have:=(zh5 l l.length (Nat.le_refl _)).2;rwa [List.take_of_length_le (Nat.le_refl _)] at this
theorem zyq (l:LN):(evs l).length=(l.length+1) / 2∧(ods l).length=l.length / 2:=⟨z4u l,z4y l⟩
theorem tm2t {i:Int} (h:(Int.tmod i 2==0)=true) (h0:0≤i):i % 2=0:=by
 have h1:Int.tmod i 2=0:=by simpa using h
 rw [Int.tmod_eq_emod_of_nonneg h0] at h1
 exact h1
theorem tm2f {i:Int} (h:(Int.tmod i 2==0)=false) (h0:0≤i):i % 2=1:=by
 have h1:¬Int.tmod i 2=0:=by simpa using h
 rw [Int.tmod_eq_emod_of_nonneg h0] at h1
 omega
def z5f (aa:LN) (xa:Nat) (ab ye td:LN) (i k:Int) (y2_1 y2_2:LN) (jf:Int) (y3_1 y3_2:LN) (k4_6:Int→LN→(LN×LN×Bool)):Nat→Int→LN→LN×LN×Bool
 | 0,_,_=>([],[],false)
 | μ4+1,jh,y4_1=>(bif decide ((jh:Int)<(td.length:Int)) then (z5f aa xa ab ye td i k y2_1 y2_2 jf y3_1 y3_2 k4_6 μ4 (jh+1) (((y4_1).set (jh:Int).toNat ((fdiv .f32 (((y4_1).getD (jh:Int).toNat 0)) xa))))) else (k4_6 jh y4_1))
def zgq:=fun aa xa ab ye td i k y2_1 y2_2 jf y3_1 y3_2 k4_6 μ4 jh y4_1=>@z5f.eq_2 aa xa ab ye td i k y2_1 y2_2 jf y3_1 y3_2 k4_6 jh y4_1 μ4
def z6x (aa:LN) (xa:Nat) (ab ye td:LN) (i k:Int) (y2_1 y2_2:LN) (k3_4:Int→LN→LN→(LN×LN×Bool)):Nat→Int→LN→LN→LN×LN×Bool
 | 0,_,_,_=>([],[],false)
 | μ3+1,jf,y3_1,y3_2=>(bif decide ((jf:Int)<(ye.length:Int)) then (z6x aa xa ab ye td i k y2_1 y2_2 k3_4 μ3 (jf+1) (((y3_1).set (jf:Int).toNat ((fmul .f32 (((y3_1).getD (jf:Int).toNat 0)) xa)))) y3_2) else (k3_4 jf y3_1 y3_2))
def zgp:=fun aa xa ab ye td i k y2_1 y2_2 k3_4 μ3 jf y3_1 y3_2=>@z6x.eq_2 aa xa ab ye td i k y2_1 y2_2 k3_4 jf y3_1 y3_2 μ3
def zbp (aa:LN) (xa:Nat) (ab ye td:LN) (i:Int) (k2_2:Int→LN→LN→(LN×LN×Bool)):Nat→Int→LN→LN→LN×LN×Bool
 | 0,_,_,_=>([],[],false)
 | μ2+1,k,y2_1,y2_2=>(bif decide ((k:Int)<(aa.length:Int)) then (zbp aa xa ab ye td i k2_2 μ2 (k+1) ((zas k (((aa).getD (k:Int).toNat 0)) y2_1 y2_2)) ((z6p k (((aa).getD (k:Int).toNat 0)) y2_1 y2_2))) else (k2_2 k y2_1 y2_2))
def zgo:=fun aa xa ab ye td i k2_2 μ2 k y2_1 y2_2=>@zbp.eq_2 aa xa ab ye td i k2_2 k y2_1 y2_2 μ2
def z9z (aa:LN) (xa:Nat) (ab:LN):Nat→LN→LN→Int→LN×LN×Bool
 | 0,_,_,_=>([],[],false)
 | μ+1,ye,td,i=>(bif decide ((i:Int)<(ab.length:Int)) then (bif (Int.tmod i 2:Int)==0 then (z9z aa xa ab μ ((ye++[(((ab).getD (i:Int).toNat 0))])) td (i+1)) else (z9z aa xa ab μ ye ((td++[(((ab).getD (i:Int).toNat 0))])) (i+1))) else (bif ((td.length:Int):Int)==0 then (ye,td,true) else (zbp aa xa ab ye td i (fun (k:Int) (y2_1:LN) (y2_2:LN)=>(z6x aa xa ab ye td i k y2_1 y2_2 (fun (jf:Int) (y3_1:LN) (y3_2:LN)=>(z5f aa xa ab ye td i k y2_1 y2_2 jf y3_1 y3_2 (fun (jh:Int) (y4_1:LN)=>(bif (z1v y3_1) then (y3_1,y4_1,(z1v y4_1)) else (y3_1,y4_1,false))) (Int.toNat ((td.length:Int)-(0:Int))+1) (0:Int) y3_2)) (Int.toNat ((ye.length:Int)-(0:Int))+1) (0:Int) y2_1 y2_2)) (Int.toNat ((aa.length:Int)-(0:Int))+1) (0:Int) ye td)))
def zgn:=fun aa xa ab μ ye td i=>@z9z.eq_2 aa xa ab ye td i μ
def z3g (aa:LN) (xa:Nat) (ab:LN):LN×LN×Bool:=(z9z aa xa ab (Int.toNat ((ab.length:Int)-(0:Int))+1) ([]:LN) ([]:LN) (0:Int))
def zpj:=@z3g.eq_1
def T_fkz (s:Nat) (zb:OA) (vb jc:Nat) (H:zp) (K:OA→Nat→Nat→OA→Nat→Nat→Bool→zp→Prop):Prop:=∃jb:OA,∃(qb tb xa:Nat),∃(aa ab:LN),rdN H s 0 2=some [.slice jb qb tb,.float .f32 xa]∧IsL fF H jb qb aa∧IsL fF H zb vb ab∧aa.length<1073741824∧ab.length<1073741824∧((∀(od:OA) (xd vd:Nat),∀(nh:OA) (wh vh:Nat),∀H':zp,Grow H H'→OwnS fF H' H.length od xd vd ((z3g aa xa ab).1)→OwnS fF H' H.length nh wh vh ((z3g aa xa ab).2.1)→SepA od nh→K od xd vd nh wh vh ((z3g aa xa ab).2.2) H'))
theorem z1bf {s:Nat} {zb:OA} {vb jc:Nat} {H:zp} {K:OA→Nat→Nat→OA→Nat→Nat→Bool→zp→Prop} (h:∃jb:OA,∃(qb tb xa:Nat),∃(aa ab:LN),rdN H s 0 2=some [.slice jb qb tb,.float .f32 xa]∧IsL fF H jb qb aa∧IsL fF H zb vb ab∧aa.length<1073741824∧ab.length<1073741824∧((∀(od:OA) (xd vd:Nat),∀(nh:OA) (wh vh:Nat),∀H':zp,Grow H H'→OwnS fF H' H.length od xd vd ((z3g aa xa ab).1)→OwnS fF H' H.length nh wh vh ((z3g aa xa ab).2.1)→SepA od nh→K od xd vd nh wh vh ((z3g aa xa ab).2.2) H'))):T_fkz s zb vb jc H K:=h
def wfS:LN→Int→LN→LN→LN×LN
 | [],_,lo,hi=>(lo,hi)
 | w::ws,k,lo,hi=>wfS ws (k+1) (zas k w lo hi) (z6p k w lo hi)
theorem zhe:∀(ws:LN) (k:Int) (lo hi:LN),(wfS ws k lo hi).1.length=lo.length∧(wfS ws k lo hi).2.length=hi.length:=by
 intro ws
 induction ws with
 | nil=>intro k lo hi;exact ⟨rfl,rfl⟩
 | cons w ws ih=>
  intro k lo hi
  obtain ⟨h1,h2⟩:=ih (k+1) (zas k w lo hi) (z6p k w lo hi)
  exact ⟨h1.trans (z4h _ _ _ _),h2.trans (z3a _ _ _ _)⟩
theorem zry (ws:LN) (sc:Nat) (l low high:LN) (i:Int) (K2:Int→LN→LN→LN×LN×Bool):∀(μ k:Nat) (y1 y2:LN),k≤ws.length→ws.length-k<μ→
  zbp ws sc l low high i K2 μ (k:Int) y1 y2=K2 (ws.length:Int) (wfS (ws.drop k) (k:Int) y1 y2).1 (wfS (ws.drop k) (k:Int) y1 y2).2:=by
 intro μ
 induction μ with
 | zero=>intro k y1 y2 _ h;omega
 | succ μ ih=>
  intro k y1 y2 hk hm
  rw [zgo]
  by_cases h:k<ws.length
  ·rw [dct (show (k:Int)<(ws.length:Int) by omega),cond_true,Int.toNat_natCast]
   have:=ih (k+1) (zas k (ws.getD k 0) y1 y2) (z6p k (ws.getD k 0) y1 y2) ω2 ω2
   have e:ws.getD k 0=ws[k]:=by simp [List.getD_eq_getElem?_getD,h]
   rw [List.drop_eq_getElem_cons h,wfS]
   rw [e] at this ⊢
   exact this
  ·have e:k=ws.length:=by omega
   rw [dcf (show ¬(k:Int)<(ws.length:Int) by omega),cond_false,e,List.drop_length,wfS]
theorem zrz (ws:LN) (sc:Nat) (l low high:LN) (i k:Int) (a b:LN) (K3:Int→LN→LN→LN×LN×Bool) (A:LN) (hA:A.length=low.length) (y2:LN):∀(μ j:Nat),j≤low.length→low.length-j<μ→
  z6x ws sc l low high i k a b K3 μ (j:Int) ((A.map fun x=>fmul .f32 x sc).take j++A.drop j) y2=K3 (low.length:Int) (A.map fun x=>fmul .f32 x sc) y2:=by
 intro μ
 induction μ with
 | zero=>intro k _ h;omega
 | succ μ ih=>
  intro j hj hm
  rw [zgp]
  by_cases h:j<low.length
  ·rw [dct (show (j:Int)<(low.length:Int) by omega),cond_true,Int.toNat_natCast,z7l _ _ _ ω2 (by simp)]
   have:=ih (j+1) ω2 ω2
   rw [z3o (A.map fun x=>fmul .f32 x sc) A j ω2 (by simp) _ (by simp [List.getD_eq_getElem?_getD,show j<A.length by omega])]
   exact this
  ·have e:j=low.length:=by omega
   rw [dcf (show ¬(j:Int)<(low.length:Int) by omega),cond_false,e,List.take_of_length_le (by simp [hA]),List.drop_of_length_le ω2,List.append_nil]
theorem zs0 (ws:LN) (sc:Nat) (l low high:LN) (i k:Int) (a b:LN) (i2:Int) (c d:LN) (K4:Int→LN→LN×LN×Bool) (A:LN) (hA:A.length=high.length):∀(μ j:Nat),j≤high.length→high.length-j<μ→
  z5f ws sc l low high i k a b i2 c d K4 μ (j:Int) ((A.map fun x=>fdiv .f32 x sc).take j++A.drop j)=K4 (high.length:Int) (A.map fun x=>fdiv .f32 x sc):=by
 intro μ
 induction μ with
 | zero=>intro k _ h;omega
 | succ μ ih=>
  intro j hj hm
  rw [zgq]
  by_cases h:j<high.length
  ·rw [dct (show (j:Int)<(high.length:Int) by omega),cond_true,Int.toNat_natCast,z7l _ _ _ ω2 (by simp)]
   have:=ih (j+1) ω2 ω2
   rw [z3o (A.map fun x=>fdiv .f32 x sc) A j ω2 (by simp) _ (by simp [List.getD_eq_getElem?_getD,show j<A.length by omega])]
   exact this
  ·have e:j=high.length:=by omega
   rw [dcf (show ¬(j:Int)<(high.length:Int) by omega),cond_false,e,List.take_of_length_le (by simp [hA]),List.drop_of_length_le ω2,List.append_nil]
def zi4 (ws:LN) (sc:Nat) (l:LN):LN:=(wfS ws 0 (evs l) (ods l)).1.map fun x=>fmul .f32 x sc
def zi5 (ws:LN) (sc:Nat) (l:LN):LN:=(wfS ws 0 (evs l) (ods l)).2.map fun x=>fdiv .f32 x sc
def zr0 (ws:LN) (sc:Nat) (l:LN):LN×LN×Bool:=
 bif (((ods l).length:Int)==0) then (evs l,ods l,true) else (zi4 ws sc l,zi5 ws sc l,z1v (zi4 ws sc l) && z1v (zi5 ws sc l))
theorem zrx (ws:LN) (sc:Nat) (l:LN):∀(μ i:Nat),i≤l.length→l.length-i<μ→z9z ws sc l μ (evs (l.take i)) (ods (l.take i)) (i:Int)=zr0 ws sc l:=by
 intro μ
 induction μ with
 | zero=>intro i _ h;omega
 | succ μ ih=>
  intro i hi hm
  rw [zgn]
  by_cases h:i<l.length
  ·rw [dct (show (i:Int)<(l.length:Int) by omega),cond_true,Int.toNat_natCast]
   have:=ih (i+1) ω2 ω2
   have hl:(l.take i).length=i:=by simp;omega
   rw [zf5 l i h,zhu,zib,hl] at this
   have ht:(Int.tmod (i:Int) 2==0)=decide (i % 2=0):=by
    have:Int.tmod (i:Int) 2=((i % 2:Nat):Int):=by rw [Int.tmod_eq_emod_of_nonneg ω2];omega
    rw [this]
    by_cases hk:i % 2=0
    ·simp [hk]
    ·have:i % 2=1:=by omega
     simp [this]
   rw [ht]
   by_cases hk:i % 2=0
   ·rw [if_pos hk,if_pos hk] at this
    rw [dct hk,cond_true];exact this
   ·rw [if_neg hk,if_neg hk] at this
    rw [dcf hk,cond_false];exact this
  ·have e:i=l.length:=by omega
   rw [dcf (show ¬(i:Int)<(l.length:Int) by omega),cond_false,e,List.take_of_length_le (Nat.le_refl _)]
   unfold zr0
   cases hz:(((ods l).length:Int)==0)
   ·rw [cond_false,cond_false]
    have h2:=zry ws sc l (evs l) (ods l) (l.length:Int) (fun (k:Int) (y2_1:LN) (y2_2:LN)=>(z6x ws sc l (evs l) (ods l) (l.length:Int) k y2_1 y2_2 (fun (jf:Int) (y3_1:LN) (y3_2:LN)=>(z5f ws sc l (evs l) (ods l) (l.length:Int) k y2_1 y2_2 jf y3_1 y3_2 (fun (jh:Int) (y4_1:LN)=>(bif (z1v y3_1) then (y3_1,y4_1,(z1v y4_1)) else (y3_1,y4_1,false))) (Int.toNat (((ods l).length:Int)-(0:Int))+1) (0:Int) y3_2)) (Int.toNat (((evs l).length:Int)-(0:Int))+1) (0:Int) y2_1 y2_2))
     (Int.toNat ((ws.length:Int)-(0:Int))+1) 0 (evs l) (ods l) ω2 ω2
    refine Eq.trans h2 ?_
    obtain ⟨l1,l2⟩:=zhe ws 0 (evs l) (ods l)
    rw [List.drop_zero]
    have h3:=fun K3=>zrz ws sc l (evs l) (ods l) (l.length:Int) (ws.length:Int) (wfS ws ((0:Nat):Int) (evs l) (ods l)).1 (wfS ws ((0:Nat):Int) (evs l) (ods l)).2 K3 (wfS ws ((0:Nat):Int) (evs l) (ods l)).1 l1 (wfS ws ((0:Nat):Int) (evs l) (ods l)).2 (Int.toNat (((evs l).length:Int)-(0:Int))+1) 0 ω2 ω2
    simp only [List.take_zero,List.drop_zero,List.nil_append] at h3
    refine Eq.trans (h3 _) ?_
    have h4:=fun K4=>zs0 ws sc l (evs l) (ods l) (l.length:Int) (ws.length:Int) (wfS ws ((0:Nat):Int) (evs l) (ods l)).1 (wfS ws ((0:Nat):Int) (evs l) (ods l)).2 ((evs l).length:Int) ((wfS ws ((0:Nat):Int) (evs l) (ods l)).1.map fun x=>fmul .f32 x sc) (wfS ws ((0:Nat):Int) (evs l) (ods l)).2 K4 (wfS ws ((0:Nat):Int) (evs l) (ods l)).2 l2 (Int.toNat (((ods l).length:Int)-(0:Int))+1) 0 ω2 ω2
    simp only [List.take_zero,List.drop_zero,List.nil_append] at h4
    refine Eq.trans (h4 _) ?_
    unfold zi4 zi5
    cases z1v ((wfS ws ((0:Nat):Int) (evs l) (ods l)).1.map fun x=>fmul .f32 x sc)<;>rfl
   ·rw [cond_true,cond_true]
theorem z5c (ws:LN) (sc:Nat) (l:LN):z3g ws sc l=zr0 ws sc l:=by
 rw [zpj]
 have:=zrx ws sc l (Int.toNat ((l.length:Int)-0)+1) 0 ω2 ω2
 simpa [evs,ods] using this
theorem zaq (ws:LN) (sc:Nat) (l:LN):(z3g ws sc l).1.length=(l.length+1) / 2∧(z3g ws sc l).2.1.length=l.length / 2:=by
 rw [z5c]
 unfold zr0 zi4 zi5
 obtain ⟨h1,h2⟩:=zhe ws 0 (evs l) (ods l)
 cases (((ods l).length:Int)==0)<;>simp [h1,h2,z4u,z4y]
def z4s:Env:=envOf [(175,zug),(124,zj0)]
def F_fkz (args:List Value) (H:zp):(Value→zp→Prop)→Prop:=match args with
 | [.pointer (some ⟨s,0,none⟩),.slice zb vb jc]=>fun K=>T_fkz s zb vb jc H fun (od:OA) (xd:Nat) (vd:Nat) (nh:OA) (wh:Nat) (vh:Nat) (r3:Bool) (H':zp)=>K (.tuple #[.slice od xd vd,.slice nh wh vh,.bool r3]) H'
 | _=>fun _=>False
def S_fkz:FSpec:={F:=F_fkz,quiet:=false,tame:=true}
theorem z1i3 (s:Nat) (zb:OA) (vb jc:Nat) (H:zp) (K:KT):zw Tryz.prog z4s Tryz.f168 [.pointer (some ⟨s,0,none⟩),.slice zb vb jc] H K=
 (Al [] H fun b1 H1=>Al [] H1 fun b2 H2=>z1n (exL Tryz.prog z4s (cl (cl (cr (cl (cr (cr (cr (zq Tryz.f168)))))))) 899 112 [(0,385)]) (.pointer (some ⟨s,0,none⟩)::.slice zb vb jc::ud5 (.slice (some ⟨b1,0,none⟩) 0 1::.slice (some ⟨b2,0,none⟩) 0 1::.int .i64 0::ud97 [])) H2 (z1a 0 (seqQ (exL Tryz.prog z4s (cr (cr (cr (cr (zq Tryz.f168))))) 112 112 []) (retK Tryz.prog Tryz.f168 K)))):=by kernel_rfl
abbrev zk2 (zb:OA) (jc vb s:Nat) (jd:OA) (sd zd:Nat) (ac:OA) (cc ic:Nat) (i:Int)  :List Value:=(.pointer (some ⟨s,0,none⟩)::.slice zb vb jc::ud5 (.slice jd sd zd::.slice ac cc ic::.int .i64 i::ud97 []))
theorem z1hz (zb:OA) (jc vb s:Nat) (jd:OA) (sd zd:Nat) (ac:OA) (cc ic:Nat) (i:Int)  (H:zp) (R:Post):exL Tryz.prog z4s (cl (cl (cr (cl (cr (cr (cr (zq Tryz.f168)))))))) 899 112 [(0,385)] (zk2 zb jc vb s jd sd zd ac cc ic i) H R=
 (Br (decide ((i:Int)<(vb:Int))) (2≠(0:Int)∧Br ((Int.tmod i 2:Int)==0) ((0:Int)≤i∧i<(vb:Int)∧∃b3 f1,(zb:OA)=some ⟨b3,f1,none⟩∧∃x1:Nat,  rdC H b3 (f1+(i:Int).toNat*1)=some (.float .f32 x1)∧Al [.float .f32 x1] H fun b4 H3=>∃o1 w1:List Value,ownB H3 jd sd zd 1=some o1∧rdS H3 (some ⟨b4,0,none⟩) (1*1)=some w1∧((jd:OA)=none→0<(1:Nat))∧(sd:Nat)+1<most∧Ap H3 (z3c H3 jd++[some ⟨o1++w1,true⟩]) fun b5 H4=>R .normal (.pointer (some ⟨s,0,none⟩)::.slice zb vb jc::ud5 (.slice (some ⟨b5,0,none⟩) (sd+1) 1::.slice ac cc ic::.int .i64 (IntKind.wrap .i64 (i+1))::ud97 [])) H4) ((0:Int)≤i∧i<(vb:Int)∧∃b6 f2,(zb:OA)=some ⟨b6,f2,none⟩∧∃x2:Nat,  rdC H b6 (f2+(i:Int).toNat*1)=some (.float .f32 x2)∧Al [.float .f32 x2] H fun b7 H5=>∃o2 w2:List Value,ownB H5 ac cc ic 1=some o2∧rdS H5 (some ⟨b7,0,none⟩) (1*1)=some w2∧((ac:OA)=none→0<(1:Nat))∧(cc:Nat)+1<most∧Ap H5 (z3c H5 ac++[some ⟨o2++w2,true⟩]) fun b8 H6=>R .normal (.pointer (some ⟨s,0,none⟩)::.slice zb vb jc::ud5 (.slice jd sd zd::.slice (some ⟨b8,0,none⟩) (cc+1) 1::.int .i64 (IntKind.wrap .i64 (i+1))::ud97 [])) H6)) (R (.exit 0) (.pointer (some ⟨s,0,none⟩)::ud6 (.slice jd sd zd::.slice ac cc ic::ud98 [])) H)):=by kernel_rfl
def zx0 (zb:OA) (jc vb s:Nat) (Inv:Nat→OA→Nat→Nat→OA→Nat→Nat→Int→zp→Prop):Nat→List Value→zp→Prop:=fun μ tm H=>∃jd:OA,∃(sd zd:Nat),∃ac:OA,∃(cc ic:Nat),∃i:Int,tm=(zk2 zb jc vb s jd sd zd ac cc ic i)∧Inv μ jd sd zd ac cc ic i H
theorem z1hr (zb:OA) (jc vb s:Nat) {Q:Post} (Inv:Nat→OA→Nat→Nat→OA→Nat→Nat→Int→zp→Prop) (ν:Nat) (jd:OA) (sd zd:Nat) (ac:OA) (cc ic:Nat) (i:Int)  (H:zp) (h0:Inv ν jd sd zd ac cc ic i H)
  (hs:∀(μ:Nat) (jd:OA) (sd:Nat) (zd:Nat) (ac:OA) (cc:Nat) (ic:Nat) (i:Int)  (H:zp),Inv μ jd sd zd ac cc ic i H→exL Tryz.prog z4s (cl (cl (cr (cl (cr (cr (cr (zq Tryz.f168)))))))) 899 112 [(0,385)] (zk2 zb jc vb s jd sd zd ac cc ic i) H (z1b (zx0 zb jc vb s Inv) μ Q)):z1n (exL Tryz.prog z4s (cl (cl (cr (cl (cr (cr (cr (zq Tryz.f168)))))))) 899 112 [(0,385)]) (zk2 zb jc vb s jd sd zd ac cc ic i) H Q:=
 ⟨zx0 zb jc vb s Inv,ν,⟨jd,sd,zd,ac,cc,ic,i,rfl,h0⟩,fun μ tm H h=>by obtain ⟨jd,sd,zd,ac,cc,ic,i,rfl,hI⟩:=h;exact hs μ jd sd zd ac cc ic i  H hI⟩
theorem z19k {zb:OA} {jc vb s:Nat} {Q:Post} {Inv:Nat→OA→Nat→Nat→OA→Nat→Nat→Int→zp→Prop} {μ:Nat} (μ':Nat) {jd:OA} {sd zd:Nat} {ac:OA} {cc ic:Nat} {i:Int}  {H:zp} (hm:μ'<μ) (hI:Inv μ' jd sd zd ac cc ic i H):z1b (zx0 zb jc vb s Inv) μ Q .normal (zk2 zb jc vb s jd sd zd ac cc ic i) H:=⟨μ',hm,jd,sd,zd,ac,cc,ic,i,rfl,hI⟩
theorem z13d (s:Nat) (jd:OA) (sd zd:Nat) (ac:OA) (cc ic:Nat) (H:zp) (K:KT)  {I:Nat→List Value→zp→Prop} {μ:Nat}:z1b I μ (z1a 0 (seqQ (exL Tryz.prog z4s (cr (cr (cr (cr (zq Tryz.f168))))) 112 112 []) (retK Tryz.prog Tryz.f168 K))) (.exit 0) (.pointer (some ⟨s,0,none⟩)::ud6 (.slice jd sd zd::.slice ac cc ic::ud98 [])) H=
 (Br (((cc:Int):Int)==0) (K (.tuple #[.slice jd sd zd,.slice ac cc ic,.bool true]) H) (z1n (exL Tryz.prog z4s (cl (cl (cr (cl (cr (cr (cr (cr (cr (zq Tryz.f168)))))))))) 1409 112 [(2,385)]) (.pointer (some ⟨s,0,none⟩)::ud6 (.slice jd sd zd::.slice ac cc ic::ud::.int .i64 0::ud96 [])) H (z1a 2 (seqQ (exL Tryz.prog z4s (cr (cr (cr (cr (cr (cr (zq Tryz.f168))))))) 112 112 []) (retK Tryz.prog Tryz.f168 K))))):=by kernel_rfl
abbrev zk3 (ac:OA) (ic cc:Nat) (jd:OA) (zd sd s:Nat) (k:Int)  :List Value:=(.pointer (some ⟨s,0,none⟩)::ud6 (.slice jd sd zd::.slice ac cc ic::ud::.int .i64 k::ud96 []))
theorem z1i0 (ac:OA) (ic cc:Nat) (jd:OA) (zd sd s:Nat) (k:Int)  (H:zp) (R:Post):exL Tryz.prog z4s (cl (cl (cr (cl (cr (cr (cr (cr (cr (zq Tryz.f168)))))))))) 1409 112 [(2,385)] (zk3 ac ic cc jd zd sd s k) H R=
 (∃sj:OA,∃(qj yj:Nat),  rdC H s 0=some (.slice sj qj yj)∧Br (decide ((k:Int)<(qj:Int))) (∃cp:OA,∃(dp ip:Nat),  rdC H s 0=some (.slice cp dp ip)∧(0:Int)≤k∧k<(dp:Int)∧∃b9 f3,(cp:OA)=some ⟨b9,f3,none⟩∧∃x5:Nat,  rdC H b9 (f3+(k:Int).toNat*1)=some (.float .f32 x5)∧zj7 jd sd zd ac cc ic k x5 H fun  (H7:zp)=>R .normal (.pointer (some ⟨s,0,none⟩)::ud6 (.slice jd sd zd::.slice ac cc ic::ud::.int .i64 (IntKind.wrap .i64 (k+1))::ud96 [])) H7) (R (.exit 2) (.pointer (some ⟨s,0,none⟩)::ud6 (.slice jd sd zd::.slice ac cc ic::ud98 [])) H)):=by kernel_rfl
def zx1 (ac:OA) (ic cc:Nat) (jd:OA) (zd sd s:Nat) (Inv:Nat→Int→zp→Prop):Nat→List Value→zp→Prop:=fun μ tm H=>∃k:Int,tm=(zk3 ac ic cc jd zd sd s k)∧Inv μ k H
theorem z1hs (ac:OA) (ic cc:Nat) (jd:OA) (zd sd s:Nat) {Q:Post} (Inv:Nat→Int→zp→Prop) (ν:Nat) (k:Int)  (H:zp) (h0:Inv ν k H)
  (hs:∀(μ:Nat) (k:Int)  (H:zp),Inv μ k H→exL Tryz.prog z4s (cl (cl (cr (cl (cr (cr (cr (cr (cr (zq Tryz.f168)))))))))) 1409 112 [(2,385)] (zk3 ac ic cc jd zd sd s k) H (z1b (zx1 ac ic cc jd zd sd s Inv) μ Q)):z1n (exL Tryz.prog z4s (cl (cl (cr (cl (cr (cr (cr (cr (cr (zq Tryz.f168)))))))))) 1409 112 [(2,385)]) (zk3 ac ic cc jd zd sd s k) H Q:=
 ⟨zx1 ac ic cc jd zd sd s Inv,ν,⟨k,rfl,h0⟩,fun μ tm H h=>by obtain ⟨k,rfl,hI⟩:=h;exact hs μ k  H hI⟩
theorem z1hv {ac:OA} {ic cc:Nat} {jd:OA} {zd sd s:Nat} {Q:Post} {Inv:Nat→Int→zp→Prop} {μ:Nat} (μ':Nat) {k:Int}  {H:zp} (hm:μ'<μ) (hI:Inv μ' k H):z1b (zx1 ac ic cc jd zd sd s Inv) μ Q .normal (zk3 ac ic cc jd zd sd s k) H:=⟨μ',hm,k,rfl,hI⟩
theorem z13e (ac:OA) (ic cc:Nat) (jd:OA) (zd sd s:Nat) (H:zp) (K:KT)  {I:Nat→List Value→zp→Prop} {μ:Nat}:z1b I μ (z1a 2 (seqQ (exL Tryz.prog z4s (cr (cr (cr (cr (cr (cr (zq Tryz.f168))))))) 112 112 []) (retK Tryz.prog Tryz.f168 K))) (.exit 2) (.pointer (some ⟨s,0,none⟩)::ud6 (.slice jd sd zd::.slice ac cc ic::ud98 [])) H=
 (z1n (exL Tryz.prog z4s (cl (cl (cr (cl (cr (cr (cr (cr (cr (cr (zq Tryz.f168))))))))))) 2433 112 [(4,385)]) (.pointer (some ⟨s,0,none⟩)::ud6 (.slice jd sd zd::.slice ac cc ic::ud2 (.int .i64 0::ud95 []))) H (z1a 4 (seqQ (exL Tryz.prog z4s (cr (cr (cr (cr (cr (cr (cr (zq Tryz.f168)))))))) 112 112 []) (retK Tryz.prog Tryz.f168 K)))):=by kernel_rfl
abbrev zk4 (ac:OA) (ic cc:Nat) (jd:OA) (zd sd s:Nat) (jf:Int)  :List Value:=(.pointer (some ⟨s,0,none⟩)::ud6 (.slice jd sd zd::.slice ac cc ic::ud2 (.int .i64 jf::ud95 [])))
theorem z1i1 (ac:OA) (ic cc:Nat) (jd:OA) (zd sd s:Nat) (jf:Int)  (H:zp) (R:Post):exL Tryz.prog z4s (cl (cl (cr (cl (cr (cr (cr (cr (cr (cr (zq Tryz.f168))))))))))) 2433 112 [(4,385)] (zk4 ac ic cc jd zd sd s jf) H R=
 (Br (decide ((jf:Int)<(sd:Int))) ((0:Int)≤jf∧jf<(sd:Int)∧∃b10 f4,(jd:OA)=some ⟨b10,f4,none⟩∧∃x6:Nat,  rdC H b10 (f4+(jf:Int).toNat*1)=some (.float .f32 x6)∧∃x7:Nat,  rdC H s 1=some (.float .f32 x7)∧(0:Int)≤jf∧jf<(sd:Int)∧∃b11 f5,(jd:OA)=some ⟨b11,f5,none⟩∧isOwn H b11∧(∃l,rdN H b11 (f5+(jf:Int).toNat*1) 1=some l)∧Lt (setC H b11 (f5+(jf:Int).toNat*1) (.float .f32 (fmul .f32 x6 x7))) fun H8=>R .normal (.pointer (some ⟨s,0,none⟩)::ud6 (.slice jd sd zd::.slice ac cc ic::ud2 (.int .i64 (IntKind.wrap .i64 (jf+1))::ud95 []))) H8) (R (.exit 4) (.pointer (some ⟨s,0,none⟩)::ud6 (.slice jd sd zd::.slice ac cc ic::ud98 [])) H)):=by kernel_rfl
def zx2 (ac:OA) (ic cc:Nat) (jd:OA) (zd sd s:Nat) (Inv:Nat→Int→zp→Prop):Nat→List Value→zp→Prop:=fun μ tm H=>∃jf:Int,tm=(zk4 ac ic cc jd zd sd s jf)∧Inv μ jf H
theorem z1ht (ac:OA) (ic cc:Nat) (jd:OA) (zd sd s:Nat) {Q:Post} (Inv:Nat→Int→zp→Prop) (ν:Nat) (jf:Int)  (H:zp) (h0:Inv ν jf H)
  (hs:∀(μ:Nat) (jf:Int)  (H:zp),Inv μ jf H→exL Tryz.prog z4s (cl (cl (cr (cl (cr (cr (cr (cr (cr (cr (zq Tryz.f168))))))))))) 2433 112 [(4,385)] (zk4 ac ic cc jd zd sd s jf) H (z1b (zx2 ac ic cc jd zd sd s Inv) μ Q)):z1n (exL Tryz.prog z4s (cl (cl (cr (cl (cr (cr (cr (cr (cr (cr (zq Tryz.f168))))))))))) 2433 112 [(4,385)]) (zk4 ac ic cc jd zd sd s jf) H Q:=
 ⟨zx2 ac ic cc jd zd sd s Inv,ν,⟨jf,rfl,h0⟩,fun μ tm H h=>by obtain ⟨jf,rfl,hI⟩:=h;exact hs μ jf  H hI⟩
theorem z1hw {ac:OA} {ic cc:Nat} {jd:OA} {zd sd s:Nat} {Q:Post} {Inv:Nat→Int→zp→Prop} {μ:Nat} (μ':Nat) {jf:Int}  {H:zp} (hm:μ'<μ) (hI:Inv μ' jf H):z1b (zx2 ac ic cc jd zd sd s Inv) μ Q .normal (zk4 ac ic cc jd zd sd s jf) H:=⟨μ',hm,jf,rfl,hI⟩
theorem z13f (ac:OA) (ic cc:Nat) (jd:OA) (zd sd s:Nat) (H:zp) (K:KT)  {I:Nat→List Value→zp→Prop} {μ:Nat}:z1b I μ (z1a 4 (seqQ (exL Tryz.prog z4s (cr (cr (cr (cr (cr (cr (cr (zq Tryz.f168)))))))) 112 112 []) (retK Tryz.prog Tryz.f168 K))) (.exit 4) (.pointer (some ⟨s,0,none⟩)::ud6 (.slice jd sd zd::.slice ac cc ic::ud98 [])) H=
 (z1n (exL Tryz.prog z4s (cl (cl (cr (cl (cr (cr (cr (cr (cr (cr (cr (zq Tryz.f168)))))))))))) 4481 112 [(6,384)]) (.pointer (some ⟨s,0,none⟩)::ud6 (.slice jd sd zd::.slice ac cc ic::ud3 (.int .i64 0::ud94 []))) H (z1a 6 (seqQ (exL Tryz.prog z4s (cr (cr (cr (cr (cr (cr (cr (cr (zq Tryz.f168))))))))) 112 112 []) (retK Tryz.prog Tryz.f168 K)))):=by kernel_rfl
abbrev zk5 (ac:OA) (ic cc:Nat) (jd:OA) (zd sd s:Nat) (jh:Int)  :List Value:=(.pointer (some ⟨s,0,none⟩)::ud6 (.slice jd sd zd::.slice ac cc ic::ud3 (.int .i64 jh::ud94 [])))
theorem z1i2 (ac:OA) (ic cc:Nat) (jd:OA) (zd sd s:Nat) (jh:Int)  (H:zp) (R:Post):exL Tryz.prog z4s (cl (cl (cr (cl (cr (cr (cr (cr (cr (cr (cr (zq Tryz.f168)))))))))))) 4481 112 [(6,384)] (zk5 ac ic cc jd zd sd s jh) H R=
 (Br (decide ((jh:Int)<(cc:Int))) ((0:Int)≤jh∧jh<(cc:Int)∧∃b12 f6,(ac:OA)=some ⟨b12,f6,none⟩∧∃x8:Nat,  rdC H b12 (f6+(jh:Int).toNat*1)=some (.float .f32 x8)∧∃x9:Nat,  rdC H s 1=some (.float .f32 x9)∧(0:Int)≤jh∧jh<(cc:Int)∧∃b13 f7,(ac:OA)=some ⟨b13,f7,none⟩∧isOwn H b13∧(∃l,rdN H b13 (f7+(jh:Int).toNat*1) 1=some l)∧Lt (setC H b13 (f7+(jh:Int).toNat*1) (.float .f32 (fdiv .f32 x8 x9))) fun H9=>R .normal (.pointer (some ⟨s,0,none⟩)::ud6 (.slice jd sd zd::.slice ac cc ic::ud3 (.int .i64 (IntKind.wrap .i64 (jh+1))::ud94 []))) H9) (R (.exit 6) (ud7 (.slice jd sd zd::.slice ac cc ic::ud98 [])) H)):=by kernel_rfl
def zx3 (ac:OA) (ic cc:Nat) (jd:OA) (zd sd s:Nat) (Inv:Nat→Int→zp→Prop):Nat→List Value→zp→Prop:=fun μ tm H=>∃jh:Int,tm=(zk5 ac ic cc jd zd sd s jh)∧Inv μ jh H
theorem z1hu (ac:OA) (ic cc:Nat) (jd:OA) (zd sd s:Nat) {Q:Post} (Inv:Nat→Int→zp→Prop) (ν:Nat) (jh:Int)  (H:zp) (h0:Inv ν jh H)
  (hs:∀(μ:Nat) (jh:Int)  (H:zp),Inv μ jh H→exL Tryz.prog z4s (cl (cl (cr (cl (cr (cr (cr (cr (cr (cr (cr (zq Tryz.f168)))))))))))) 4481 112 [(6,384)] (zk5 ac ic cc jd zd sd s jh) H (z1b (zx3 ac ic cc jd zd sd s Inv) μ Q)):z1n (exL Tryz.prog z4s (cl (cl (cr (cl (cr (cr (cr (cr (cr (cr (cr (zq Tryz.f168)))))))))))) 4481 112 [(6,384)]) (zk5 ac ic cc jd zd sd s jh) H Q:=
 ⟨zx3 ac ic cc jd zd sd s Inv,ν,⟨jh,rfl,h0⟩,fun μ tm H h=>by obtain ⟨jh,rfl,hI⟩:=h;exact hs μ jh  H hI⟩
theorem z1hx {ac:OA} {ic cc:Nat} {jd:OA} {zd sd s:Nat} {Q:Post} {Inv:Nat→Int→zp→Prop} {μ:Nat} (μ':Nat) {jh:Int}  {H:zp} (hm:μ'<μ) (hI:Inv μ' jh H):z1b (zx3 ac ic cc jd zd sd s Inv) μ Q .normal (zk5 ac ic cc jd zd sd s jh) H:=⟨μ',hm,jh,rfl,hI⟩
theorem z13g (ac:OA) (ic cc:Nat) (jd:OA) (zd sd:Nat) (H:zp) (K:KT)  {I:Nat→List Value→zp→Prop} {μ:Nat}:z1b I μ (z1a 6 (seqQ (exL Tryz.prog z4s (cr (cr (cr (cr (cr (cr (cr (cr (zq Tryz.f168))))))))) 112 112 []) (retK Tryz.prog Tryz.f168 K))) (.exit 6) (ud7 (.slice jd sd zd::.slice ac cc ic::ud98 [])) H=
 (zcg jd sd zd H fun (r1:Bool) (H10:zp)=>Br r1 (zcg ac cc ic H10 fun (r2:Bool) (H11:zp)=>K (.tuple #[.slice jd sd zd,.slice ac cc ic,.bool r2]) H11) (K (.tuple #[.slice jd sd zd,.slice ac cc ic,.bool false]) H10)):=by kernel_rfl
theorem zzp:∀g,FnOk Tryz.prog g (z4s g):=FnOk.envOf (by
 intro x hx
 simp only [List.mem_cons,List.not_mem_nil,or_false] at hx
 rcases hx with rfl | rfl
 ·exact zvx
 ·exact f11z_ok)
theorem ω12 {P:Prop} (h:P:=by first | omega | (simp;done) | (simp;omega) | (first | (have:=tm2t (by assumption) (by omega);simp only [List.length_append,List.length_cons,List.length_nil];omega) | (have:=tm2f (by assumption) (by omega);simp only [List.length_append,List.length_cons,List.length_nil];omega))):P:=h
theorem ω4 {P:Prop} (h:P:=by first | omega | (first | (have:=tm2t (by assumption) (by omega);simp only [List.length_append,List.length_cons,List.length_nil];omega) | (have:=tm2f (by assumption) (by omega);simp only [List.length_append,List.length_cons,List.length_nil];omega)) | (simp only [List.length_append,List.length_cons,List.length_nil,List.length_set];done) | (simp only [List.length_append,List.length_cons,List.length_nil,List.length_set];omega)):P:=h
theorem z13c (s:Nat) (zb:OA) (vb jc:Nat) (H:zp) (K:KT) (h:T_fkz s zb vb jc H fun (od:OA) (xd:Nat) (vd:Nat) (nh:OA) (wh:Nat) (vh:Nat) (r3:Bool) (H':zp)=>K (.tuple #[.slice od xd vd,.slice nh wh vh,.bool r3]) H'):zw Tryz.prog z4s Tryz.f168 [.pointer (some ⟨s,0,none⟩),.slice zb vb jc] H K:=by
 rw [z1i3]
 obtain ⟨jb,qb,tb,xa,aa,ab,i_s,dc,i_list,bd_183,bd_184,hk⟩:=h
 obtain rfl:=dc.eqn
 obtain rfl:=i_list.eqn
 have e:(z3g aa xa ab)=_:=rfl
 have e:=e.trans (zpj aa xa ab)
 have g0:=Grow.refl H
 refine Al.intro (fun b_1 H_1 hb_2 hl_3 g_4 o_5=>?_)
 have o_5:Own H_1 b_1 ((([]:LN)).map fF):=o_5
 have l_7:=g_4.1
 have g_8:=g0.trans g_4
 have l_9:=g_8.1
 have w182:=o_5.lt
 refine Al.intro (fun b_10 H_2 hb_11 hl_12 g_13 o_14=>?_)
 have o_14:Own H_2 b_10 ((([]:LN)).map fF):=o_14
 have l_16:=g_13.1
 have g_17:=g_8.trans g_13
 have l_18:=g_17.1
 have o_19:=o_5.grow g_13
 have w20:=o_19.lt
 have w181:=o_14.lt
 refine z1hr _ _ _ _ (fun (μ:Nat) (jd:OA) (sd:Nat) (zd:Nat) (ac:OA) (cc:Nat) (ic:Nat) (i:Int) (H_3:zp)=>∃ye:LN,∃b_21:Nat,∃td:LN,∃b_23:Nat,jd=some ⟨b_21,0,none⟩∧sd=ye.length∧zd=1∧Own H_3 b_21 (ye.map fF)∧ac=some ⟨b_23,0,none⟩∧cc=td.length∧ic=1∧Own H_3 b_23 (td.map fF)∧(b_23≠b_21)∧Grow H H_3∧H.length≤b_21∧H.length≤b_23∧(0:Int)≤i∧i≤(ab.length:Int)∧(ye.length:Int)≤i-(0:Int)+0∧(td.length:Int)≤i-(0:Int)+0∧(ye.length:Int)=(i+1) / 2∧(td.length:Int)=i / 2∧(ab.length:Int)-i≤(μ:Int)∧z3g aa xa ab=z9z aa xa ab (μ+1) ye td i) (Int.toNat ((ab.length:Int)-(0:Int))) _ _ _ _ _ _ _ H_2 ?_ ?_
 ·exact ⟨_,_,_,_,rfl,ω5,rfl,o_19,rfl,ω5,rfl,o_14,ω2,g_17,ω2,ω2,ω12,ω12,ω12,ω12,ω12,ω12,ω2,e⟩
 ·intro μ jd sd zd ac cc ic i  H_3 hI
  obtain ⟨ye,b_21,td,b_23,rfl,rfl,rfl,o22,rfl,rfl,rfl,o24,n25,g26,l27,l28,v_29,v_30,v_31,v_32,v_33,v_34,hμ,e⟩:=hI
  rw [z1hz]
  have e:=e.trans (zgn aa xa ab μ ye td i)
  have w35:=o22.lt
  have w36:=o24.lt
  have l37:=g26.1
  refine Br.intro (fun c_38=>?_) (fun c_38=>?_)
  ·have e:=e.trans (zv c_38)
   have c_38':=odt c_38
   refine ⟨ω23,?_⟩
   have z39:=za0 i 2
   have z40:=zcb i 2
   refine Br.intro (fun c41=>?_) (fun c41=>?_)
   ·have e:=e.trans (zv c41)
    have c_41':=za1 c41
    obtain ⟨b42,f43,q44⟩:=((i_list.grow g26)).pos ω0
    refine ⟨by omega,by omega,b42,f43,q44,?_⟩
    refine ⟨((ab).getD (i:Int).toNat 0),(i_list).rd g26 q44 ω2 _,?_⟩
    refine Al.intro (fun b45 H_4 hb_46 hl_47 g_48 o49=>?_)
    have o49:Own H_4 b45 (([(((ab).getD (i:Int).toNat 0))]).map fF):=o49
    have l51:=g_48.1
    have g52:=g26.trans g_48
    have l53:=g52.1
    have o54:=o22.grow g_48
    have w55:=o54.lt
    have o56:=o24.grow g_48
    have w57:=o56.lt
    have w72:=o49.lt
    refine ⟨_,_,o54.ownB ω3 rfl,(z2t (o49.isL ω5)),(fun h=>by cases h),ω25,?_⟩
    refine Ap.app o54 rfl rfl (fun b62 H_5 q70 hl_58 o59 k60=>?_)
    have o59:=z2l o59
    have l63:=k60.1
    have g64:=g52.keep (b:=b_21) ω2 k60
    have l65:=g64.1
    have o66:=o56.keep ω2 k60
    have w67:=o66.lt
    have o68:=o49.keep ω2 k60
    have w69:=o68.lt
    have w71:=o59.lt
    rw [show IntKind.wrap .i64 (i+1)=(i+1) from zt ω2 ω2]
    refine z19k (μ-1) ω15 ⟨_,_,_,_,rfl,ω8,rfl,o59,rfl,ω5,rfl,o66,ω2,g64,ω2,ω2,ω4,ω4,ω4,ω4,ω4,ω4,ω15,ω13⟩
   ·have e:=e.trans (zu c41)
    have c_41':=z8s c41
    obtain ⟨b73,f74,q75⟩:=((i_list.grow g26)).pos ω0
    refine ⟨by omega,by omega,b73,f74,q75,?_⟩
    refine ⟨((ab).getD (i:Int).toNat 0),(i_list).rd g26 q75 ω2 _,?_⟩
    refine Al.intro (fun b76 H_6 hb_77 hl_78 g79 o80=>?_)
    have o80:Own H_6 b76 (([(((ab).getD (i:Int).toNat 0))]).map fF):=o80
    have l82:=g79.1
    have g83:=g26.trans g79
    have l84:=g83.1
    have o85:=o22.grow g79
    have w86:=o85.lt
    have o87:=o24.grow g79
    have w88:=o87.lt
    have w103:=o80.lt
    refine ⟨_,_,o87.ownB ω3 rfl,(z2t (o80.isL ω5)),(fun h=>by cases h),ω25,?_⟩
    refine Ap.app o87 rfl rfl (fun b93 H_7 q101 hl_89 o90 k91=>?_)
    have o90:=z2l o90
    have l94:=k91.1
    have g95:=g83.keep (b:=b_23) ω2 k91
    have l96:=g95.1
    have o97:=o85.keep ω2 k91
    have w98:=o97.lt
    have o99:=o80.keep ω2 k91
    have w100:=o99.lt
    have w102:=o90.lt
    rw [show IntKind.wrap .i64 (i+1)=(i+1) from zt ω2 ω2]
    refine z19k (μ-1) ω15 ⟨_,_,_,_,rfl,ω5,rfl,o97,rfl,ω8,rfl,o90,ω2,g95,ω2,ω2,ω4,ω4,ω4,ω4,ω4,ω4,ω15,ω13⟩
  ·have e:=e.trans (zu c_38)
   have c_38':=odf c_38
   rw [z13d]
   refine Br.intro (fun c104=>?_) (fun c104=>?_)
   ·have e:=e.trans (zv c104)
    have c_104':=za1 c104
    rw [e] at hk
    exact hk _ _ _ _ _ _ H_3 g26 (o22.ownS ω5 ω2) (o24.ownS ω5 ω2) (fun x y hx hy=>by cases hx;cases hy;intro hh;dsimp only at hh;omega)
   ·have e:=e.trans (zu c104)
    have c_104':=z8s c104
    refine z1hs _ _ _ _ _ _ _ (fun (μ2:Nat) (k:Int) (H_8:zp)=>∃(y2_1 y2_2:LN),Own H_8 b_21 (y2_1.map fF)∧y2_1.length=ye.length∧Own H_8 b_23 (y2_2.map fF)∧y2_2.length=td.length∧(b_23≠b_21)∧Grow H H_8∧(0:Int)≤k∧k≤(aa.length:Int)∧(aa.length:Int)-k≤(μ2:Int)∧z3g aa xa ab=zbp aa xa ab ye td i (fun (k:Int) (y2_1:LN) (y2_2:LN)=>(z6x aa xa ab ye td i k y2_1 y2_2 (fun (jf:Int) (y3_1:LN) (y3_2:LN)=>(z5f aa xa ab ye td i k y2_1 y2_2 jf y3_1 y3_2 (fun (jh:Int) (y4_1:LN)=>(bif (z1v y3_1) then (y3_1,y4_1,(z1v y4_1)) else (y3_1,y4_1,false))) (Int.toNat ((td.length:Int)-(0:Int))+1) (0:Int) y3_2)) (Int.toNat ((ye.length:Int)-(0:Int))+1) (0:Int) y2_1 y2_2)) (μ2+1) k y2_1 y2_2) (Int.toNat ((aa.length:Int)-(0:Int))) _ H_3 ?_ ?_
    ·exact ⟨_,_,o22,ω18,o24,ω18,ω2,g26,ω7,ω7,ω2,e⟩
    ·intro μ2 k  H_8 hI
     obtain ⟨y2_1,y2_2,o105,y106,o107,y108,n109,g110,v111,v112,hμ,e⟩:=hI
     rw [z1i0]
     have e:=e.trans (zgo aa xa ab ye td i (fun (k:Int) (y2_1:LN) (y2_2:LN)=>(z6x aa xa ab ye td i k y2_1 y2_2 (fun (jf:Int) (y3_1:LN) (y3_2:LN)=>(z5f aa xa ab ye td i k y2_1 y2_2 jf y3_1 y3_2 (fun (jh:Int) (y4_1:LN)=>(bif (z1v y3_1) then (y3_1,y4_1,(z1v y4_1)) else (y3_1,y4_1,false))) (Int.toNat ((td.length:Int)-(0:Int))+1) (0:Int) y3_2)) (Int.toNat ((ye.length:Int)-(0:Int))+1) (0:Int) y2_1 y2_2)) μ2 k y2_1 y2_2)
     have w113:=o105.lt
     have w114:=o107.lt
     have l115:=g110.1
     refine ⟨jb,aa.length,tb,(z1l (zr g110 i_s) 0 (nbl rfl)).trans rfl,?_⟩
     refine Br.intro (fun c116=>?_) (fun c116=>?_)
     ·have e:=e.trans (zv c116)
      have c_116':=odt c116
      refine ⟨jb,aa.length,tb,(z1l (zr g110 i_s) 0 (nbl rfl)).trans rfl,?_⟩
      obtain ⟨b117,f_118,q119⟩:=((dc.grow g110)).pos ω0
      refine ⟨by omega,by omega,b117,f_118,q119,?_⟩
      refine ⟨((aa).getD (k:Int).toNat 0),(dc).rd g110 q119 ω2 _,?_⟩
      refine zo1 ⟨_,_,_,_,(o105.ownS ω5 (Nat.le_refl _)),(o107.ownS ω5 (Nat.le_refl _)),(fun x y hx hy=>by cases hx;cases hy;intro hh;dsimp only at hh;omega),ω0,ω0,ω9,ω9,(fun H_10 k120 o121 o122=>?_)⟩
      obtain ⟨H_9,k123,k124⟩:=k120.split
      have k125:=k123.keep1
      have l126:=k125.1
      have g127:=g110.keep (b:=b_21) ω2 k125
      have l128:=g127.1
      have o129:=o107.keep ω2 k125
      have w130:=o129.lt
      have k131:=k124.keep1
      have l132:=k131.1
      have g133:=g127.keep (b:=b_23) ω2 k131
      have l134:=g133.1
      have o135:=o121.own1
      have w136:=o135.lt
      have o137:=o122.own1
      have w138:=o137.lt
      rw [show IntKind.wrap .i64 (k+1)=(k+1) from zt ω2 ω2]
      refine z1hv (μ2-1) ω15 ⟨_,_,o135,ω14,o137,ω14,ω2,g133,ω1,ω1,ω15,ω28⟩
     ·have e:=e.trans (zu c116)
      have c_116':=odf c116
      rw [z13e]
      refine z1ht _ _ _ _ _ _ _ (fun (μ3:Nat) (jf:Int) (H_11:zp)=>∃(y3_1 y3_2:LN),Own H_11 b_21 (y3_1.map fF)∧y3_1.length=ye.length∧Own H_11 b_23 (y3_2.map fF)∧y3_2.length=td.length∧(b_23≠b_21)∧Grow H H_11∧(0:Int)≤jf∧jf≤(ye.length:Int)∧(ye.length:Int)-jf≤(μ3:Int)∧z3g aa xa ab=z6x aa xa ab ye td i k y2_1 y2_2 (fun (jf:Int) (y3_1:LN) (y3_2:LN)=>(z5f aa xa ab ye td i k y2_1 y2_2 jf y3_1 y3_2 (fun (jh:Int) (y4_1:LN)=>(bif (z1v y3_1) then (y3_1,y4_1,(z1v y4_1)) else (y3_1,y4_1,false))) (Int.toNat ((td.length:Int)-(0:Int))+1) (0:Int) y3_2)) (μ3+1) jf y3_1 y3_2) (Int.toNat ((ye.length:Int)-(0:Int))) _ H_8 ?_ ?_
      ·exact ⟨_,_,o105,ω18,o107,ω18,ω2,g110,ω7,ω7,ω2,e⟩
      ·intro μ3 jf  H_11 hI
       obtain ⟨y3_1,y3_2,o139,y140,o141,y142,n143,g144,v145,v146,hμ,e⟩:=hI
       rw [z1i1]
       have e:=e.trans (zgp aa xa ab ye td i k y2_1 y2_2 (fun (jf:Int) (y3_1:LN) (y3_2:LN)=>(z5f aa xa ab ye td i k y2_1 y2_2 jf y3_1 y3_2 (fun (jh:Int) (y4_1:LN)=>(bif (z1v y3_1) then (y3_1,y4_1,(z1v y4_1)) else (y3_1,y4_1,false))) (Int.toNat ((td.length:Int)-(0:Int))+1) (0:Int) y3_2)) μ3 jf y3_1 y3_2)
       have w147:=o139.lt
       have w148:=o141.lt
       have l149:=g144.1
       refine Br.intro (fun c150=>?_) (fun c150=>?_)
       ·have e:=e.trans (zv c150)
        have c_150':=odt c150
        refine ⟨by omega,ω2,_,_,rfl,?_⟩
        refine ⟨((y3_1).getD (jf:Int).toNat 0),o139.rd ω0 _,?_⟩
        refine ⟨xa,(z1l (zr g144 i_s) 1 (nbl rfl)).trans rfl,?_⟩
        refine ⟨by omega,ω2,_,_,rfl,?_⟩
        refine Lt.set o139 ω11 (fun H_12 hl_151 o153 k152=>?_)
        have o153:=map_set o153
        have l154:=k152.1
        have g155:=g144.keep (b:=b_21) ω2 k152
        have l156:=g155.1
        have o157:=o141.keep ω2 k152
        have w158:=o157.lt
        have w159:=o153.lt
        rw [show IntKind.wrap .i64 (jf+1)=(jf+1) from zt ω2 ω2]
        refine z1hw (μ3-1) ω15 ⟨_,_,o153,ω14,o157,ω14,ω2,g155,ω1,ω1,ω15,ω29⟩
       ·have e:=e.trans (zu c150)
        have c_150':=odf c150
        rw [z13f]
        refine z1hu _ _ _ _ _ _ _ (fun (μ4:Nat) (jh:Int) (H_13:zp)=>∃y4_1:LN,Own H_13 b_21 ((y3_1).map fF)∧Own H_13 b_23 (y4_1.map fF)∧y4_1.length=td.length∧(b_23≠b_21)∧Grow H H_13∧(0:Int)≤jh∧jh≤(td.length:Int)∧(td.length:Int)-jh≤(μ4:Int)∧z3g aa xa ab=z5f aa xa ab ye td i k y2_1 y2_2 jf y3_1 y3_2 (fun (jh:Int) (y4_1:LN)=>(bif (z1v y3_1) then (y3_1,y4_1,(z1v y4_1)) else (y3_1,y4_1,false))) (μ4+1) jh y4_1) (Int.toNat ((td.length:Int)-(0:Int))) _ H_11 ?_ ?_
        ·exact ⟨_,o139,o141,ω18,ω2,g144,ω7,ω7,ω2,e⟩
        ·intro μ4 jh  H_13 hI
         obtain ⟨y4_1,o160,o161,y162,n163,g164,v165,v166,hμ,e⟩:=hI
         rw [z1i2]
         have e:=e.trans (zgq aa xa ab ye td i k y2_1 y2_2 jf y3_1 y3_2 (fun (jh:Int) (y4_1:LN)=>(bif (z1v y3_1) then (y3_1,y4_1,(z1v y4_1)) else (y3_1,y4_1,false))) μ4 jh y4_1)
         have w167:=o160.lt
         have w168:=o161.lt
         have l169:=g164.1
         refine Br.intro (fun c170=>?_) (fun c170=>?_)
         ·have e:=e.trans (zv c170)
          have c_170':=odt c170
          refine ⟨by omega,ω2,_,_,rfl,?_⟩
          refine ⟨((y4_1).getD (jh:Int).toNat 0),o161.rd ω0 _,?_⟩
          refine ⟨xa,(z1l (zr g164 i_s) 1 (nbl rfl)).trans rfl,?_⟩
          refine ⟨by omega,ω2,_,_,rfl,?_⟩
          refine Lt.set o161 ω11 (fun H_14 hl_171 o173 k172=>?_)
          have o173:=map_set o173
          have l174:=k172.1
          have g175:=g164.keep (b:=b_23) ω2 k172
          have l176:=g175.1
          have o177:=o160.keep ω2 k172
          have w178:=o177.lt
          have w179:=o173.lt
          rw [show IntKind.wrap .i64 (jh+1)=(jh+1) from zt ω2 ω2]
          refine z1hx (μ4-1) ω15 ⟨_,o177,o173,ω14,ω2,g175,ω1,ω1,ω15,ω30⟩
         ·have e:=e.trans (zu c170)
          have c_170':=odf c170
          rw [z13g]
          refine zaz ⟨_,(o160.isL ω5),ω0,?_⟩
          refine Br.intro (fun c180=>?_) (fun c180=>?_)
          ·have e:=e.trans (zv c180)
           refine zaz ⟨_,(o161.isL ω5),ω0,?_⟩
           rw [e] at hk
           exact hk _ _ _ _ _ _ H_13 g164 (o160.ownS ω5 ω2) (o161.ownS ω5 ω2) (fun x y hx hy=>by cases hx;cases hy;intro hh;dsimp only at hh;omega)
          ·have e:=e.trans (zu c180)
           rw [e] at hk
           exact hk _ _ _ _ _ _ H_13 g164 (o160.ownS ω5 ω2) (o161.ownS ω5 ω2) (fun x y hx hy=>by cases hx;cases hy;intro hh;dsimp only at hh;omega)
theorem z1hy:FnOk Tryz.prog 168 S_fkz:=FnOk.bodyF mix_ok zzp Tryz.func168 rfl ω10 ω10 fun args H=>by
 unfold F_fkz
 split
 ·refine ⟨?_,?_,?_,?_,fun K hk=>z13c _ _ _ _ H K hk⟩
  ·intro K K' h hk;obtain ⟨jb,qb,tb,xa,aa,ab,i_s,dc,i_list,bd_183,bd_184,k⟩:=hk;exact ⟨jb,qb,tb,xa,aa,ab,i_s,dc,i_list,bd_183,bd_184,(fun od xd vd nh wh vh H' gg ow0 ow1 sp0_1=>h _ _ (k od xd vd nh wh vh H' gg ow0 ow1 sp0_1))⟩
  ·nofun
  ·intro K hk;obtain ⟨jb,qb,tb,xa,aa,ab,i_s,dc,i_list,bd_183,bd_184,k⟩:=hk;exact zxn fun a n e a2 n2 e2 H1 g o o2 sp=>⟨_,_,k a n e a2 n2 e2 H1 g o o2 sp⟩
  ·intro _ K hk;obtain ⟨jb,qb,tb,xa,aa,ab,i_s,dc,i_list,bd_183,bd_184,k⟩:=hk;exact ⟨jb,qb,tb,xa,aa,ab,i_s,dc,i_list,bd_183,bd_184,(fun od xd vd nh wh vh H' gg ow0 ow1 sp0_1=>⟨gg,k od xd vd nh wh vh H' gg ow0 ow1 sp0_1⟩)⟩
 ·exact Nice.no

def z3x (aa:LN) (xa:Nat) (ia ua:Int) (da:LN):Nat→Bool→Int→Int→Int→Int→Int→LN→Int×Int×LN×Bool
 | 0,_,_,_,_,_,_,_=>(0,0,[],false)
 | μ+1,t5,y,q1_1,q1_2,q1_4,q1_5,q1_6=>(bif decide ((y:Int)<ua) then (bif !((z3g aa xa ((((da).drop ((y*ia):Int).toNat).take ((((y+1)*ia):Int)-(y*ia)).toNat))).2.2) then ((0:Int),(0:Int),[],false) else (z3x aa xa ia ua da μ t5 (y+1) q1_1 q1_2 q1_4 q1_5 (((q1_6++(z3g aa xa ((((da).drop ((y*ia):Int).toNat).take ((((y+1)*ia):Int)-(y*ia)).toNat))).1)++(z3g aa xa ((((da).drop ((y*ia):Int).toNat).take ((((y+1)*ia):Int)-(y*ia)).toNat))).2.1)))) else (q1_4,q1_5,q1_6,true))
def zaj:=fun aa xa ia ua da μ t5 y q1_1 q1_2 q1_4 q1_5 q1_6=>@z3x.eq_2 aa xa ia ua da t5 y q1_1 q1_2 q1_4 q1_5 q1_6 μ
def z2v (aa:LN) (xa:Nat) (ia ua:Int) (da:LN):Int×Int×LN×Bool:=(z3x aa xa ia ua da (Int.toNat (ua-(0:Int))+1) false (0:Int) 0 0 ia ua ([]:LN))
def zel:=@z2v.eq_1
def zoc (s p:Nat) (H:zp) (K:Int→Int→OA→Nat→Nat→Bool→zp→Prop):Prop:=∃jb:OA,∃(qb tb xa:Nat),∃(ia ua:Int),∃db:OA,∃(ib nb:Nat),∃(aa da:LN),rdN H s 0 2=some [.slice jb qb tb,.float .f32 xa]∧rdN H p 0 3=some [.int .i64 ia,.int .i64 ua,.slice db ib nb]∧IsL fF H jb qb aa∧IsL fF H db ib da∧aa.length<1073741824∧da.length<1073741824∧1≤ia∧ia≤16∧1≤ua∧ua≤16∧(da.length:Int)=ia*ua∧((∀(ma:OA) (sa oa:Nat),∀H':zp,Grow H H'→OwnS fF H' H.length ma sa oa ((z2v aa xa ia ua da).2.2.1)→K ((z2v aa xa ia ua da).1) ((z2v aa xa ia ua da).2.1) ma sa oa ((z2v aa xa ia ua da).2.2.2) H'))
theorem z10y {s p:Nat} {H:zp} {K:Int→Int→OA→Nat→Nat→Bool→zp→Prop} (h:∃jb:OA,∃(qb tb xa:Nat),∃(ia ua:Int),∃db:OA,∃(ib nb:Nat),∃(aa da:LN),rdN H s 0 2=some [.slice jb qb tb,.float .f32 xa]∧rdN H p 0 3=some [.int .i64 ia,.int .i64 ua,.slice db ib nb]∧IsL fF H jb qb aa∧IsL fF H db ib da∧aa.length<1073741824∧da.length<1073741824∧1≤ia∧ia≤16∧1≤ua∧ua≤16∧(da.length:Int)=ia*ua∧((∀(ma:OA) (sa oa:Nat),∀H':zp,Grow H H'→OwnS fF H' H.length ma sa oa ((z2v aa xa ia ua da).2.2.1)→K ((z2v aa xa ia ua da).1) ((z2v aa xa ia ua da).2.1) ma sa oa ((z2v aa xa ia ua da).2.2.2) H'))):zoc s p H K:=h

theorem ze0 (ws:LN) (sc:Nat) (W Hi:Int) (l:LN) (h1:1≤W) (hl:(l.length:Int)=W*Hi):∀(μ:Nat) (t5:Bool) (y q1 q2 q4 q5:Int) (q6:LN),0≤y→y≤Hi→(z3x ws sc W Hi l μ t5 y q1 q2 q4 q5 q6).2.2.2=true→
  (z3x ws sc W Hi l μ t5 y q1 q2 q4 q5 q6).1=q4∧(z3x ws sc W Hi l μ t5 y q1 q2 q4 q5 q6).2.1=q5∧((z3x ws sc W Hi l μ t5 y q1 q2 q4 q5 q6).2.2.1.length:Int)=q6.length+(Hi-y)*W:=by
 intro μ
 induction μ with
 | zero=>intro t5 y q1 q2 q4 q5 q6 _ _ h;simp [z3x] at h
 | succ μ ih=>
  intro t5 y q1 q2 q4 q5 q6 h0 hy h
  rw [zaj] at h ⊢
  by_cases c:y<Hi
  ·have hr:=zyl (l:=l) h1 hl h0 c
   rw [dct c] at h ⊢
   simp only [cond_true] at h ⊢
   generalize ((((l).drop ((y*W):Int).toNat).take ((((y+1)*W):Int)-(y*W)).toNat))=r at *
   obtain ⟨a1,a2⟩:=zaq ws sc r
   cases hg:(z3g ws sc r).2.2 with
   | false=>rw [hg] at h;simp at h
   | true=>
    rw [hg] at h
    simp only [Bool.not_true,cond_false] at h ⊢
    obtain ⟨b1,b2,b3⟩:=ih t5 (y+1) q1 q2 q4 q5 _ ω2 ω2 h
    refine ⟨b1,b2,b3.trans ?_⟩
    simp only [List.length_append]
    have e3:(Hi-(y+1))*W=(Hi-y)*W-W:=by rw [show Hi-(y+1)=(Hi-y)-1 by omega,Int.sub_mul,Int.one_mul]
    omega
  ·rw [dcf c,cond_false]
   refine ⟨rfl,rfl,?_⟩
   rw [show Hi-y=0 by omega,Int.zero_mul];show (q6.length:Int)=_;omega
theorem zkk {ws:LN} {sc:Nat} {W Hi:Int} {l:LN} (h1:1≤W) (h3:1≤Hi) (hl:(l.length:Int)=W*Hi) (h:(z2v ws sc W Hi l).2.2.2=true):(z2v ws sc W Hi l).1=W∧(z2v ws sc W Hi l).2.1=Hi∧((z2v ws sc W Hi l).2.2.1.length:Int)=W*Hi:=by
 rw [zel] at h ⊢
 obtain ⟨a,b,c⟩:=ze0 ws sc W Hi l h1 hl _ _ _ _ _ _ _ _ ω2 ω2 h
 refine ⟨a,b,c.trans ?_⟩
 rw [show Hi-0=Hi by omega,Int.mul_comm];simp
def za8:Env:=envOf [(168,S_fkz)]
def z17g (args:List Value) (H:zp):(Value→zp→Prop)→Prop:=match args with
 | [.pointer (some ⟨s,0,none⟩),.pointer (some ⟨p,0,none⟩)]=>fun K=>zoc s p H fun (tc:Int) (nc:Int) (ma:OA) (sa:Nat) (oa:Nat) (r2:Bool) (H':zp)=>K (.tuple #[.agg #[.int .i64 tc,.int .i64 nc,.slice ma sa oa],.bool r2]) H'
 | _=>fun _=>False
def z18p:FSpec:={F:=z17g,quiet:=false,tame:=true}
theorem z1da (s p:Nat) (H:zp) (K:KT):zw Tryz.prog za8 Tryz.f152 [.pointer (some ⟨s,0,none⟩),.pointer (some ⟨p,0,none⟩)] H K=
 (Al [.int .i64 0,.int .i64 0,.slice none 0 0] H fun b1 H1=>∃x1:Int,  rdC H1 p 1=some (.int .i64 x1)∧∃x2:Int,  rdC H1 p 0=some (.int .i64 x2)∧Al [] H1 fun b2 H2=>Al [.int .i64 0,.int .i64 0,.slice none 0 0] H2 fun b3 H3=>isOwn H3 b3∧(∃l,rdN H3 b3 0 3=some l)∧Lt (setN H3 b3 0 [.int .i64 x2,.int .i64 x1,.slice (some ⟨b2,0,none⟩) 0 1]) fun H4=>z1n (exL Tryz.prog za8 (cl (cl (cr (cl (cr (cr (zq Tryz.f152))))))) 211 48 [(0,80)]) (.pointer (some ⟨s,0,none⟩)::.pointer (some ⟨p,0,none⟩)::ud2 (.pointer (some ⟨b1,0,none⟩)::ud::.pointer (some ⟨b3,0,none⟩)::.int .i64 0::ud59 [])) H4 (z1a 0 (seqQ (exL Tryz.prog za8 (cr (cr (cr (zq Tryz.f152)))) 48 48 []) (retK Tryz.prog Tryz.f152 K)))):=by kernel_rfl
abbrev zdq (b1 b3 p s:Nat) (y:Int)  :List Value:=(.pointer (some ⟨s,0,none⟩)::.pointer (some ⟨p,0,none⟩)::ud2 (.pointer (some ⟨b1,0,none⟩)::ud::.pointer (some ⟨b3,0,none⟩)::.int .i64 y::ud59 []))
theorem z1d9 (b1 b3 p s:Nat) (y:Int)  (H:zp) (R:Post):exL Tryz.prog za8 (cl (cl (cr (cl (cr (cr (zq Tryz.f152))))))) 211 48 [(0,80)] (zdq b1 b3 p s y) H R=
 (∃x3:Int,  rdC H p 1=some (.int .i64 x3)∧Br (decide ((y:Int)<x3)) (∃x4:Int,  rdC H p 0=some (.int .i64 x4)∧∃x5:Int,  rdC H p 0=some (.int .i64 x5)∧∃ai:OA,∃(zh ki:Nat),  rdC H p 2=some (.slice ai zh ki)∧(0:Int)≤IntKind.wrap .i64 (y*x5)∧IntKind.wrap .i64 (y*x5)≤IntKind.wrap .i64 ((IntKind.wrap .i64 (y+1))*x4)∧IntKind.wrap .i64 ((IntKind.wrap .i64 (y+1))*x4)≤(zh:Int)∧T_fkz s ((ai:OA).map fun a=>⟨a.block,a.off+(IntKind.wrap .i64 (y*x5):Int).toNat*1,none⟩) (((IntKind.wrap .i64 ((IntKind.wrap .i64 (y+1))*x4):Int)-IntKind.wrap .i64 (y*x5)).toNat) 0 H fun (a1:OA) (r1:Nat) (r2:Nat) (a2:OA) (r3:Nat) (r4:Nat) (r5:Bool) (H5:zp)=>Br (!r5) (isOwn H5 b1∧(∃l,rdN H5 b1 0 3=some l)∧Lt (setN H5 b1 0 [.int .i64 0,.int .i64 0,.slice none 0 0]) fun H6=>R .ret (ud4 (.pointer (some ⟨b1,0,none⟩)::.bool false::ud61 [])) H6) (∃rj:OA,∃(vi rk:Nat),  rdC H5 b3 2=some (.slice rj vi rk)∧∃o1 w1:List Value,ownB H5 rj vi rk 1=some o1∧rdS H5 a1 (r1*1)=some w1∧((rj:OA)=none→0<(r1:Nat))∧(vi:Nat)+r1<most∧Ap H5 (z3c H5 rj++[some ⟨o1++w1,true⟩]) fun b4 H7=>isOwn H7 b3∧(∃l,rdN H7 b3 2 1=some l)∧Lt (setC H7 b3 2 (.slice (some ⟨b4,0,none⟩) (vi+r1) 1)) fun H8=>∃tj:OA,∃(uj tk:Nat),  rdC H8 b3 2=some (.slice tj uj tk)∧∃o2 w2:List Value,ownB H8 tj uj tk 1=some o2∧rdS H8 a2 (r3*1)=some w2∧((tj:OA)=none→0<(r3:Nat))∧(uj:Nat)+r3<most∧Ap H8 (z3c H8 tj++[some ⟨o2++w2,true⟩]) fun b5 H9=>isOwn H9 b3∧(∃l,rdN H9 b3 2 1=some l)∧Lt (setC H9 b3 2 (.slice (some ⟨b5,0,none⟩) (uj+r3) 1)) fun H10=>R .normal (.pointer (some ⟨s,0,none⟩)::.pointer (some ⟨p,0,none⟩)::ud2 (.pointer (some ⟨b1,0,none⟩)::ud::.pointer (some ⟨b3,0,none⟩)::.int .i64 (IntKind.wrap .i64 (y+1))::ud59 [])) H10)) (R (.exit 0) (ud4 (.pointer (some ⟨b1,0,none⟩)::ud::.pointer (some ⟨b3,0,none⟩)::ud60 [])) H)):=by kernel_rfl
def zmo (b1 b3 p s:Nat) (Inv:Nat→Int→zp→Prop):Nat→List Value→zp→Prop:=fun μ tm H=>∃y:Int,tm=(zdq b1 b3 p s y)∧Inv μ y H
theorem z1d6 (b1 b3 p s:Nat) {Q:Post} (Inv:Nat→Int→zp→Prop) (ν:Nat) (y:Int)  (H:zp) (h0:Inv ν y H)
  (hs:∀(μ:Nat) (y:Int)  (H:zp),Inv μ y H→exL Tryz.prog za8 (cl (cl (cr (cl (cr (cr (zq Tryz.f152))))))) 211 48 [(0,80)] (zdq b1 b3 p s y) H (z1b (zmo b1 b3 p s Inv) μ Q)):z1n (exL Tryz.prog za8 (cl (cl (cr (cl (cr (cr (zq Tryz.f152))))))) 211 48 [(0,80)]) (zdq b1 b3 p s y) H Q:=
 ⟨zmo b1 b3 p s Inv,ν,⟨y,rfl,h0⟩,fun μ tm H h=>by obtain ⟨y,rfl,hI⟩:=h;exact hs μ y  H hI⟩
theorem z1d7 {b1 b3 p s:Nat} {Q:Post} {Inv:Nat→Int→zp→Prop} {μ:Nat} (μ':Nat) {y:Int}  {H:zp} (hm:μ'<μ) (hI:Inv μ' y H):z1b (zmo b1 b3 p s Inv) μ Q .normal (zdq b1 b3 p s y) H:=⟨μ',hm,y,rfl,hI⟩
theorem zwg (b1 b3:Nat) (H:zp) (K:KT)  {I:Nat→List Value→zp→Prop} {μ:Nat}:z1b I μ (z1a 0 (seqQ (exL Tryz.prog za8 (cr (cr (cr (zq Tryz.f152)))) 48 48 []) (retK Tryz.prog Tryz.f152 K))) (.exit 0) (ud4 (.pointer (some ⟨b1,0,none⟩)::ud::.pointer (some ⟨b3,0,none⟩)::ud60 [])) H=
 (∃(c1 c2:Int),∃vg:OA,∃(xg wg:Nat),  rdN H b3 0 3=some [.int .i64 c1,.int .i64 c2,.slice vg xg wg]∧isOwn H b1∧(∃l,rdN H b1 0 3=some l)∧Lt (setN H b1 0 [.int .i64 c1,.int .i64 c2,.slice vg xg wg]) fun H11=>∃(c4 c5:Int),∃eh:OA,∃(gh fh:Nat),  rdN H11 b1 0 3=some [.int .i64 c4,.int .i64 c5,.slice eh gh fh]∧K (.tuple #[.agg #[.int .i64 c4,.int .i64 c5,.slice eh gh fh],.bool true]) H11):=by kernel_rfl
theorem zmp (b1:Nat) (t5:Bool) (H:zp) (K:KT)  {I:Nat→List Value→zp→Prop} {μ:Nat}:z1b I μ (z1a 0 (seqQ (exL Tryz.prog za8 (cr (cr (cr (zq Tryz.f152)))) 48 48 []) (retK Tryz.prog Tryz.f152 K))) .ret (ud4 (.pointer (some ⟨b1,0,none⟩)::.bool t5::ud61 [])) H=
 (∃(c7 c8:Int),∃sh:OA,∃(uh th:Nat),  rdN H b1 0 3=some [.int .i64 c7,.int .i64 c8,.slice sh uh th]∧K (.tuple #[.agg #[.int .i64 c7,.int .i64 c8,.slice sh uh th],.bool t5]) H):=by kernel_rfl
theorem ztn:∀g,FnOk Tryz.prog g (za8 g):=FnOk.envOf (by
 intro x hx
 simp only [List.mem_cons,List.not_mem_nil,or_false] at hx
 subst hx;exact z1hy)
theorem zwf (s p:Nat) (H:zp) (K:KT) (h:zoc s p H fun (tc:Int) (nc:Int) (ma:OA) (sa:Nat) (oa:Nat) (r2:Bool) (H':zp)=>K (.tuple #[.agg #[.int .i64 tc,.int .i64 nc,.slice ma sa oa],.bool r2]) H'):zw Tryz.prog za8 Tryz.f152 [.pointer (some ⟨s,0,none⟩),.pointer (some ⟨p,0,none⟩)] H K:=by
 rw [z1da]
 obtain ⟨jb,qb,tb,xa,ia,ua,db,ib,nb,aa,da,i_s,i_p,dc,yb,bd_175,bd_176,pr0,pr1,pr2,pr3,pr4,hk⟩:=h
 obtain rfl:=dc.eqn
 obtain rfl:=yb.eqn
 have e:(z2v aa xa ia ua da)=_:=rfl
 have e:=e.trans (zel aa xa ia ua da)
 have g0:=Grow.refl H
 refine Al.intro (fun b_1 H_1 hb_2 hl_3 g_4 o_5=>?_)
 have l_7:=g_4.1
 have g_8:=g0.trans g_4
 have l_9:=g_8.1
 have w174:=o_5.lt
 refine ⟨ua,(z1l (zr g_8 i_p) 1 (nbl rfl)).trans rfl,?_⟩
 refine ⟨ia,(z1l (zr g_8 i_p) 0 (nbl rfl)).trans rfl,?_⟩
 refine Al.intro (fun b_10 H_2 hb_11 hl_12 g_13 o_14=>?_)
 have o_14:Own H_2 b_10 ((([]:LN)).map fF):=o_14
 have l_16:=g_13.1
 have g_17:=g_8.trans g_13
 have l_18:=g_17.1
 have o_19:=o_5.grow g_13
 have w20:=o_19.lt
 have w173:=o_14.lt
 refine Al.intro (fun b_21 H_3 hb_22 hl_23 g24 o25=>?_)
 have l27:=g24.1
 have g28:=g_17.trans g24
 have l29:=g28.1
 have o30:=o_19.grow g24
 have w31:=o30.lt
 have o32:=o_14.grow g24
 have w33:=o32.lt
 have w172:=o25.lt
 refine Lt.setN (n:=3) o25 (nbl rfl) rfl (fun H_4 hl_34 o36 k35=>?_)
 have o36:Own H_4 b_21 [.int .i64 ia,.int .i64 ua,.slice (some ⟨b_10,0,none⟩) 0 1]:=o36
 have l37:=k35.1
 have g38:=g28.keep (b:=b_21) ω2 k35
 have l39:=g38.1
 have o40:=o30.keep ω2 k35
 have w41:=o40.lt
 have o42:=o32.keep ω2 k35
 have w43:=o42.lt
 have w171:=o36.lt
 refine z1d6 _ _ _ _ (fun (μ:Nat) (y:Int) (H_5:zp)=>∃t5:Bool,∃(q1_1 q1_2 q1_4 q1_5:Int),∃q1_6:LN,∃b46:Nat,Own H_5 b_1 [.int .i64 q1_1,.int .i64 q1_2,.slice none 0 0]∧Own H_5 b46 (q1_6.map fF)∧Own H_5 b_21 [.int .i64 q1_4,.int .i64 q1_5,.slice (some ⟨b46,0,none⟩) q1_6.length 1]∧(b_21≠b_1)∧(b46≠b_1)∧(b46≠b_21)∧Grow H H_5∧H.length≤b46∧(0:Int)≤y∧((y≤ua∨y≤(0:Int)))∧(q1_6.length:Int)≤16*y∧ua-y≤(μ:Int)∧z2v aa xa ia ua da=z3x aa xa ia ua da (μ+1) t5 y q1_1 q1_2 q1_4 q1_5 q1_6) (Int.toNat (ua-(0:Int))) _ H_4 ?_ ?_
 ·exact ⟨_,_,_,_,_,_,_,ω19,o42,ω20,ω2,ω2,ω2,g38,ω2,ω7,ω7,ω7,ω2,e⟩
 ·intro μ y  H_5 hI
  obtain ⟨t5,q1_1,q1_2,q1_4,q1_5,q1_6,b46,o44,o47,o45,n48,n49,n50,g51,l52,v_53,v_54,v_55,hμ,e⟩:=hI
  rw [z1d9]
  have e:=e.trans (zaj aa xa ia ua da μ t5 y q1_1 q1_2 q1_4 q1_5 q1_6)
  have zy:=z19z (W:=ia) (H:=ua) (y:=y) da ω2 ω2 ω2 ω2
  have w56:=o44.lt
  have w57:=o45.lt
  have w58:=o47.lt
  have l59:=g51.1
  refine ⟨ua,(z1l (zr g51 i_p) 1 (nbl rfl)).trans rfl,?_⟩
  refine Br.intro (fun c_60=>?_) (fun c_60=>?_)
  ·have e:=e.trans (zv c_60)
   have c_60':=odt c_60
   refine ⟨ia,(z1l (zr g51 i_p) 0 (nbl rfl)).trans rfl,?_⟩
   refine ⟨ia,(z1l (zr g51 i_p) 0 (nbl rfl)).trans rfl,?_⟩
   refine ⟨db,da.length,nb,(z1l (zr g51 i_p) 2 (nbl rfl)).trans rfl,?_⟩
   rw [show IntKind.wrap .i64 (y*ia)=(y*ia) from zt ω2 ω2]
   rw [show IntKind.wrap .i64 (y+1)=(y+1) from zt ω2 ω2]
   rw [show IntKind.wrap .i64 ((y+1)*ia)=((y+1)*ia) from zt ω2 ω2]
   refine ⟨by omega,by omega,by omega,?_⟩
   have i61:=zc9 yb (lo:=(y*ia)) (hi:=((y+1)*ia)) ω2 ω2 ω2
   refine z1bf ⟨jb,aa.length,tb,xa,_,_,(zr g51 i_s),(dc.grow g51),(i61.grow g51),ω0,ω0,fun a62 n63 e_64 a66 n67 e68 H_6 g71 r65 r69 p87=>?_⟩
   have z70:=zaq aa xa ((((da).drop ((y*ia):Int).toNat).take ((((y+1)*ia):Int)-(y*ia)).toNat))
   have l72:=g71.1
   have g73:=g51.trans g71
   have l74:=g73.1
   have o75:=o44.grow g71
   have w76:=o75.lt
   have o77:=o45.grow g71
   have w78:=o77.lt
   have o79:=o47.grow g71
   have w80:=o79.lt
   obtain rfl:=r65.isL.eqn
   have u81:=r65.up
   have u82:=r65.lo
   obtain rfl:=r69.isL.eqn
   have u84:=r69.up
   have u85:=r69.lo
   refine Br.intro (fun c88=>?_) (fun c88=>?_)
   ·have e:=e.trans (zv c88)
    have c_88n:=z1g c88
    refine Lt.setN (n:=3) o75 (nbl rfl) rfl (fun H_7 hl_89 o91 k90=>?_)
    have o91:Own H_7 b_1 [.int .i64 0,.int .i64 0,.slice none 0 0]:=o91
    have l92:=k90.1
    have g93:=g73.keep (b:=b_1) ω2 k90
    have l94:=g93.1
    have o95:=o77.keep ω2 k90
    have w96:=o95.lt
    have o97:=o79.keep ω2 k90
    have w98:=o97.lt
    have r99:=r65.keep u81 ω2 k90
    have r100:=r69.keep u84 ω2 k90
    have w101:=o91.lt
    rw [zmp]
    refine ⟨0,0,none,0,0,(o91.rdN (nbl rfl)).trans rfl,?_⟩
    rw [e] at hk
    exact hk _ _ _ H_7 g93 ω17
   ·have e:=e.trans (zu c88)
    have c_88n:=z1d c88
    refine ⟨some ⟨b46,0,none⟩,q1_6.length,1,(o77.rdC _).trans rfl,?_⟩
    refine ⟨_,_,o79.ownB ω3 rfl,(z2t r65.isL),(fun h=>by cases h),ω25,?_⟩
    refine Ap.app o79 rfl rfl (fun b106 H_8 q158 hl_102 o103 k104=>?_)
    have o103:=z2l o103
    have l107:=k104.1
    have g108:=g73.keep (b:=b46) ω2 k104
    have l109:=g108.1
    have o110:=o75.keep ω2 k104
    have w111:=o110.lt
    have o112:=o77.keep ω2 k104
    have w113:=o112.lt
    have r114:=r65.keep u81 ω2 k104
    have r115:=r69.keep u84 ω2 k104
    have w159:=o103.lt
    refine Lt.set o112 (nbl rfl) (fun H_9 hl_116 o118 k117=>?_)
    have o118:Own H_9 b_21 [.int .i64 q1_4,.int .i64 q1_5,.slice (some ⟨b106,0,none⟩) (q1_6.length+(((z3g aa xa ((((da).drop ((y*ia):Int).toNat).take ((((y+1)*ia):Int)-(y*ia)).toNat))).1).length)) 1]:=o118
    have l119:=k117.1
    have g120:=g108.keep (b:=b_21) ω2 k117
    have l121:=g120.1
    have o122:=o110.keep ω2 k117
    have w123:=o122.lt
    have o124:=o103.keep ω2 k117
    have w125:=o124.lt
    have r126:=r114.keep u81 ω2 k117
    have r127:=r115.keep u84 ω2 k117
    have w157:=o118.lt
    refine ⟨some ⟨b106,0,none⟩,q1_6.length+(((z3g aa xa ((((da).drop ((y*ia):Int).toNat).take ((((y+1)*ia):Int)-(y*ia)).toNat))).1).length),1,(o118.rdC _).trans rfl,?_⟩
    refine ⟨_,_,o124.ownB ω3 rfl,(z2t r127.isL),(fun h=>by cases h),ω25,?_⟩
    refine Ap.app o124 rfl rfl (fun b132 H_10 q155 hl_128 o129 k130=>?_)
    have o129:=z2l o129
    have l133:=k130.1
    have g134:=g120.keep (b:=b106) ω2 k130
    have l135:=g134.1
    have o136:=o122.keep ω2 k130
    have w137:=o136.lt
    have o138:=o118.keep ω2 k130
    have w139:=o138.lt
    have r140:=r126.keep u81 ω2 k130
    have r141:=r127.keep u84 ω2 k130
    have w156:=o129.lt
    refine Lt.set o138 (nbl rfl) (fun H_11 hl_142 o144 k143=>?_)
    have o144:Own H_11 b_21 [.int .i64 q1_4,.int .i64 q1_5,.slice (some ⟨b132,0,none⟩) ((q1_6.length+(((z3g aa xa ((((da).drop ((y*ia):Int).toNat).take ((((y+1)*ia):Int)-(y*ia)).toNat))).1).length))+(((z3g aa xa ((((da).drop ((y*ia):Int).toNat).take ((((y+1)*ia):Int)-(y*ia)).toNat))).2.1).length)) 1]:=o144
    have l145:=k143.1
    have g146:=g134.keep (b:=b_21) ω2 k143
    have l147:=g146.1
    have o148:=o136.keep ω2 k143
    have w149:=o148.lt
    have o150:=o129.keep ω2 k143
    have w151:=o150.lt
    have r152:=r140.keep u81 ω2 k143
    have r153:=r141.keep u84 ω2 k143
    have w154:=o144.lt
    refine z1d7 (μ-1) ω15 ⟨_,_,_,_,_,_,_,(by first | exact o148 | (have hbx:=o148;(try simp only [List.length_append,List.length_cons,List.length_nil,Nat.zero_add] at hbx);(try simp only [List.length_append,List.length_cons,List.length_nil,Nat.zero_add]);exact hbx)),o150,(by first | exact o144 | (have hbx:=o144;(try simp only [List.length_append,List.length_cons,List.length_nil,Nat.zero_add] at hbx);(try simp only [List.length_append,List.length_cons,List.length_nil,Nat.zero_add]);exact hbx)),ω2,ω2,ω2,g146,ω2,ω1,ω1,ω1,ω15,ω13⟩
  ·have e:=e.trans (zu c_60)
   have c_60':=odf c_60
   rw [zwg]
   refine ⟨q1_4,q1_5,some ⟨b46,0,none⟩,q1_6.length,1,(o45.rdN (nbl rfl)).trans rfl,?_⟩
   refine Lt.setN (n:=3) o44 (nbl rfl) rfl (fun H_12 hl_160 o162 k161=>?_)
   have o162:Own H_12 b_1 [.int .i64 q1_4,.int .i64 q1_5,.slice (some ⟨b46,0,none⟩) q1_6.length 1]:=o162
   have l163:=k161.1
   have g164:=g51.keep (b:=b_1) ω2 k161
   have l165:=g164.1
   have o166:=o45.keep ω2 k161
   have w167:=o166.lt
   have o168:=o47.keep ω2 k161
   have w169:=o168.lt
   have w170:=o162.lt
   refine ⟨q1_4,q1_5,some ⟨b46,0,none⟩,q1_6.length,1,(o162.rdN (nbl rfl)).trans rfl,?_⟩
   rw [e] at hk
   exact hk _ _ _ H_12 g164 (o168.ownS ω5 ω2)
theorem z1d8:FnOk Tryz.prog 152 z18p:=FnOk.bodyF mix_ok ztn Tryz.func152 rfl ω10 ω10 fun args H=>by
 unfold z17g
 split
 ·refine ⟨?_,?_,?_,?_,fun K hk=>zwf _ _ H K hk⟩
  ·intro K K' h hk;obtain ⟨jb,qb,tb,xa,ia,ua,db,ib,nb,aa,da,i_s,i_p,dc,yb,bd_175,bd_176,pr0,pr1,pr2,pr3,pr4,k⟩:=hk;exact ⟨jb,qb,tb,xa,ia,ua,db,ib,nb,aa,da,i_s,i_p,dc,yb,bd_175,bd_176,pr0,pr1,pr2,pr3,pr4,(fun ma sa oa H' gg ow0=>h _ _ (k ma sa oa H' gg ow0))⟩
  ·nofun
  ·intro K hk;obtain ⟨jb,qb,tb,xa,ia,ua,db,ib,nb,aa,da,i_s,i_p,dc,yb,bd_175,bd_176,pr0,pr1,pr2,pr3,pr4,k⟩:=hk;exact z4i fun a n e H1 g o=>⟨_,_,k a n e H1 g o⟩
  ·intro _ K hk;obtain ⟨jb,qb,tb,xa,ia,ua,db,ib,nb,aa,da,i_s,i_p,dc,yb,bd_175,bd_176,pr0,pr1,pr2,pr3,pr4,k⟩:=hk;exact ⟨jb,qb,tb,xa,ia,ua,db,ib,nb,aa,da,i_s,i_p,dc,yb,bd_175,bd_176,pr0,pr1,pr2,pr3,pr4,(fun ma sa oa H' gg ow0=>⟨gg,k ma sa oa H' gg ow0⟩)⟩
 ·exact Nice.no

def z2u (aa:LN) (xa:Nat) (ia ua:Int) (da:LN) (back:Bool):Int×Int×LN×Bool:=(bif back then ((z3d aa xa ia ua da).1,(z3d aa xa ia ua da).2.1,(z3d aa xa ia ua da).2.2.1,(z3d aa xa ia ua da).2.2.2) else ((z2v aa xa ia ua da).1,(z2v aa xa ia ua da).2.1,(z2v aa xa ia ua da).2.2.1,(z2v aa xa ia ua da).2.2.2))
def zei:=@z2u.eq_1
def zj8 (s p:Nat) (back:Bool) (H:zp) (K:Int→Int→OA→Nat→Nat→Bool→zp→Prop):Prop:=∃jb:OA,∃(qb tb xa:Nat),∃(ia ua:Int),∃db:OA,∃(ib nb:Nat),∃(aa da:LN),rdN H s 0 2=some [.slice jb qb tb,.float .f32 xa]∧rdN H p 0 3=some [.int .i64 ia,.int .i64 ua,.slice db ib nb]∧IsL fF H jb qb aa∧IsL fF H db ib da∧aa.length<1073741824∧da.length<1073741824∧1≤ia∧ia≤16∧1≤ua∧ua≤16∧(da.length:Int)=ia*ua∧((∀(ma:OA) (sa oa:Nat),∀H':zp,Grow H H'→OwnS fF H' H.length ma sa oa ((z2u aa xa ia ua da back).2.2.1)→K ((z2u aa xa ia ua da back).1) ((z2u aa xa ia ua da back).2.1) ma sa oa ((z2u aa xa ia ua da back).2.2.2) H'))
theorem zo2 {s p:Nat} {back:Bool} {H:zp} {K:Int→Int→OA→Nat→Nat→Bool→zp→Prop} (h:∃jb:OA,∃(qb tb xa:Nat),∃(ia ua:Int),∃db:OA,∃(ib nb:Nat),∃(aa da:LN),rdN H s 0 2=some [.slice jb qb tb,.float .f32 xa]∧rdN H p 0 3=some [.int .i64 ia,.int .i64 ua,.slice db ib nb]∧IsL fF H jb qb aa∧IsL fF H db ib da∧aa.length<1073741824∧da.length<1073741824∧1≤ia∧ia≤16∧1≤ua∧ua≤16∧(da.length:Int)=ia*ua∧((∀(ma:OA) (sa oa:Nat),∀H':zp,Grow H H'→OwnS fF H' H.length ma sa oa ((z2u aa xa ia ua da back).2.2.1)→K ((z2u aa xa ia ua da back).1) ((z2u aa xa ia ua da back).2.1) ma sa oa ((z2u aa xa ia ua da back).2.2.2) H'))):zj8 s p back H K:=h
theorem z7z {ws:LN} {sc:Nat} {W Hi:Int} {l:LN} {back:Bool} (h1:1≤W) (h3:1≤Hi) (hl:(l.length:Int)=W*Hi) (h:(z2u ws sc W Hi l back).2.2.2=true):(z2u ws sc W Hi l back).1=W∧(z2u ws sc W Hi l back).2.1=Hi∧((z2u ws sc W Hi l back).2.2.1.length:Int)=W*Hi:=by
 rw [zei] at h ⊢
 cases back with
 | true=>exact zfm h1 h3 hl h
 | false=>exact zkk h1 h3 hl h
def zt7:Env:=envOf [(151,z17z),(152,z18p)]
def z16w (args:List Value) (H:zp):(Value→zp→Prop)→Prop:=match args with
 | [.pointer (some ⟨s,0,none⟩),.pointer (some ⟨p,0,none⟩),.bool back]=>fun K=>zj8 s p back H fun (tc:Int) (nc:Int) (ma:OA) (sa:Nat) (oa:Nat) (r2:Bool) (H':zp)=>K (.tuple #[.agg #[.int .i64 tc,.int .i64 nc,.slice ma sa oa],.bool r2]) H'
 | _=>fun _=>False
def z18h:FSpec:={F:=z16w,quiet:=false,tame:=true}
theorem z1cf (s p:Nat) (back:Bool) (H:zp) (K:KT):zw Tryz.prog zt7 Tryz.f127 [.pointer (some ⟨s,0,none⟩),.pointer (some ⟨p,0,none⟩),.bool back] H K=
 (Al [.int .i64 0,.int .i64 0,.slice none 0 0] H fun b1 H1=>Br back (znv s p H1 fun (r1:Int) (r2:Int) (a1:OA) (r3:Nat) (r4:Nat) (r5:Bool) (H2:zp)=>isOwn H2 b1∧(∃l,rdN H2 b1 0 3=some l)∧Lt (setN H2 b1 0 [.int .i64 r1,.int .i64 r2,.slice a1 r3 r4]) fun H3=>∃(c1 c2:Int),∃vg:OA,∃(xg wg:Nat),  rdN H3 b1 0 3=some [.int .i64 c1,.int .i64 c2,.slice vg xg wg]∧K (.tuple #[.agg #[.int .i64 c1,.int .i64 c2,.slice vg xg wg],.bool r5]) H3) (zoc s p H1 fun (r6:Int) (r7:Int) (a2:OA) (r8:Nat) (r9:Nat) (r10:Bool) (H4:zp)=>isOwn H4 b1∧(∃l,rdN H4 b1 0 3=some l)∧Lt (setN H4 b1 0 [.int .i64 r6,.int .i64 r7,.slice a2 r8 r9]) fun H5=>∃(c4 c5:Int),∃eh:OA,∃(gh fh:Nat),  rdN H5 b1 0 3=some [.int .i64 c4,.int .i64 c5,.slice eh gh fh]∧K (.tuple #[.agg #[.int .i64 c4,.int .i64 c5,.slice eh gh fh],.bool r10]) H5)):=by kernel_rfl
theorem zt8:∀g,FnOk Tryz.prog g (zt7 g):=FnOk.envOf (by
 intro x hx
 simp only [List.mem_cons,List.not_mem_nil,or_false] at hx
 rcases hx with rfl | rfl
 ·exact f16z_ok
 ·exact z1d8)
theorem zw0 (s p:Nat) (back:Bool) (H:zp) (K:KT) (h:zj8 s p back H fun (tc:Int) (nc:Int) (ma:OA) (sa:Nat) (oa:Nat) (r2:Bool) (H':zp)=>K (.tuple #[.agg #[.int .i64 tc,.int .i64 nc,.slice ma sa oa],.bool r2]) H'):zw Tryz.prog zt7 Tryz.f127 [.pointer (some ⟨s,0,none⟩),.pointer (some ⟨p,0,none⟩),.bool back] H K:=by
 rw [z1cf]
 obtain ⟨jb,qb,tb,xa,ia,ua,db,ib,nb,aa,da,i_s,i_p,dc,yb,bd_54,bd_55,pr0,pr1,pr2,pr3,pr4,hk⟩:=h
 obtain rfl:=dc.eqn
 obtain rfl:=yb.eqn
 have e:(z2u aa xa ia ua da back)=_:=rfl
 have e:=e.trans (zei aa xa ia ua da back)
 have g0:=Grow.refl H
 refine Al.intro (fun b_1 H_1 hb_2 hl_3 g_4 o_5=>?_)
 have l_7:=g_4.1
 have g_8:=g0.trans g_4
 have l_9:=g_8.1
 have w53:=o_5.lt
 refine Br.intro (fun c_10=>?_) (fun c_10=>?_)
 ·have e:=e.trans (zv c_10)
  refine z10k ⟨jb,aa.length,tb,xa,ia,ua,db,da.length,nb,_,_,(zr g_8 i_s),(zr g_8 i_p),(dc.grow g_8),(yb.grow g_8),ω0,ω0,ω9,ω9,ω9,ω9,ω9,fun a_11 n12 e_13 H_2 g15 r_14=>?_⟩
  have l_16:=g15.1
  have g_17:=g_8.trans g15
  have l_18:=g_17.1
  have o_19:=o_5.grow g15
  have w20:=o_19.lt
  obtain rfl:=r_14.isL.eqn
  have u21:=r_14.up
  have u22:=r_14.lo
  refine Lt.setN (n:=3) o_19 (nbl rfl) rfl (fun H_3 hl_24 o26 k25=>?_)
  have o26:Own H_3 b_1 [.int .i64 ((z3d aa xa ia ua da).1),.int .i64 ((z3d aa xa ia ua da).2.1),.slice a_11 (((z3d aa xa ia ua da).2.2.1).length) e_13]:=o26
  have l27:=k25.1
  have g28:=g_17.keep (b:=b_1) ω2 k25
  have l29:=g28.1
  have r_30:=r_14.keep u21 ω2 k25
  have w31:=o26.lt
  refine ⟨(z3d aa xa ia ua da).1,(z3d aa xa ia ua da).2.1,a_11,((z3d aa xa ia ua da).2.2.1).length,e_13,(o26.rdN (nbl rfl)).trans rfl,?_⟩
  rw [e] at hk
  exact hk _ _ _ H_3 g28 (r_30.weak ω2)
 ·have e:=e.trans (zu c_10)
  refine z10y ⟨jb,aa.length,tb,xa,ia,ua,db,da.length,nb,_,_,(zr g_8 i_s),(zr g_8 i_p),(dc.grow g_8),(yb.grow g_8),ω0,ω0,ω9,ω9,ω9,ω9,ω9,fun a32 n33 e34 H_4 g36 r_35=>?_⟩
  have l37:=g36.1
  have g38:=g_8.trans g36
  have l39:=g38.1
  have o40:=o_5.grow g36
  have w41:=o40.lt
  obtain rfl:=r_35.isL.eqn
  have u42:=r_35.up
  have u43:=r_35.lo
  refine Lt.setN (n:=3) o40 (nbl rfl) rfl (fun H_5 hl_45 o47 k46=>?_)
  have o47:Own H_5 b_1 [.int .i64 ((z2v aa xa ia ua da).1),.int .i64 ((z2v aa xa ia ua da).2.1),.slice a32 (((z2v aa xa ia ua da).2.2.1).length) e34]:=o47
  have l48:=k46.1
  have g49:=g38.keep (b:=b_1) ω2 k46
  have l50:=g49.1
  have r_51:=r_35.keep u42 ω2 k46
  have w52:=o47.lt
  refine ⟨(z2v aa xa ia ua da).1,(z2v aa xa ia ua da).2.1,a32,((z2v aa xa ia ua da).2.2.1).length,e34,(o47.rdN (nbl rfl)).trans rfl,?_⟩
  rw [e] at hk
  exact hk _ _ _ H_5 g49 (r_51.weak ω2)
theorem z1ce:FnOk Tryz.prog 127 z18h:=FnOk.bodyF mix_ok zt8 Tryz.func127 rfl ω10 ω10 fun args H=>by
 unfold z16w
 split
 ·refine ⟨?_,?_,?_,?_,fun K hk=>zw0 _ _ _ H K hk⟩
  ·intro K K' h hk;obtain ⟨jb,qb,tb,xa,ia,ua,db,ib,nb,aa,da,i_s,i_p,dc,yb,bd_54,bd_55,pr0,pr1,pr2,pr3,pr4,k⟩:=hk;exact ⟨jb,qb,tb,xa,ia,ua,db,ib,nb,aa,da,i_s,i_p,dc,yb,bd_54,bd_55,pr0,pr1,pr2,pr3,pr4,(fun ma sa oa H' gg ow0=>h _ _ (k ma sa oa H' gg ow0))⟩
  ·nofun
  ·intro K hk;obtain ⟨jb,qb,tb,xa,ia,ua,db,ib,nb,aa,da,i_s,i_p,dc,yb,bd_54,bd_55,pr0,pr1,pr2,pr3,pr4,k⟩:=hk;exact z4i fun a n e H1 g o=>⟨_,_,k a n e H1 g o⟩
  ·intro _ K hk;obtain ⟨jb,qb,tb,xa,ia,ua,db,ib,nb,aa,da,i_s,i_p,dc,yb,bd_54,bd_55,pr0,pr1,pr2,pr3,pr4,k⟩:=hk;exact ⟨jb,qb,tb,xa,ia,ua,db,ib,nb,aa,da,i_s,i_p,dc,yb,bd_54,bd_55,pr0,pr1,pr2,pr3,pr4,(fun ma sa oa H' gg ow0=>⟨gg,k ma sa oa H' gg ow0⟩)⟩
 ·exact Nice.no
theorem Own.putX {H:zp} {c:Nat} {cs:List Value} (h:Own H c cs) (cs':List Value):∃H1,z3i c H H1∧Own H1 c cs':=by
 refine ⟨H.set c (some {cells:=cs',own:=true}),⟨by simp,fun i _ hne=>by rw [List.getElem?_set_ne (Ne.symm hne)]⟩,?_⟩
 show (H.set c _)[c]? =_
 rw [List.getElem?_set_self h.lt]
theorem zi3 {H H':zp} {b c off n:Nat} {l:List Value} (k:z3i c H H') (hne:b≠c) (h:rdN H b off n=some l):rdN H' b off n=some l:=by
 have hb:b<H.length:=by
  unfold rdN rdB at h
  by_cases hb:b<H.length
  ·exact hb
  ·rw [List.getElem?_eq_none ω2] at h;cases h
 unfold rdN rdB at h ⊢
 rw [k.2 b hb hne];exact h
theorem z14o {H H':zp} {c n:Nat} {a:OA} {xs:LN} (k:z3i c H H') (h:IsL fF H a n xs) (hne:∀x,a=some x→x.block≠c):IsL fF H' a n xs:=by
 unfold IsL rdS at h ⊢
 cases n with
 | zero=>exact h
 | succ n=>
  cases a with
  | none=>exact h
  | some x=>
   obtain ⟨b,off,sub⟩:=x
   cases sub with
   | none=>exact zi3 k (hne _ rfl) h
   | some _=>exact h
theorem z3i.trans {c:Nat} {H H1 H2:zp} (h:z3i c H H1) (k:z3i c H1 H2):z3i c H H2:=⟨Nat.le_trans h.1 k.1,fun i hi hne=>(k.2 i (Nat.lt_of_lt_of_le hi h.1) hne).trans (h.2 i hi hne)⟩
theorem z3i.grow {c:Nat} {H H1 H2:zp} (h:z3i c H H1) (k:Grow H1 H2):z3i c H H2:=⟨Nat.le_trans h.1 k.1,fun i hi hne=>(k.2 i (Nat.lt_of_lt_of_le hi h.1)).trans (h.2 i hi hne)⟩
def putS (l q:LN) (W pw x y:Int):Nat→LN
 | 0=>l
 | i+1=>(putS l q W pw x y i).set ((y+Int.tdiv (i:Int) pw)*W+x+Int.tmod (i:Int) pw).toNat (q.getD i 0)
@[simp] theorem z8j (l q:LN) (W pw x y:Int):∀i,(putS l q W pw x y i).length=l.length:=by
 intro i
 induction i with
 | zero=>rfl
 | succ i ih=>exact (List.length_set ..).trans ih
def zok (p part:Nat) (x y:Int) (H:zp) (K:zp→Prop):Prop:=
 ∃(W Hi:Int) (c e:Nat) (l:LN) (pw ph:Int) (qa:OA) (qn qe:Nat) (q:LN),rdN H p 0 3=some [.int .i64 W,.int .i64 Hi,.slice (some ⟨c,0,none⟩) l.length e]∧Own H c (l.map fF)∧rdN H part 0 3=some [.int .i64 pw,.int .i64 ph,.slice qa qn qe]∧IsL fF H qa qn q∧(∀x,qa=some x→x.block≠c)∧p≠c∧part≠c∧(l.length:Int)=W*Hi∧(q.length:Int)=pw*ph∧
  0≤x∧0≤y∧1≤pw∧1≤ph∧x+pw≤W∧y+ph≤Hi∧W≤16∧Hi≤16∧(∀H':zp,z3i c H H'→Own H' c ((putS l q W pw x y (pw*ph).toNat).map fF)→K H')
theorem z11g {p part:Nat} {x y:Int} {H:zp} {K:zp→Prop} (h:∃(W Hi:Int) (c e:Nat) (l:LN) (pw ph:Int) (qa:OA) (qn qe:Nat) (q:LN),rdN H p 0 3=some [.int .i64 W,.int .i64 Hi,.slice (some ⟨c,0,none⟩) l.length e]∧Own H c (l.map fF)∧rdN H part 0 3=some [.int .i64 pw,.int .i64 ph,.slice qa qn qe]∧IsL fF H qa qn q∧(∀x,qa=some x→x.block≠c)∧p≠c∧part≠c∧(l.length:Int)=W*Hi∧(q.length:Int)=pw*ph∧
  0≤x∧0≤y∧1≤pw∧1≤ph∧x+pw≤W∧y+ph≤Hi∧W≤16∧Hi≤16∧(∀H':zp,z3i c H H'→Own H' c ((putS l q W pw x y (pw*ph).toNat).map fF)→K H')):zok p part x y H K:=h
def zdb:Env:=envOf []
def z17r (args:List Value) (H:zp):(Value→zp→Prop)→Prop:=match args with
 | [.pointer (some ⟨p,0,none⟩),.pointer (some ⟨part,0,none⟩),.int .i64 x,.int .i64 y]=>fun K=>zok p part x y H fun  (H':zp)=>K (.tuple #[]) H'
 | _=>fun _=>False
def z18x:FSpec:={F:=z17r,quiet:=false,tame:=false}
theorem f25z_vc (p part:Nat) (x y:Int) (H:zp) (K:KT):zw Tryz.prog zdb Tryz.f128 [.pointer (some ⟨p,0,none⟩),.pointer (some ⟨part,0,none⟩),.int .i64 x,.int .i64 y] H K=
 (z1n (exL Tryz.prog zdb (cl (cl (cr (zq Tryz.f128)))) 271 0 [(0,0)]) (.pointer (some ⟨p,0,none⟩)::.pointer (some ⟨part,0,none⟩)::.int .i64 x::.int .i64 y::ud4 (.int .i64 0::ud47 [])) H (z1a 0 (retK Tryz.prog Tryz.f128 K))):=by kernel_rfl
abbrev f25z_P1 (p part:Nat) (x y i:Int)  :List Value:=(.pointer (some ⟨p,0,none⟩)::.pointer (some ⟨part,0,none⟩)::.int .i64 x::.int .i64 y::ud4 (.int .i64 i::ud47 []))
theorem f25z_r1 (p part:Nat) (x y i:Int)  (H:zp) (R:Post):exL Tryz.prog zdb (cl (cl (cr (zq Tryz.f128)))) 271 0 [(0,0)] (f25z_P1 p part x y i) H R=
 (∃x1:Int,  rdC H part 0=some (.int .i64 x1)∧∃x2:Int,  rdC H part 1=some (.int .i64 x2)∧Br (decide ((i:Int)<IntKind.wrap .i64 (x1*x2))) (∃sj:OA,∃(qj yj:Nat),  rdC H p 2=some (.slice sj qj yj)∧∃x4:Int,  rdC H part 0=some (.int .i64 x4)∧x4≠(0:Int)∧∃x5:Int,  rdC H p 0=some (.int .i64 x5)∧∃x6:Int,  rdC H part 0=some (.int .i64 x6)∧x6≠(0:Int)∧∃rj:OA,∃(vi rk:Nat),  rdC H part 2=some (.slice rj vi rk)∧(0:Int)≤i∧i<(vi:Int)∧∃b1 f1,(rj:OA)=some ⟨b1,f1,none⟩∧∃x8:Nat,  rdC H b1 (f1+(i:Int).toNat*1)=some (.float .f32 x8)∧(0:Int)≤IntKind.wrap .i64 ((IntKind.wrap .i64 ((IntKind.wrap .i64 ((IntKind.wrap .i64 (y+(IntKind.wrap .i64 (Int.tdiv i x4))))*x5))+x))+(Int.tmod i x6))∧IntKind.wrap .i64 ((IntKind.wrap .i64 ((IntKind.wrap .i64 ((IntKind.wrap .i64 (y+(IntKind.wrap .i64 (Int.tdiv i x4))))*x5))+x))+(Int.tmod i x6))<(qj:Int)∧∃b2 f2,(sj:OA)=some ⟨b2,f2,none⟩∧isOwn H b2∧(∃l,rdN H b2 (f2+(IntKind.wrap .i64 ((IntKind.wrap .i64 ((IntKind.wrap .i64 ((IntKind.wrap .i64 (y+(IntKind.wrap .i64 (Int.tdiv i x4))))*x5))+x))+(Int.tmod i x6)):Int).toNat*1) 1=some l)∧Lt (setC H b2 (f2+(IntKind.wrap .i64 ((IntKind.wrap .i64 ((IntKind.wrap .i64 ((IntKind.wrap .i64 (y+(IntKind.wrap .i64 (Int.tdiv i x4))))*x5))+x))+(Int.tmod i x6)):Int).toNat*1) (.float .f32 x8)) fun H1=>R .normal (.pointer (some ⟨p,0,none⟩)::.pointer (some ⟨part,0,none⟩)::.int .i64 x::.int .i64 y::ud4 (.int .i64 (IntKind.wrap .i64 (i+1))::ud47 [])) H1) (R (.exit 0) (ud56 []) H)):=by kernel_rfl
def f25z_I1 (p part:Nat) (x y:Int) (Inv:Nat→Int→zp→Prop):Nat→List Value→zp→Prop:=fun μ tm H=>∃i:Int,tm=(f25z_P1 p part x y i)∧Inv μ i H
theorem f25z_L1 (p part:Nat) (x y:Int) {Q:Post} (Inv:Nat→Int→zp→Prop) (ν:Nat) (i:Int)  (H:zp) (h0:Inv ν i H)
  (hs:∀(μ:Nat) (i:Int)  (H:zp),Inv μ i H→exL Tryz.prog zdb (cl (cl (cr (zq Tryz.f128)))) 271 0 [(0,0)] (f25z_P1 p part x y i) H (z1b (f25z_I1 p part x y Inv) μ Q)):z1n (exL Tryz.prog zdb (cl (cl (cr (zq Tryz.f128)))) 271 0 [(0,0)]) (f25z_P1 p part x y i) H Q:=
 ⟨f25z_I1 p part x y Inv,ν,⟨i,rfl,h0⟩,fun μ tm H h=>by obtain ⟨i,rfl,hI⟩:=h;exact hs μ i  H hI⟩
theorem f25z_n1 {p part:Nat} {x y:Int} {Q:Post} {Inv:Nat→Int→zp→Prop} {μ:Nat} (μ':Nat) {i:Int}  {H:zp} (hm:μ'<μ) (hI:Inv μ' i H):z1b (f25z_I1 p part x y Inv) μ Q .normal (f25z_P1 p part x y i) H:=⟨μ',hm,i,rfl,hI⟩
theorem f25z_x1_0  (H:zp) (K:KT)  {I:Nat→List Value→zp→Prop} {μ:Nat}:z1b I μ (z1a 0 (retK Tryz.prog Tryz.f128 K)) (.exit 0) (ud56 []) H=
 (K (.tuple #[]) H):=by kernel_rfl
theorem zu5:∀g,FnOk Tryz.prog g (zdb g):=FnOk.envOf (by
 intro x hx;cases hx)
theorem f25z_main (p part:Nat) (x y:Int) (H:zp) (K:KT) (h:zok p part x y H fun  (H':zp)=>K (.tuple #[]) H'):zw Tryz.prog zdb Tryz.f128 [.pointer (some ⟨p,0,none⟩),.pointer (some ⟨part,0,none⟩),.int .i64 x,.int .i64 y] H K:=by
 rw [f25z_vc]
 obtain ⟨W,Hi,c,e,l,pw,ph,qa,qn,qe,q,h1,oc,h2,iq,hne,pc,qc,hl,hq,x0,y0,w1,w2,wx,wy,wW,wH,hk⟩:=h
 obtain rfl:=iq.eqn
 have hm:=z5h (W:=pw) (H:=ph) w1 ω2 w2 ω2
 obtain ⟨n,hn⟩:∃n:Nat,pw*ph=(n:Int):=⟨(pw*ph).toNat,by omega⟩
 rw [hn,Int.toNat_natCast] at hk
 have cl:=oc.lt
 refine f25z_L1 p part x y (fun μ t H'=>∃k:Nat,t=(k:Int)∧k≤n∧μ=n-k∧z3i c H H'∧Own H' c ((putS l q W pw x y k).map fF)) n 0 H
  ⟨0,rfl,Nat.zero_le _,rfl,⟨Nat.le_refl _,fun _ _ _=>rfl⟩,oc⟩ ?_
 intro μ t H' hI
 obtain ⟨k,rfl,hkm,rfl,kp,oc'⟩:=hI
 have r1:=zi3 kp pc h1
 have r2:=zi3 kp qc h2
 have i2:=z14o kp iq hne
 have rp:∀i,i<3→rdC H' p i=[Value.int .i64 W,.int .i64 Hi,.slice (some ⟨c,0,none⟩) l.length e][i]? :=fun i hi=>z1l r1 i hi
 have rq:∀i,i<3→rdC H' part i=[Value.int .i64 pw,.int .i64 ph,.slice qa q.length qe][i]? :=fun i hi=>z1l r2 i hi
 rw [f25z_r1]
 refine ⟨pw,(rq 0 ω22).trans rfl,ph,(rq 1 ω22).trans rfl,?_⟩
 rw [show IntKind.wrap .i64 (pw*ph)=(n:Int) from (zt ω2 ω2).trans hn]
 refine Br.intro (fun hd=>?_) (fun hd=>?_)
 ·have hd':=odt hd
  obtain ⟨c1,c2,c3,c4,c5,c6,c7⟩:=zvh (x:=x) (y:=y) (W:=W) (H:=Hi) (w:=pw) (h:=ph) (i:=(k:Int)) x0 y0 w1 w2 wx wy wW wH ω2 ω2
  rw [show IntKind.wrap .i64 ((k:Int)+1)=(k:Int)+1 from zt ω2 ω2]
  have hkq:k<q.length:=by omega
  obtain ⟨bq,oq,eq⟩:=i2.pos ω2
  refine ⟨some ⟨c,0,none⟩,l.length,e,(rp 2 ω22).trans rfl,pw,(rq 0 ω22).trans rfl,by omega,W,(rp 0 ω22).trans rfl,pw,(rq 0 ω22).trans rfl,by omega,qa,q.length,qe,(rq 2 ω22).trans rfl,by omega,by omega,bq,oq,eq,q.getD k 0,i2.rd (Grow.refl H') eq (by rw [Int.toNat_natCast];exact hkq) 0,?_⟩
  rw [show IntKind.wrap .i64 (Int.tdiv (k:Int) pw)=Int.tdiv (k:Int) pw from zt ω2 ω2,show IntKind.wrap .i64 (y+Int.tdiv (k:Int) pw)=y+Int.tdiv (k:Int) pw from zt ω2 ω2,show IntKind.wrap .i64 ((y+Int.tdiv (k:Int) pw)*W)=(y+Int.tdiv (k:Int) pw)*W from zt ω2 ω2,show IntKind.wrap .i64 ((y+Int.tdiv (k:Int) pw)*W+x)=(y+Int.tdiv (k:Int) pw)*W+x from zt ω2 ω2,show IntKind.wrap .i64 ((y+Int.tdiv (k:Int) pw)*W+x+Int.tmod (k:Int) pw)=(y+Int.tdiv (k:Int) pw)*W+x+Int.tmod (k:Int) pw from zt ω2 ω2]
  refine ⟨by omega,by omega,c,0,rfl,?_⟩
  have lc:0+((y+Int.tdiv (k:Int) pw)*W+x+Int.tmod (k:Int) pw).toNat*1<((putS l q W pw x y k).map fF).length:=by rw [List.length_map,z8j];omega
  refine Lt.set oc' lc fun H1 l1 o1 k1=>?_
  refine f25z_n1 (n-(k+1)) ω2 ⟨k+1,by omega,by omega,rfl,kp.trans k1,?_⟩
  have e3:0+((y+Int.tdiv (k:Int) pw)*W+x+Int.tmod (k:Int) pw).toNat*1=((y+Int.tdiv (k:Int) pw)*W+x+Int.tmod (k:Int) pw).toNat:=by omega
  have o2:=o1
  rw [e3,show (Value.float .f32 (q.getD k 0))=fF (q.getD k 0) from rfl,←List.map_set] at o2
  exact o2
 ·have hd':=odf hd
  obtain rfl:k=n:=by omega
  rw [f25z_x1_0]
  exact hk H' kp oc'
theorem f25z_ok:FnOk Tryz.prog 128 z18x:=FnOk.bodyF mix_ok zu5 Tryz.func128 rfl ω10 ω10 fun args H=>by
 unfold z17r
 split
 ·refine ⟨?_,?_,?_,?_,fun K hk=>f25z_main _ _ _ _ H K hk⟩
  ·intro K K' h hk;obtain ⟨W,Hi,c,e,l,pw,ph,qa,qn,qe,q,h1,oc,h2,iq,hne,pc,qc,hl,hq,x0,y0,w1,w2,wx,wy,wW,wH,k⟩:=hk;exact ⟨W,Hi,c,e,l,pw,ph,qa,qn,qe,q,h1,oc,h2,iq,hne,pc,qc,hl,hq,x0,y0,w1,w2,wx,wy,wW,wH,(fun H' kk ow=>h _ _ (k H' kk ow))⟩
  ·nofun
  ·intro K hk;obtain ⟨W,Hi,c,e,l,pw,ph,qa,qn,qe,q,h1,oc,h2,iq,hne,pc,qc,hl,hq,x0,y0,w1,w2,wx,wy,wW,wH,k⟩:=hk;exact (oc.putX _).elim fun H1 h=>⟨_,_,k H1 h.1 h.2⟩
  ·nofun
 ·exact Nice.no
abbrev PicT:=Int×Int×LN×Bool
def z5y (q:PicT) (f:Int→Int→LN→PicT):PicT:=bif q.2.2.2 then f q.1 q.2.1 q.2.2.1 else (0,0,[],false)
def z2k (f:Nat→Int→Int→LN→PicT):Nat→Nat→Int→Int→LN→PicT
 | 0,_,a,b,l=>(a,b,l,true)
 | n+1,k,a,b,l=>z5y (f k a b l) fun a b l=>z2k f n (k+1) a b l
theorem z1w {q:PicT} {f:Int→Int→LN→PicT} (h:q.2.2.2=true):z5y q f=f q.1 q.2.1 q.2.2.1:=by unfold z5y;rw [h,cond_true]
theorem z3u {q:PicT} {f:Int→Int→LN→PicT} (h:q.2.2.2=false):z5y q f=(0,0,[],false):=by unfold z5y;rw [h,cond_false]
theorem z5a {f:Nat→Int→Int→LN→PicT} {n k:Nat} {a b:Int} {l:LN}:z2k f (n+1) k a b l=z5y (f k a b l) fun a b l=>z2k f n (k+1) a b l:=rfl
theorem zyb {f:Nat→Int→Int→LN→PicT} (hf:∀k a b l,(f k a b l).2.2.1.length≤1024):∀(n k:Nat) (a b:Int) (l:LN),l.length≤1024→(z2k f n k a b l).2.2.1.length≤1024:=by
 intro n
 induction n with
 | zero=>intro k a b l h;exact h
 | succ n ih=>
  intro k a b l h
  unfold z2k
  have h1:=hf k a b l
  generalize f k a b l=q at *
  cases hq:q.2.2.2 with
  | false=>rw [z3u hq];exact Nat.zero_le _
  | true=>rw [z1w hq];exact ih _ _ _ _ h1
def z6o (ws:LN) (sc:Nat) (back:Bool) (k:Nat) (W Hi:Int) (l:LN):PicT:=
 bif (back==((k:Int)==0)) then z5y (z2u ws sc (z2d W Hi l).1 (z2d W Hi l).2.1 (z2d W Hi l).2.2 back) fun a b c=>((z2d a b c).1,(z2d a b c).2.1,(z2d a b c).2.2,true)
 else z2u ws sc W Hi l back
theorem z15e (ws:LN) (sc:Nat) (back:Bool) (k:Nat) (W Hi:Int) (l:LN):z6o ws sc back k W Hi l=
 (bif (back==((k:Int)==0)) then z5y (z2u ws sc (z2d W Hi l).1 (z2d W Hi l).2.1 (z2d W Hi l).2.2 back) fun a b c=>((z2d a b c).1,(z2d a b c).2.1,(z2d a b c).2.2,true)
 else z2u ws sc W Hi l back):=rfl
def zgg (ws:LN) (sc:Nat) (pW:Int) (l:LN) (wide high:Int) (back:Bool):Bool×LN:=
 bif (z2k (z6o ws sc back) 2 0 wide high (picL wide.toNat high.toNat (z4r l 0 0 pW))).2.2.2 then (true,putS l (z2k (z6o ws sc back) 2 0 wide high (picL wide.toNat high.toNat (z4r l 0 0 pW))).2.2.1 pW wide 0 0 (wide*high).toNat) else (false,l)
def zob (s p:Nat) (wide high:Int) (back:Bool) (H:zp) (K:Bool→zp→Prop):Prop:=
 ∃(wa:OA) (wn we sc:Nat) (ws:LN) (pW pH:Int) (c e:Nat) (l:LN),rdN H s 0 2=some [.slice wa wn we,.float .f32 sc]∧IsL fF H wa wn ws∧ws.length<1073741824∧(∀x,wa=some x→x.block≠c)∧rdN H p 0 3=some [.int .i64 pW,.int .i64 pH,.slice (some ⟨c,0,none⟩) l.length e]∧Own H c (l.map fF)∧s≠c∧p≠c∧(l.length:Int)=pW*pH∧pW≤16∧pH≤16∧
  1≤wide∧wide≤pW∧1≤high∧high≤pH∧(∀H':zp,z3i c H H'→Own H' c ((zgg ws sc pW l wide high back).2.map fF)→K ((zgg ws sc pW l wide high back).1) H')
theorem z10x {s p:Nat} {wide high:Int} {back:Bool} {H:zp} {K:Bool→zp→Prop} (h:∃(wa:OA) (wn we sc:Nat) (ws:LN) (pW pH:Int) (c e:Nat) (l:LN),rdN H s 0 2=some [.slice wa wn we,.float .f32 sc]∧IsL fF H wa wn ws∧ws.length<1073741824∧(∀x,wa=some x→x.block≠c)∧rdN H p 0 3=some [.int .i64 pW,.int .i64 pH,.slice (some ⟨c,0,none⟩) l.length e]∧Own H c (l.map fF)∧s≠c∧p≠c∧(l.length:Int)=pW*pH∧pW≤16∧pH≤16∧
  1≤wide∧wide≤pW∧1≤high∧high≤pH∧(∀H':zp,z3i c H H'→Own H' c ((zgg ws sc pW l wide high back).2.map fF)→K ((zgg ws sc pW l wide high back).1) H')):zob s p wide high back H K:=h
def za7:Env:=envOf [(121,zuh),(126,z18q),(127,z18h),(128,z18x)]
def z17f (args:List Value) (H:zp):(Value→zp→Prop)→Prop:=match args with
 | [.pointer (some ⟨s,0,none⟩),.pointer (some ⟨p,0,none⟩),.int .i64 wide,.int .i64 high,.bool back]=>fun K=>zob s p wide high back H fun (r1:Bool) (H':zp)=>K (.bool r1) H'
 | _=>fun _=>False
def z18o:FSpec:={F:=z17f,quiet:=false,tame:=false}
theorem z1d5 (s p:Nat) (wide high:Int) (back:Bool) (H:zp) (K:KT):zw Tryz.prog za7 Tryz.f103 [.pointer (some ⟨s,0,none⟩),.pointer (some ⟨p,0,none⟩),.int .i64 wide,.int .i64 high,.bool back] H K=
 (zjb p 0 0 wide high H fun (r1:Int) (r2:Int) (a1:OA) (r3:Nat) (r4:Nat) (H1:zp)=>Al [.int .i64 0,.int .i64 0,.slice none 0 0] H1 fun b1 H2=>isOwn H2 b1∧(∃l,rdN H2 b1 0 3=some l)∧Lt (setN H2 b1 0 [.int .i64 r1,.int .i64 r2,.slice a1 r3 r4]) fun H3=>z1n (exL Tryz.prog za7 (cl (cl (cr (cl (cr (cr (zq Tryz.f103))))))) 6163 1024 [(0,2050)]) (.pointer (some ⟨s,0,none⟩)::.pointer (some ⟨p,0,none⟩)::ud2 (.bool back::ud6 (.pointer (some ⟨b1,0,none⟩)::.int .i64 0::ud30 []))) H3 (z1a 0 (seqQ (exL Tryz.prog za7 (cr (cr (cr (zq Tryz.f103)))) 1024 1024 []) (retK Tryz.prog Tryz.f103 K)))):=by kernel_rfl
abbrev zdo (b1:Nat) (back:Bool) (p s:Nat) (k:Int)  :List Value:=(.pointer (some ⟨s,0,none⟩)::.pointer (some ⟨p,0,none⟩)::ud2 (.bool back::ud6 (.pointer (some ⟨b1,0,none⟩)::.int .i64 k::ud30 [])))
theorem z1d4 (b1:Nat) (back:Bool) (p s:Nat) (k:Int)  (H:zp) (R:Post):exL Tryz.prog za7 (cl (cl (cr (cl (cr (cr (zq Tryz.f103))))))) 6163 1024 [(0,2050)] (zdo b1 back p s k) H R=
 (Br (decide ((k:Int)<2)) (Br (back==((k:Int)==0)) (zg1 b1 H fun (r5:Int) (r6:Int) (a2:OA) (r7:Nat) (r8:Nat) (H4:zp)=>isOwn H4 b1∧(∃l,rdN H4 b1 0 3=some l)∧Lt (setN H4 b1 0 [.int .i64 r5,.int .i64 r6,.slice a2 r7 r8]) fun H5=>zj8 s b1 back H5 fun (r9:Int) (r10:Int) (a3:OA) (r11:Nat) (r12:Nat) (r13:Bool) (H6:zp)=>Al [.int .i64 0,.int .i64 0,.slice none 0 0] H6 fun b2 H7=>isOwn H7 b2∧(∃l,rdN H7 b2 0 3=some l)∧Lt (setN H7 b2 0 [.int .i64 r9,.int .i64 r10,.slice a3 r11 r12]) fun H8=>Br (!r13) (R .ret (ud10 (.bool false::ud32 [])) H8) (∃(c1 c2:Int),∃vg:OA,∃(xg wg:Nat),  rdN H8 b2 0 3=some [.int .i64 c1,.int .i64 c2,.slice vg xg wg]∧isOwn H8 b1∧(∃l,rdN H8 b1 0 3=some l)∧Lt (setN H8 b1 0 [.int .i64 c1,.int .i64 c2,.slice vg xg wg]) fun H9=>Br (back==((k:Int)==0)) (zg1 b1 H9 fun (r14:Int) (r15:Int) (a4:OA) (r16:Nat) (r17:Nat) (H10:zp)=>isOwn H10 b1∧(∃l,rdN H10 b1 0 3=some l)∧Lt (setN H10 b1 0 [.int .i64 r14,.int .i64 r15,.slice a4 r16 r17]) fun H11=>R .normal (.pointer (some ⟨s,0,none⟩)::.pointer (some ⟨p,0,none⟩)::ud2 (.bool back::ud6 (.pointer (some ⟨b1,0,none⟩)::.int .i64 (IntKind.wrap .i64 (k+1))::ud30 []))) H11) (R .normal (.pointer (some ⟨s,0,none⟩)::.pointer (some ⟨p,0,none⟩)::ud2 (.bool back::ud6 (.pointer (some ⟨b1,0,none⟩)::.int .i64 (IntKind.wrap .i64 (k+1))::ud30 []))) H9))) (zj8 s b1 back H fun (r18:Int) (r19:Int) (a5:OA) (r20:Nat) (r21:Nat) (r22:Bool) (H12:zp)=>Al [.int .i64 0,.int .i64 0,.slice none 0 0] H12 fun b3 H13=>isOwn H13 b3∧(∃l,rdN H13 b3 0 3=some l)∧Lt (setN H13 b3 0 [.int .i64 r18,.int .i64 r19,.slice a5 r20 r21]) fun H14=>Br (!r22) (R .ret (ud10 (.bool false::ud32 [])) H14) (∃(c4 c5:Int),∃eh:OA,∃(gh fh:Nat),  rdN H14 b3 0 3=some [.int .i64 c4,.int .i64 c5,.slice eh gh fh]∧isOwn H14 b1∧(∃l,rdN H14 b1 0 3=some l)∧Lt (setN H14 b1 0 [.int .i64 c4,.int .i64 c5,.slice eh gh fh]) fun H15=>Br (back==((k:Int)==0)) (zg1 b1 H15 fun (r23:Int) (r24:Int) (a6:OA) (r25:Nat) (r26:Nat) (H16:zp)=>isOwn H16 b1∧(∃l,rdN H16 b1 0 3=some l)∧Lt (setN H16 b1 0 [.int .i64 r23,.int .i64 r24,.slice a6 r25 r26]) fun H17=>R .normal (.pointer (some ⟨s,0,none⟩)::.pointer (some ⟨p,0,none⟩)::ud2 (.bool back::ud6 (.pointer (some ⟨b1,0,none⟩)::.int .i64 (IntKind.wrap .i64 (k+1))::ud30 []))) H17) (R .normal (.pointer (some ⟨s,0,none⟩)::.pointer (some ⟨p,0,none⟩)::ud2 (.bool back::ud6 (.pointer (some ⟨b1,0,none⟩)::.int .i64 (IntKind.wrap .i64 (k+1))::ud30 []))) H15)))) (R (.exit 0) (ud::.pointer (some ⟨p,0,none⟩)::ud9 (.pointer (some ⟨b1,0,none⟩)::ud31 [])) H)):=by kernel_rfl
def zmn (b1:Nat) (back:Bool) (p s:Nat) (Inv:Nat→Int→zp→Prop):Nat→List Value→zp→Prop:=fun μ tm H=>∃k:Int,tm=(zdo b1 back p s k)∧Inv μ k H
theorem z1d2 (b1:Nat) (back:Bool) (p s:Nat) {Q:Post} (Inv:Nat→Int→zp→Prop) (ν:Nat) (k:Int)  (H:zp) (h0:Inv ν k H)
  (hs:∀(μ:Nat) (k:Int)  (H:zp),Inv μ k H→exL Tryz.prog za7 (cl (cl (cr (cl (cr (cr (zq Tryz.f103))))))) 6163 1024 [(0,2050)] (zdo b1 back p s k) H (z1b (zmn b1 back p s Inv) μ Q)):z1n (exL Tryz.prog za7 (cl (cl (cr (cl (cr (cr (zq Tryz.f103))))))) 6163 1024 [(0,2050)]) (zdo b1 back p s k) H Q:=
 ⟨zmn b1 back p s Inv,ν,⟨k,rfl,h0⟩,fun μ tm H h=>by obtain ⟨k,rfl,hI⟩:=h;exact hs μ k  H hI⟩
theorem zwd {b1:Nat} {back:Bool} {p s:Nat} {Q:Post} {Inv:Nat→Int→zp→Prop} {μ:Nat} (μ':Nat) {k:Int}  {H:zp} (hm:μ'<μ) (hI:Inv μ' k H):z1b (zmn b1 back p s Inv) μ Q .normal (zdo b1 back p s k) H:=⟨μ',hm,k,rfl,hI⟩
theorem zwe (b1 p:Nat) (H:zp) (K:KT)  {I:Nat→List Value→zp→Prop} {μ:Nat}:z1b I μ (z1a 0 (seqQ (exL Tryz.prog za7 (cr (cr (cr (zq Tryz.f103)))) 1024 1024 []) (retK Tryz.prog Tryz.f103 K))) (.exit 0) (ud::.pointer (some ⟨p,0,none⟩)::ud9 (.pointer (some ⟨b1,0,none⟩)::ud31 [])) H=
 (zok p b1 0 0 H fun  (H18:zp)=>K (.bool true) H18):=by kernel_rfl
theorem zdp (t10:Bool) (H:zp) (K:KT)  {I:Nat→List Value→zp→Prop} {μ:Nat}:z1b I μ (z1a 0 (seqQ (exL Tryz.prog za7 (cr (cr (cr (zq Tryz.f103)))) 1024 1024 []) (retK Tryz.prog Tryz.f103 K))) .ret (ud10 (.bool t10::ud32 [])) H=
 (K (.bool t10) H):=by kernel_rfl
theorem ztm:∀g,FnOk Tryz.prog g (za7 g):=FnOk.envOf (by
 intro x hx
 simp only [List.mem_cons,List.not_mem_nil,or_false] at hx
 rcases hx with rfl | rfl | rfl | rfl
 ·exact zw8
 ·exact z1dd
 ·exact z1ce
 ·exact f25z_ok)
theorem zwc (s p:Nat) (wide high:Int) (back:Bool) (H:zp) (K:KT) (h:zob s p wide high back H fun (r1:Bool) (H':zp)=>K (.bool r1) H'):zw Tryz.prog za7 Tryz.f103 [.pointer (some ⟨s,0,none⟩),.pointer (some ⟨p,0,none⟩),.int .i64 wide,.int .i64 high,.bool back] H K:=by
 rw [z1d5]
 obtain ⟨wa,wn,we,sc,ws,pW,pH,c,e,l,h1,iw,bw,hwc,h2,oc,hsc,hpc,hl,hW,hH,w1,w2,w3,w4,hk⟩:=h
 obtain rfl:=iw.eqn
 have ep:zgg ws sc pW l wide high back=(bif (z2k (z6o ws sc back) 2 0 wide high (picL wide.toNat high.toNat (z4r l 0 0 pW))).2.2.2 then (true,putS l (z2k (z6o ws sc back) 2 0 wide high (picL wide.toNat high.toNat (z4r l 0 0 pW))).2.2.1 pW wide 0 0 (wide*high).toNat) else (false,l)):=rfl
 rw [ep] at hk
 have cl:=oc.lt
 have hll:=z5h (W:=pW) (H:=pH) ω2 hW ω2 hH
 have hwh:=z5h (W:=wide) (H:=high) w1 ω2 w3 ω2
 have il:IsL fF H (some ⟨c,0,none⟩) l.length l:=(oc.ownS rfl (Nat.zero_le c)).isL
 refine zo9 ⟨pW,pH,_,_,e,l,h2,il,by omega,by omega,by omega,w1,w3,by omega,by omega,hW,hH,hl,fun a n ne H1 g1 wc=>?_⟩
 rw [zc1 pW pH l 0 0 wide high w1 w3] at wc ⊢
 dsimp only at wc ⊢
 have hC:((picL wide.toNat high.toNat (z4r l 0 0 pW)).length:Int)=wide*high:=by rw [z2h,Int.natCast_mul,Int.toNat_of_nonneg ω2,Int.toNat_of_nonneg ω2,Int.mul_comm]
 generalize picL wide.toNat high.toNat (z4r l 0 0 pW)=C at *
 refine Al.intro fun b1 H2 e2 l2 g2 o2=>Lt.setN o2 (n:=3) ω22 rfl fun H3 l3 o3 k3=>?_
 have upc:=wc.up
 have loc:=wc.lo
 have gg1:=g1.1
 have G3:Grow H H3:=(g1.trans g2).keep ω2 k3
 have wc3:=(wc.grow g2).keepA (fun x y hx hy=>by cases hx;have:=upc y hy;show b1≠_;omega) (OwnS.keep1 k3)
 refine z1d2 b1 back p s (fun μ t H'=>∃(k:Nat) (nl:LN),t=(k:Int)∧k≤2∧μ=2-k∧(nl.length:Int)=wide*high∧z2k (z6o ws sc back) (2-k) k wide high nl=z2k (z6o ws sc back) 2 0 wide high C∧z3i b1 H3 H'∧∃(na:OA) (nn ne:Nat),Own H' b1 [.int .i64 wide,.int .i64 high,.slice na nn ne]∧OwnS fF H' H.length na nn ne nl) 2 0 H3
  ⟨0,C,rfl,Nat.zero_le _,rfl,hC,rfl,⟨Nat.le_refl _,fun _ _ _=>rfl⟩,a,n,ne,o3,wc3⟩ ?_
 intro μ t H' hI
 obtain ⟨k,nl,rfl,hkm,rfl,hnl,hit,kp,na,nn,ne',ob,os⟩:=hI
 have lkp:=kp.1
 have GG:Grow H H':=G3.keep ω2 kp
 have os2:=os.len
 subst os2
 have lo:=os.lo
 have up:=os.up
 rw [z1d4]
 refine Br.intro (fun hd=>?_) (fun hd=>?_)
 ·have hd':=odt hd
  have hk2:k<2:=by omega
  obtain ⟨j,hj⟩:∃j,2-k=j+1:=⟨2-k-1,by omega⟩
  rw [hj,z5a] at hit
  rw [z15e] at hit
  rw [show IntKind.wrap .i64 ((k:Int)+1)=(k:Int)+1 from zt ω2 ω2]
  refine Br.intro (fun hc=>?_) (fun hc=>?_)
  ·rw [hc,cond_true] at hit
   refine zod ⟨wide,high,na,nl.length,ne',nl,(ob.rdN (nbl rfl)).trans rfl,os.isL,by omega,w1,by omega,w3,by omega,hnl,fun a4 n4 e4 H4 g4 w4=>?_⟩
   obtain ⟨s1,s2,s3⟩:=ze1 wide high nl w1 w3
   generalize z2d wide high nl=q at *
   have gg4:=g4.1
   refine Lt.setN (ob.grow g4) (n:=3) (nbl rfl) rfl fun H5 l5 o5 k5=>?_
   have obl:=ob.lt
   have lo4:=w4.lo
   have w5:=w4.keepA (fun x y hx hy=>by cases hx;have:=lo4 y hy;show b1≠_;omega) (OwnS.keep1 k5)
   have G5:Grow H H5:=(GG.trans g4).keep ω2 k5
   refine zo2 ⟨wa,ws.length,we,sc,q.1,q.2.1,a4,n4,e4,ws,q.2.2,zr G5 h1,(o5.rdN (nbl rfl)).trans rfl,iw.grow G5,w5.isL,bw,by omega,by omega,by omega,by omega,by omega,by rw [s1,s2,Int.mul_comm];exact s3,fun a6 n6 e6 H6 g6 w6=>?_⟩
   have md:=z7z (ws:=ws) (sc:=sc) (W:=q.1) (Hi:=q.2.1) (l:=q.2.2) (back:=back) ω2 ω2 (by rw [s1,s2,Int.mul_comm];exact s3)
   generalize z2u ws sc q.1 q.2.1 q.2.2 back=r at *
   have gg6:=g6.1
   have lo6:=w6.lo
   have up6:=w6.up
   refine Al.intro fun b2 H7 e7 l7 g7 o7=>Lt.setN o7 (n:=3) ω22 rfl fun H8 l8 o8 k8=>?_
   have w8:=(w6.grow g7).keepA (fun x y hx hy=>by cases hx;have:=up6 y hy;show b2≠_;omega) (OwnS.keep1 k8)
   have ob8:=((o5.grow g6).grow g7).keep (b':=b2) ω2 k8
   have G8:Grow H H8:=((G5.trans g6).trans g7).keep (by have:=G5.1;omega) k8
   refine Br.intro (fun hp=>?_) (fun hp=>?_)
   ·rw [z3u (z1g hp),z3u rfl] at hit
    rw [←hit] at hk
    rw [zdp]
    exact hk H8 ⟨G8.1,fun i hi _=>G8.2 i hi⟩ (oc.grow G8)
   ·rw [z1w (z1d hp),z1w rfl] at hit
    obtain ⟨d1,d2,d3⟩:=md (z1d hp)
    refine ⟨r.1,r.2.1,a6,n6,e6,(o8.rdN (nbl rfl)).trans rfl,?_⟩
    refine Lt.setN ob8 (n:=3) (nbl rfl) rfl fun H9 l9 o9 k9=>?_
    have w9:=w8.keepA (fun x y hx hy=>by cases hx;have:=lo6 y hy;show b1≠_;omega) (OwnS.keep1 k9)
    refine Br.intro (fun hc2=>?_) (fun hc2=>by rw [hc] at hc2;cases hc2)
    have dr:(r.2.2.1.length:Int)=r.1*r.2.1:=by rw [d1,d2];exact d3
    refine zod ⟨r.1,r.2.1,a6,n6,e6,r.2.2.1,(o9.rdN (nbl rfl)).trans rfl,w9.isL,by rw [d1,d2,s1,s2] at dr;rw [Int.mul_comm] at dr;omega,by omega,by omega,by omega,by omega,dr,fun a10 n10 e10 H10 g10 w10=>?_⟩
    obtain ⟨t1,t2,t3⟩:=ze1 r.1 r.2.1 r.2.2.1 ω2 ω2
    generalize z2d r.1 r.2.1 r.2.2.1=v at *
    have gg10:=g10.1
    refine Lt.setN (o9.grow g10) (n:=3) (nbl rfl) rfl fun H11 l11 o11 k11=>?_
    have lo10:=w10.lo
    have e1:v.1=wide:=by omega
    have e2:v.2.1=high:=by omega
    have o11':Own H11 b1 [.int .i64 v.1,.int .i64 v.2.1,.slice a10 n10 e10]:=o11
    rw [e1,e2] at o11' hit
    refine zwd (2-(k+1)) ω2 ⟨k+1,v.2.2,by omega,by omega,rfl,by rw [t3,d1,d2,s1,s2,Int.mul_comm],by rw [show 2-(k+1)=j by omega];exact hit,?_,a10,n10,e10,o11',?_⟩
    ·refine ⟨by omega,fun i hi hne=>?_⟩
     rw [k11.2 i ω2 hne,g10.2 i ω2,k9.2 i ω2 hne,k8.2 i ω2 ω2,g7.2 i ω2,g6.2 i ω2,k5.2 i ω2 hne,g4.2 i ω2,kp.2 i hi hne]
    ·exact (w10.keepA (fun x y hx hy=>by cases hx;have:=lo10 y hy;show b1≠_;omega) (OwnS.keep1 k11)).weak (by have:=GG.1;omega)
  ·rw [hc,cond_false] at hit
   refine zo2 ⟨wa,ws.length,we,sc,wide,high,na,nl.length,ne',ws,nl,zr GG h1,(ob.rdN (nbl rfl)).trans rfl,iw.grow GG,os.isL,bw,by omega,w1,by omega,w3,by omega,hnl,fun a6 n6 e6 H6 g6 w6=>?_⟩
   have md:=z7z (ws:=ws) (sc:=sc) (W:=wide) (Hi:=high) (l:=nl) (back:=back) w1 w3 hnl
   generalize z2u ws sc wide high nl back=r at *
   have gg6:=g6.1
   have obl:=ob.lt
   have lo6:=w6.lo
   have up6:=w6.up
   refine Al.intro fun b2 H7 e7 l7 g7 o7=>Lt.setN o7 (n:=3) ω22 rfl fun H8 l8 o8 k8=>?_
   have w8:=(w6.grow g7).keepA (fun x y hx hy=>by cases hx;have:=up6 y hy;show b2≠_;omega) (OwnS.keep1 k8)
   have ob8:=((ob.grow g6).grow g7).keep (b':=b2) ω2 k8
   have G8:Grow H H8:=((GG.trans g6).trans g7).keep (by have:=GG.1;omega) k8
   refine Br.intro (fun hp=>?_) (fun hp=>?_)
   ·rw [z3u (z1g hp)] at hit
    rw [←hit] at hk
    rw [zdp]
    exact hk H8 ⟨G8.1,fun i hi _=>G8.2 i hi⟩ (oc.grow G8)
   ·rw [z1w (z1d hp)] at hit
    obtain ⟨d1,d2,d3⟩:=md (z1d hp)
    refine ⟨r.1,r.2.1,a6,n6,e6,(o8.rdN (nbl rfl)).trans rfl,?_⟩
    refine Lt.setN ob8 (n:=3) (nbl rfl) rfl fun H9 l9 o9 k9=>?_
    have w9:=w8.keepA (fun x y hx hy=>by cases hx;have:=lo6 y hy;show b1≠_;omega) (OwnS.keep1 k9)
    refine Br.intro (fun hc2=>by rw [hc] at hc2;cases hc2) (fun hc2=>?_)
    have o9':Own H9 b1 [.int .i64 r.1,.int .i64 r.2.1,.slice a6 n6 e6]:=o9
    rw [d1,d2] at o9' hit
    refine zwd (2-(k+1)) ω2 ⟨k+1,r.2.2.1,by omega,by omega,rfl,d3,by rw [show 2-(k+1)=j by omega];exact hit,?_,a6,n6,e6,o9',?_⟩
    ·refine ⟨by omega,fun i hi hne=>?_⟩
     rw [k9.2 i ω2 hne,k8.2 i ω2 ω2,g7.2 i ω2,g6.2 i ω2,kp.2 i hi hne]
    ·exact w9.weak (by have:=GG.1;omega)
 ·have hd':=odf hd
  obtain rfl:k=2:=by omega
  rw [Nat.sub_self] at hit
  rw [←hit] at hk
  rw [zwe]
  refine z11g ⟨pW,pH,c,e,l,wide,high,na,nl.length,ne',nl,zr GG h2,oc.grow GG,(ob.rdN (nbl rfl)).trans rfl,os.isL,fun x hx=>by have:=lo x hx;omega,hpc,by omega,hl,hnl,by omega,by omega,w1,w3,by omega,by omega,hW,hH,fun H18 k18 o18=>?_⟩
  exact hk H18 ⟨Nat.le_trans GG.1 k18.1,fun i hi hne=>(k18.2 i (by have:=GG.1;omega) hne).trans (GG.2 i hi)⟩ o18
theorem z1d3:FnOk Tryz.prog 103 z18o:=FnOk.bodyF mix_ok ztm Tryz.func103 rfl ω10 ω10 fun args H=>by
 unfold z17f
 split
 ·refine ⟨?_,?_,?_,?_,fun K hk=>zwc _ _ _ _ _ H K hk⟩
  ·intro K K' h hk;obtain ⟨wa,wn,we,sc,ws,pW,pH,c,e,l,h1,iw,bw,hwc,h2,oc,hsc,hpc,hl,hW,hH,w1,w2,w3,w4,k⟩:=hk;exact ⟨wa,wn,we,sc,ws,pW,pH,c,e,l,h1,iw,bw,hwc,h2,oc,hsc,hpc,hl,hW,hH,w1,w2,w3,w4,(fun H' kk ow=>h _ _ (k H' kk ow))⟩
  ·nofun
  ·intro K hk;obtain ⟨wa,wn,we,sc,ws,pW,pH,c,e,l,h1,iw,bw,hwc,h2,oc,hsc,hpc,hl,hW,hH,w1,w2,w3,w4,k⟩:=hk;exact (oc.putX _).elim fun H1 h=>⟨_,_,k H1 h.1 h.2⟩
  ·nofun
 ·exact Nice.no
def z8i (Q:Int→Int→LN→PicT) (W Hi:Int) (l:LN) (w h:Int):PicT:=bif (Q w h (picL w.toNat h.toNat (z4r l 0 0 W))).2.2.2 then (W,Hi,putS l (Q w h (picL w.toNat h.toNat (z4r l 0 0 W))).2.2.1 W w 0 0 (w*h).toNat,true) else (0,0,[],false)
def znk (ws:LN) (sc:Nat) (W Hi:Int) (back:Bool) (kk a b:Int) (l:LN):PicT:=z8i (fun W Hi l=>z2k (z6o ws sc back) 2 0 W Hi l) a b l (zx W Hi kk).1 (zx W Hi kk).2
theorem z19x {H:zp} {b off n:Nat} {l:List Value} (h:rdN H b off n=some l):b<H.length:=by
 unfold rdN rdB at h
 by_cases hb:b<H.length
 ·exact hb
 ·rw [List.getElem?_eq_none ω2] at h;cases h
theorem z1jl {α:Type} {f:α→Value} {H:zp} {a:OA} {n:Nat} {xs:List α} (h:IsL f H a n xs) (hn:1≤n):∀x,a=some x→x.block<H.length:=by
 intro x hx
 obtain ⟨b,off,rfl,hc⟩:=h.cell ω2
 cases hx
 have hl:=h.len
 have hx0:xs[0]? =some (xs[0]'ω2):=List.getElem?_eq_getElem ω2
 have hr:=hc 0 _ hx0
 show b<H.length
 unfold rdC rdB at hr
 by_cases hb:b<H.length
 ·exact hb
 ·rw [List.getElem?_eq_none ω2] at hr;cases hr
def z5r (ws:LN) (sc:Nat) (W Hi:Int) (l:LN) (levels:Int):PicT:=z2k (fun (k:Nat) a b l=>znk ws sc W Hi false (k:Int) a b l) levels.toNat 0 W Hi l
def zoa (s p:Nat) (levels:Int) (H:zp) (K:Int→Int→OA→Nat→Nat→Bool→zp→Prop):Prop:=
 ∃(wa:OA) (wn we sc:Nat) (ws:LN) (W Hi:Int) (pa:OA) (pn pe:Nat) (l:LN),rdN H s 0 2=some [.slice wa wn we,.float .f32 sc]∧IsL fF H wa wn ws∧ws.length<1073741824∧1≤wn∧rdN H p 0 3=some [.int .i64 W,.int .i64 Hi,.slice pa pn pe]∧IsL fF H pa pn l∧1≤W∧W≤16∧1≤Hi∧Hi≤16∧(l.length:Int)=W*Hi∧1≤levels∧levels≤4∧
  (∀(od:OA) (xd vd:Nat),∀H':zp,Grow H H'→OwnS fF H' H.length od xd vd (z5r ws sc W Hi l levels).2.2.1→K (z5r ws sc W Hi l levels).1 (z5r ws sc W Hi l levels).2.1 od xd vd (z5r ws sc W Hi l levels).2.2.2 H')
theorem z10w {s p:Nat} {levels:Int} {H:zp} {K:Int→Int→OA→Nat→Nat→Bool→zp→Prop} (h:∃(wa:OA) (wn we sc:Nat) (ws:LN) (W Hi:Int) (pa:OA) (pn pe:Nat) (l:LN),rdN H s 0 2=some [.slice wa wn we,.float .f32 sc]∧IsL fF H wa wn ws∧ws.length<1073741824∧1≤wn∧rdN H p 0 3=some [.int .i64 W,.int .i64 Hi,.slice pa pn pe]∧IsL fF H pa pn l∧1≤W∧W≤16∧1≤Hi∧Hi≤16∧(l.length:Int)=W*Hi∧1≤levels∧levels≤4∧
  (∀(od:OA) (xd vd:Nat),∀H':zp,Grow H H'→OwnS fF H' H.length od xd vd (z5r ws sc W Hi l levels).2.2.1→K (z5r ws sc W Hi l levels).1 (z5r ws sc W Hi l levels).2.1 od xd vd (z5r ws sc W Hi l levels).2.2.2 H')):zoa s p levels H K:=h
def za6:Env:=envOf [(101,z18w),(102,zuc),(103,z18o)]
def z17e (args:List Value) (H:zp):(Value→zp→Prop)→Prop:=match args with
 | [.pointer (some ⟨s,0,none⟩),.pointer (some ⟨p,0,none⟩),.int .i64 levels]=>fun K=>zoa s p levels H fun (tc:Int) (nc:Int) (ma:OA) (sa:Nat) (oa:Nat) (r2:Bool) (H':zp)=>K (.tuple #[.agg #[.int .i64 tc,.int .i64 nc,.slice ma sa oa],.bool r2]) H'
 | _=>fun _=>False
def z18n:FSpec:={F:=z17e,quiet:=false,tame:=false}
theorem z1d1 (s p:Nat) (levels:Int) (H:zp) (K:KT):zw Tryz.prog za6 Tryz.f62 [.pointer (some ⟨s,0,none⟩),.pointer (some ⟨p,0,none⟩),.int .i64 levels] H K=
 (Al [.int .i64 0,.int .i64 0,.slice none 0 0] H fun b1 H1=>zoj p H1 fun (r1:Int) (r2:Int) (a1:OA) (r3:Nat) (r4:Nat) (H2:zp)=>Al [.int .i64 0,.int .i64 0,.slice none 0 0] H2 fun b2 H3=>isOwn H3 b2∧(∃l,rdN H3 b2 0 3=some l)∧Lt (setN H3 b2 0 [.int .i64 r1,.int .i64 r2,.slice a1 r3 r4]) fun H4=>z1n (exL Tryz.prog za6 (cl (cl (cr (cl (cr (cr (zq Tryz.f62))))))) 839 192 [(0,320)]) (.pointer (some ⟨s,0,none⟩)::.pointer (some ⟨p,0,none⟩)::.int .i64 levels::ud3 (.pointer (some ⟨b1,0,none⟩)::ud::.pointer (some ⟨b2,0,none⟩)::.int .i64 0::ud29 [])) H4 (z1a 0 (seqQ (exL Tryz.prog za6 (cr (cr (cr (zq Tryz.f62)))) 192 192 []) (retK Tryz.prog Tryz.f62 K)))):=by kernel_rfl
abbrev zdn (b1 b2:Nat) (levels:Int) (p s:Nat) (k:Int)  :List Value:=(.pointer (some ⟨s,0,none⟩)::.pointer (some ⟨p,0,none⟩)::.int .i64 levels::ud3 (.pointer (some ⟨b1,0,none⟩)::ud::.pointer (some ⟨b2,0,none⟩)::.int .i64 k::ud29 []))
theorem z1d0 (b1 b2:Nat) (levels:Int) (p s:Nat) (k:Int)  (H:zp) (R:Post):exL Tryz.prog za6 (cl (cl (cr (cl (cr (cr (zq Tryz.f62))))))) 839 192 [(0,320)] (zdn b1 b2 levels p s k) H R=
 (Br (decide ((k:Int)<levels)) (∃x1:Int,  rdC H p 1=some (.int .i64 x1)∧∃x2:Int,  rdC H p 0=some (.int .i64 x2)∧zfz x2 x1 k H fun (r5:Int) (r6:Int) (H5:zp)=>zob s b2 r5 r6 false H5 fun (r7:Bool) (H6:zp)=>Br (!r7) (isOwn H6 b1∧(∃l,rdN H6 b1 0 3=some l)∧Lt (setN H6 b1 0 [.int .i64 0,.int .i64 0,.slice none 0 0]) fun H7=>R .ret (ud6 (.pointer (some ⟨b1,0,none⟩)::.bool false::ud31 [])) H7) (R .normal (.pointer (some ⟨s,0,none⟩)::.pointer (some ⟨p,0,none⟩)::.int .i64 levels::ud3 (.pointer (some ⟨b1,0,none⟩)::ud::.pointer (some ⟨b2,0,none⟩)::.int .i64 (IntKind.wrap .i64 (k+1))::ud29 [])) H6)) (R (.exit 0) (ud6 (.pointer (some ⟨b1,0,none⟩)::ud::.pointer (some ⟨b2,0,none⟩)::ud30 [])) H)):=by kernel_rfl
def zml (b1 b2:Nat) (levels:Int) (p s:Nat) (Inv:Nat→Int→zp→Prop):Nat→List Value→zp→Prop:=fun μ tm H=>∃k:Int,tm=(zdn b1 b2 levels p s k)∧Inv μ k H
theorem z1cx (b1 b2:Nat) (levels:Int) (p s:Nat) {Q:Post} (Inv:Nat→Int→zp→Prop) (ν:Nat) (k:Int)  (H:zp) (h0:Inv ν k H)
  (hs:∀(μ:Nat) (k:Int)  (H:zp),Inv μ k H→exL Tryz.prog za6 (cl (cl (cr (cl (cr (cr (zq Tryz.f62))))))) 839 192 [(0,320)] (zdn b1 b2 levels p s k) H (z1b (zml b1 b2 levels p s Inv) μ Q)):z1n (exL Tryz.prog za6 (cl (cl (cr (cl (cr (cr (zq Tryz.f62))))))) 839 192 [(0,320)]) (zdn b1 b2 levels p s k) H Q:=
 ⟨zml b1 b2 levels p s Inv,ν,⟨k,rfl,h0⟩,fun μ tm H h=>by obtain ⟨k,rfl,hI⟩:=h;exact hs μ k  H hI⟩
theorem z1cy {b1 b2:Nat} {levels:Int} {p s:Nat} {Q:Post} {Inv:Nat→Int→zp→Prop} {μ:Nat} (μ':Nat) {k:Int}  {H:zp} (hm:μ'<μ) (hI:Inv μ' k H):z1b (zml b1 b2 levels p s Inv) μ Q .normal (zdn b1 b2 levels p s k) H:=⟨μ',hm,k,rfl,hI⟩
theorem zwb (b1 b2:Nat) (H:zp) (K:KT)  {I:Nat→List Value→zp→Prop} {μ:Nat}:z1b I μ (z1a 0 (seqQ (exL Tryz.prog za6 (cr (cr (cr (zq Tryz.f62)))) 192 192 []) (retK Tryz.prog Tryz.f62 K))) (.exit 0) (ud6 (.pointer (some ⟨b1,0,none⟩)::ud::.pointer (some ⟨b2,0,none⟩)::ud30 [])) H=
 (∃(c1 c2:Int),∃vg:OA,∃(xg wg:Nat),  rdN H b2 0 3=some [.int .i64 c1,.int .i64 c2,.slice vg xg wg]∧isOwn H b1∧(∃l,rdN H b1 0 3=some l)∧Lt (setN H b1 0 [.int .i64 c1,.int .i64 c2,.slice vg xg wg]) fun H8=>∃(c4 c5:Int),∃eh:OA,∃(gh fh:Nat),  rdN H8 b1 0 3=some [.int .i64 c4,.int .i64 c5,.slice eh gh fh]∧K (.tuple #[.agg #[.int .i64 c4,.int .i64 c5,.slice eh gh fh],.bool true]) H8):=by kernel_rfl
theorem zmm (b1:Nat) (t7:Bool) (H:zp) (K:KT)  {I:Nat→List Value→zp→Prop} {μ:Nat}:z1b I μ (z1a 0 (seqQ (exL Tryz.prog za6 (cr (cr (cr (zq Tryz.f62)))) 192 192 []) (retK Tryz.prog Tryz.f62 K))) .ret (ud6 (.pointer (some ⟨b1,0,none⟩)::.bool t7::ud31 [])) H=
 (∃(c7 c8:Int),∃sh:OA,∃(uh th:Nat),  rdN H b1 0 3=some [.int .i64 c7,.int .i64 c8,.slice sh uh th]∧K (.tuple #[.agg #[.int .i64 c7,.int .i64 c8,.slice sh uh th],.bool t7]) H):=by kernel_rfl
theorem ztl:∀g,FnOk Tryz.prog g (za6 g):=FnOk.envOf (by
 intro x hx
 simp only [List.mem_cons,List.not_mem_nil,or_false] at hx
 rcases hx with rfl | rfl | rfl
 ·exact f24z_ok
 ·exact f13z_ok
 ·exact z1d3)
theorem zwa (s p:Nat) (levels:Int) (H:zp) (K:KT) (h:zoa s p levels H fun (tc:Int) (nc:Int) (ma:OA) (sa:Nat) (oa:Nat) (r2:Bool) (H':zp)=>K (.tuple #[.agg #[.int .i64 tc,.int .i64 nc,.slice ma sa oa],.bool r2]) H'):zw Tryz.prog za6 Tryz.f62 [.pointer (some ⟨s,0,none⟩),.pointer (some ⟨p,0,none⟩),.int .i64 levels] H K:=by
 rw [z1d1]
 obtain ⟨wa,wn,we,sc,ws,W,Hi,pa,pn,pe,l,h1,iw,bw,w0,h2,il,w1,w2,w3,w4,hl,v1,v2,hk⟩:=h
 obtain rfl:=iw.eqn
 obtain rfl:=il.eqn
 have wlt:=z1jl iw w0
 have slt:=z19x h1
 have plt:=z19x h2
 have e:z5r ws sc W Hi l levels=z2k (fun (k:Nat) a b l=>znk ws sc W Hi false (k:Int) a b l) levels.toNat 0 W Hi l:=rfl
 rw [e] at hk
 obtain ⟨m,rfl⟩:∃m:Nat,levels=(m:Int):=⟨levels.toNat,by omega⟩
 rw [Int.toNat_natCast] at hk
 have hll:=z5h (W:=W) (H:=Hi) w1 w2 w3 w4
 refine Al.intro fun b1 H1 e1 l1 g1 o1=>z11f ⟨W,Hi,pa,l.length,pe,l,zr g1 h2,il.grow g1,by omega,fun a n ne H2 g2 wo=>?_⟩
 have eo:zbk W Hi l=(W,Hi,l):=rfl
 rw [eo] at wo ⊢
 dsimp only at wo ⊢
 obtain ⟨rfl,⟨_,hn⟩ | ⟨c,rfl,oc,rfl,loc⟩⟩:=wo
 ·rw [hn] at hl;simp at hl;omega
 have clt:=oc.lt
 refine Al.intro fun b2 H3 e3 l3 g3 o3=>Lt.setN o3 (n:=3) ω22 rfl fun H4 l4 o4 k4=>?_
 have gg1:=g1.1
 have gg2:=g2.1
 have G4:Grow H H4:=((g1.trans g2).trans g3).keep ω2 k4
 have oc4:=(oc.grow g3).keep (b':=b2) ω2 k4
 have ob4:=((o1.grow g2).grow g3).keep (b':=b2) (by have:=o1.lt;omega) k4
 have hle4:=G4.1
 have hl1:=o1.lt
 refine z1cx b1 b2 (m:Int) p s (fun μ t H'=>∃(k:Nat) (nl:LN),t=(k:Int)∧k≤m∧μ=m-k∧nl.length=l.length∧z2k (fun (k:Nat) a b l=>znk ws sc W Hi false (k:Int) a b l) (m-k) k W Hi nl=z2k (fun (k:Nat) a b l=>znk ws sc W Hi false (k:Int) a b l) m 0 W Hi l∧z3i c H4 H'∧Own H' c (nl.map fF)) m 0 H4
  ⟨0,l,by rfl,Nat.zero_le _,rfl,rfl,rfl,⟨Nat.le_refl _,fun _ _ _=>rfl⟩,oc4⟩ ?_
 intro μ t H' hI
 obtain ⟨k,nl,rfl,hkm,rfl,hnl,hit,kp,oc'⟩:=hI
 have lkp:=kp.1
 have GG:Grow H H':=⟨Nat.le_trans G4.1 kp.1,fun i hi=>(kp.2 i ω2 ω2).trans (G4.2 i hi)⟩
 have t1:=ob4.keep (b':=c) ω2 kp
 have t2:=o4.keep (b':=c) ω2 kp
 rw [z1d0]
 refine Br.intro (fun hd=>?_) (fun hd=>?_)
 ·have hd':=odt hd
  have hkm':k<m:=by omega
  obtain ⟨j,hj⟩:∃j,m-k=j+1:=⟨m-k-1,by omega⟩
  rw [hj,z5a] at hit
  have r2:=zr GG h2
  refine ⟨Hi,(z1l r2 1 ω22).trans rfl,W,(z1l r2 0 ω22).trans rfl,w1,w2,w3,w4,by omega,?_⟩
  obtain ⟨v3,v4,v5,v6⟩:=z2z W Hi ((k:Int)) ⟨w1,w2,w3,w4⟩
  refine z10x ⟨wa,ws.length,we,sc,ws,W,Hi,c,1,nl,zr GG h1,iw.grow GG,bw,fun x hx=>by have:=wlt x hx;omega,?_,oc',by omega,by omega,by rw [hnl];exact hl,w2,w4,v3,v4,v5,v6,fun H5 k5 o5=>?_⟩
  ·rw [hnl];exact (t2.rdN (nbl rfl)).trans rfl
  have lk5:=k5.1
  have t1':=t1.keep (b':=c) ω2 k5
  have es:znk ws sc W Hi false (k:Int) W Hi nl=z8i (fun W Hi l=>z2k (z6o ws sc false) 2 0 W Hi l) W Hi nl (zx W Hi ((k:Int))).1 (zx W Hi ((k:Int))).2:=rfl
  rw [es] at hit
  generalize (zx W Hi ((k:Int))).1=hw at *
  generalize (zx W Hi ((k:Int))).2=hh at *
  have eo1:zgg ws sc W nl hw hh false=(bif (z2k (z6o ws sc false) 2 0 hw hh (picL hw.toNat hh.toNat (z4r nl 0 0 W))).2.2.2 then (true,putS nl (z2k (z6o ws sc false) 2 0 hw hh (picL hw.toNat hh.toNat (z4r nl 0 0 W))).2.2.1 W hw 0 0 (hw*hh).toNat) else (false,nl)):=rfl
  have ep:z8i (fun W Hi l=>z2k (z6o ws sc false) 2 0 W Hi l) W Hi nl hw hh=(bif (z2k (z6o ws sc false) 2 0 hw hh (picL hw.toNat hh.toNat (z4r nl 0 0 W))).2.2.2 then (W,Hi,putS nl (z2k (z6o ws sc false) 2 0 hw hh (picL hw.toNat hh.toNat (z4r nl 0 0 W))).2.2.1 W hw 0 0 (hw*hh).toNat,true) else (0,0,[],false)):=rfl
  rw [eo1] at o5 ⊢
  rw [ep] at hit
  generalize z2k (z6o ws sc false) 2 0 hw hh (picL hw.toNat hh.toNat (z4r nl 0 0 W))=q at *
  refine Br.intro (fun hp=>?_) (fun hp=>?_)
  ·cases hq:q.2.2.2 with
   | true=>rw [hq,cond_true] at hp;cases hp
   | false=>
    rw [hq,cond_false] at hit
    rw [z3u rfl] at hit
    rw [←hit] at hk
    refine Lt.setN t1' (n:=3) ω22 rfl fun H6 l6 q6 k6=>?_
    rw [zmm]
    refine ⟨0,0,none,0,0,(q6.rdN (nbl rfl)).trans rfl,?_⟩
    refine hk none 0 0 H6 ⟨by omega,fun i hi=>?_⟩ (OwnS.nil _ _ _ _)
    rw [k6.2 i ω2 ω2,k5.2 i ω2 ω2,GG.2 i hi]
  ·cases hq:q.2.2.2 with
   | false=>rw [hq,cond_false] at hp;cases hp
   | true=>
    rw [hq,cond_true] at hit o5
    rw [z1w rfl] at hit
    dsimp only at hit o5
    refine z1cy (m-(k+1)) ω2 ⟨k+1,_,by rw [zt ω2 ω2];omega,by omega,rfl,by rw [z8j];exact hnl,by rw [show m-(k+1)=j by omega];exact hit,⟨Nat.le_trans kp.1 k5.1,fun i hi hne=>(k5.2 i ω2 hne).trans (kp.2 i hi hne)⟩,o5⟩
 ·have hd':=odf hd
  obtain rfl:k=m:=by omega
  rw [Nat.sub_self] at hit
  rw [←hit] at hk
  rw [zwb]
  refine ⟨W,Hi,_,_,_,(t2.rdN (nbl rfl)).trans rfl,Lt.setN t1 (n:=3) (nbl rfl) rfl fun H7 l7 q7 k7=>⟨W,Hi,_,_,_,(q7.rdN (nbl rfl)).trans rfl,?_⟩⟩
  refine hk _ _ _ H7 (GG.keep ω2 k7) ?_
  have oc7:Own H7 c (nl.map fF):=oc'.keep (b':=b1) ω2 k7
  have hf:OwnS fF H7 H.length (some ⟨c,0,none⟩) l.length 1 nl:=oc7.ownS hnl.symm ω2
  exact hf
theorem z1cz:FnOk Tryz.prog 62 z18n:=FnOk.bodyF mix_ok ztl Tryz.func62 rfl ω10 ω10 fun args H=>by
 unfold z17e
 split
 ·refine ⟨?_,?_,?_,?_,fun K hk=>zwa _ _ _ H K hk⟩
  ·intro K K' h hk;obtain ⟨wa,wn,we,sc,ws,W,Hi,pa,pn,pe,l,h1,iw,bw,w0,h2,il,w1,w2,w3,w4,hl,v1,v2,k⟩:=hk;exact ⟨wa,wn,we,sc,ws,W,Hi,pa,pn,pe,l,h1,iw,bw,w0,h2,il,w1,w2,w3,w4,hl,v1,v2,(fun od xd vd H' gg ow0=>h _ _ (k od xd vd H' gg ow0))⟩
  ·nofun
  ·intro K hk;obtain ⟨wa,wn,we,sc,ws,W,Hi,pa,pn,pe,l,h1,iw,bw,w0,h2,il,w1,w2,w3,w4,hl,v1,v2,k⟩:=hk;exact z4i fun a n e H1 g o=>⟨_,_,k a n e H1 g o⟩
  ·nofun
 ·exact Nice.no
theorem zrk {f:Nat→Int→Int→LN→PicT} {W Hi:Int} {n0:Nat} (hf:∀k l,l.length=n0→(f k W Hi l).2.2.2=true→(f k W Hi l).1=W∧(f k W Hi l).2.1=Hi∧(f k W Hi l).2.2.1.length=n0):∀(n k:Nat) (l:LN),l.length=n0→(z2k f n k W Hi l).2.2.2=true→(z2k f n k W Hi l).1=W∧(z2k f n k W Hi l).2.1=Hi∧(z2k f n k W Hi l).2.2.1.length=n0:=by
 intro n
 induction n with
 | zero=>intro k l h _;exact ⟨rfl,rfl,h⟩
 | succ n ih=>
  intro k l h hh
  rw [z5a] at hh ⊢
  have h1:=hf k l h
  generalize f k W Hi l=q at *
  obtain ⟨q1,q2,q3,q4⟩:=q
  dsimp only at h1
  cases q4 with
  | false=>rw [z3u rfl] at hh;cases hh
  | true=>
   obtain ⟨d1,d2,d3⟩:=h1 rfl
   subst d1 d2
   rw [z1w rfl] at hh ⊢
   exact ih _ _ d3 hh
theorem zri {Q:Int→Int→LN→PicT} {W Hi:Int} {l:LN} {w h:Int} (hh:(z8i Q W Hi l w h).2.2.2=true):(z8i Q W Hi l w h).1=W∧(z8i Q W Hi l w h).2.1=Hi∧(z8i Q W Hi l w h).2.2.1.length=l.length:=by
 unfold z8i at hh ⊢
 cases hq:(Q w h (picL w.toNat h.toNat (z4r l 0 0 W))).2.2.2 with
 | false=>rw [hq] at hh;cases hh
 | true=>rw [cond_true];exact ⟨rfl,rfl,z8j _ _ _ _ _ _ _⟩
def z2x (fa:LN) (za:Nat) (ga ja:Int) (ba:LN) (levels:Int):PicT:=
 bif !(zbj fa za ga ja ba) then (0,0,[],false) else (bif !(zgd levels) then (0,0,[],false) else z5r fa za ga ja ba levels)
theorem zd4 (fa:LN) (za:Nat) (ga ja:Int) (ba:LN) (levels:Int):z2x fa za ga ja ba levels=
 (bif !(zbj fa za ga ja ba) then (0,0,[],false) else (bif !(zgd levels) then (0,0,[],false) else z5r fa za ga ja ba levels)):=rfl
def T_fiz (eb:OA) (lb mb za:Nat) (ga ja:Int) (ta:OA) (va ya:Nat) (levels:Int) (H:zp) (K:Int→Int→OA→Nat→Nat→Bool→zp→Prop):Prop:=
 ∃(fa ba:LN),IsL fF H eb lb fa∧IsL fF H ta va ba∧fa.length<1073741824∧ba.length<1073741824∧
  (∀(od:OA) (xd vd:Nat),∀H':zp,Grow H H'→OwnS fF H' H.length od xd vd ((z2x fa za ga ja ba levels).2.2.1)→K ((z2x fa za ga ja ba levels).1) ((z2x fa za ga ja ba levels).2.1) od xd vd ((z2x fa za ga ja ba levels).2.2.2) H')
theorem z1bd {eb:OA} {lb mb za:Nat} {ga ja:Int} {ta:OA} {va ya:Nat} {levels:Int} {H:zp} {K:Int→Int→OA→Nat→Nat→Bool→zp→Prop} (h:∃(fa ba:LN),IsL fF H eb lb fa∧IsL fF H ta va ba∧fa.length<1073741824∧ba.length<1073741824∧
  (∀(od:OA) (xd vd:Nat),∀H':zp,Grow H H'→OwnS fF H' H.length od xd vd ((z2x fa za ga ja ba levels).2.2.1)→K ((z2x fa za ga ja ba levels).1) ((z2x fa za ga ja ba levels).2.1) od xd vd ((z2x fa za ga ja ba levels).2.2.2) H')):T_fiz eb lb mb za ga ja ta va ya levels H K:=h
theorem f23z_w {ws:LN} {sc:Nat} {w h:Int} {l:LN} (hh:zbj ws sc w h l=true):(1:Int)≤(ws.length:Int):=by
 rw [z9k] at hh
 cases h1:zcm ws sc with
 | false=>rw [h1] at hh;cases hh
 | true=>
  rw [zea] at h1
  by_cases hw:(1:Int)≤(ws.length:Int)
  ·exact hw
  ·rw [dcf hw] at h1;simp at h1
theorem zow {ws:LN} {sc:Nat} {W Hi:Int} {l:LN} {levels:Int} (hh:(z2x ws sc W Hi l levels).2.2.2=true):(z2x ws sc W Hi l levels).1=W∧(z2x ws sc W Hi l levels).2.1=Hi∧(z2x ws sc W Hi l levels).2.2.1.length=l.length∧1≤W∧W≤16∧1≤Hi∧Hi≤16∧(l.length:Int)=W*Hi∧1≤levels∧levels≤4:=by
 rw [zd4] at hh ⊢
 cases h:zbj ws sc W Hi l with
 | false=>rw [h] at hh;cases hh
 | true=>
  obtain ⟨h1,h2,h3,h4,h5,h6,_⟩:=f23z_t h
  cases hl:zgd levels with
  | false=>rw [h,hl] at hh;cases hh
  | true=>
   rw [h,hl,Bool.not_true,cond_false,cond_false] at hh
   rw [Bool.not_true,cond_false,cond_false]
   obtain ⟨v1,v2⟩:1≤levels∧levels≤4:=f27z_t hl
   obtain ⟨a,b,c⟩:=zrk (f:=fun (k:Nat) a b l=>znk ws sc W Hi false (k:Int) a b l) (n0:=l.length) (fun k l' hl' hk=>by obtain ⟨x,y,z⟩:=zri hk;exact ⟨x,y,z.trans hl'⟩) levels.toNat 0 l rfl hh
   exact ⟨a,b,c,h1,h2,h3,h4,h5,v1,v2⟩
def E_fiz:Env:=envOf [(45,z18v),(46,z17x),(62,z18n)]
def F_fiz (args:List Value) (H:zp):(Value→zp→Prop)→Prop:=match args with
 | [.agg ⟨[.slice eb lb mb,.float .f32 za]⟩,.agg ⟨[.int .i64 ga,.int .i64 ja,.slice ta va ya]⟩,.int .i64 levels]=>fun K=>T_fiz eb lb mb za ga ja ta va ya levels H fun (tc:Int) (nc:Int) (ma:OA) (sa:Nat) (oa:Nat) (r2:Bool) (H':zp)=>K (.tuple #[.agg #[.int .i64 tc,.int .i64 nc,.slice ma sa oa],.bool r2]) H'
 | _=>fun _=>False
def S_fiz:FSpec:={F:=F_fiz,quiet:=false,tame:=false}
theorem z1hf (eb:OA) (lb mb za:Nat) (ga ja:Int) (ta:OA) (va ya:Nat) (levels:Int) (H:zp) (K:KT):zw Tryz.prog E_fiz Tryz.f20 [.agg #[.slice eb lb mb,.float .f32 za],.agg #[.int .i64 ga,.int .i64 ja,.slice ta va ya],.int .i64 levels] H K=
 (Al [.slice eb lb mb,.float .f32 za] H fun b1 H1=>Al [.int .i64 ga,.int .i64 ja,.slice ta va ya] H1 fun b2 H2=>Al [.int .i64 0,.int .i64 0,.slice none 0 0] H2 fun b3 H3=>zoi b1 b2 H3 fun (r1:Bool) (H4:zp)=>Br (!r1) (isOwn H4 b3∧(∃l,rdN H4 b3 0 3=some l)∧Lt (setN H4 b3 0 [.int .i64 0,.int .i64 0,.slice none 0 0]) fun H5=>∃(c1 c2:Int),∃vg:OA,∃(xg wg:Nat),  rdN H5 b3 0 3=some [.int .i64 c1,.int .i64 c2,.slice vg xg wg]∧K (.tuple #[.agg #[.int .i64 c1,.int .i64 c2,.slice vg xg wg],.bool false]) H5) (znt levels H4 fun (r2:Bool) (H6:zp)=>Br (!r2) (isOwn H6 b3∧(∃l,rdN H6 b3 0 3=some l)∧Lt (setN H6 b3 0 [.int .i64 0,.int .i64 0,.slice none 0 0]) fun H7=>∃(c4 c5:Int),∃eh:OA,∃(gh fh:Nat),  rdN H7 b3 0 3=some [.int .i64 c4,.int .i64 c5,.slice eh gh fh]∧K (.tuple #[.agg #[.int .i64 c4,.int .i64 c5,.slice eh gh fh],.bool false]) H7) (zoa b1 b2 levels H6 fun (r3:Int) (r4:Int) (a1:OA) (r5:Nat) (r6:Nat) (r7:Bool) (H8:zp)=>isOwn H8 b3∧(∃l,rdN H8 b3 0 3=some l)∧Lt (setN H8 b3 0 [.int .i64 r3,.int .i64 r4,.slice a1 r5 r6]) fun H9=>∃(c7 c8:Int),∃sh:OA,∃(uh th:Nat),  rdN H9 b3 0 3=some [.int .i64 c7,.int .i64 c8,.slice sh uh th]∧K (.tuple #[.agg #[.int .i64 c7,.int .i64 c8,.slice sh uh th],.bool r7]) H9))):=by kernel_rfl
theorem zzn:∀g,FnOk Tryz.prog g (E_fiz g):=FnOk.envOf (by
 intro x hx
 simp only [List.mem_cons,List.not_mem_nil,or_false] at hx
 rcases hx with rfl | rfl | rfl
 ·exact f23z_ok
 ·exact f14z_ok
 ·exact z1cz)
theorem z12x (eb:OA) (lb mb za:Nat) (ga ja:Int) (ta:OA) (va ya:Nat) (levels:Int) (H:zp) (K:KT) (h:T_fiz eb lb mb za ga ja ta va ya levels H fun (tc:Int) (nc:Int) (ma:OA) (sa:Nat) (oa:Nat) (r2:Bool) (H':zp)=>K (.tuple #[.agg #[.int .i64 tc,.int .i64 nc,.slice ma sa oa],.bool r2]) H'):zw Tryz.prog E_fiz Tryz.f20 [.agg #[.slice eb lb mb,.float .f32 za],.agg #[.int .i64 ga,.int .i64 ja,.slice ta va ya],.int .i64 levels] H K:=by
 rw [z1hf]
 obtain ⟨ws,l,iw,il,bw,bl,hk⟩:=h
 obtain rfl:=iw.eqn
 obtain rfl:=il.eqn
 rw [zd4] at hk
 refine Al.intro fun b1 H1 e1 l1 g1 o1=>Al.intro fun b2 H2 e2 l2 g2 o2=>Al.intro fun b3 H3 e3 l3 g3 o3=>?_
 have G3:Grow H H3:=(g1.trans g2).trans g3
 have p1:=(o1.grow g2).grow g3
 have p2:=o2.grow g3
 have hle3:=G3.1
 refine z11e ⟨eb,ws.length,mb,za,ga,ja,ta,l.length,ya,ws,l,(p1.rdN (nbl rfl)).trans rfl,(p2.rdN (nbl rfl)).trans rfl,iw.grow G3,il.grow G3,bw,bl,?_⟩
 refine Br.intro (fun hc=>?_) (fun hc=>?_)
 ·rw [z1g hc,Bool.not_false,cond_true] at hk
  refine Lt.setN o3 (n:=3) ω22 rfl fun H5 l5 q5 k5=>⟨0,0,none,0,0,(q5.rdN (nbl rfl)).trans rfl,?_⟩
  exact hk none 0 0 H5 (G3.keep ω2 k5) (OwnS.nil _ _ _ _)
 have hcan:=z1d hc
 rw [hcan,Bool.not_true,cond_false] at hk
 obtain ⟨w1,w2,w3,w4,w5,w6,w7⟩:=f23z_t hcan
 refine (?_:Br _ _ _)
 refine Br.intro (fun hp=>?_) (fun hp=>?_)
 ·rw [z1g hp,Bool.not_false,cond_true] at hk
  refine Lt.setN o3 (n:=3) ω22 rfl fun H5 l5 q5 k5=>⟨0,0,none,0,0,(q5.rdN (nbl rfl)).trans rfl,?_⟩
  exact hk none 0 0 H5 (G3.keep ω2 k5) (OwnS.nil _ _ _ _)
 have hlv:=z1d hp
 rw [hlv,Bool.not_true,cond_false] at hk
 obtain ⟨v1,v2⟩:1≤levels∧levels≤4:=f27z_t hlv
 have hwn:1≤ws.length:=by have:=f23z_w hcan;omega
 refine z10w ⟨eb,ws.length,mb,za,ws,ga,ja,ta,l.length,ya,l,(p1.rdN (nbl rfl)).trans rfl,iw.grow G3,bw,hwn,(p2.rdN (nbl rfl)).trans rfl,il.grow G3,w1,w2,w3,w4,w5,v1,v2,fun a n ne H4 g4 w4'=>?_⟩
 have lo:=w4'.lo
 refine Lt.setN (o3.grow g4) (n:=3) ω22 rfl fun H5 l5 q5 k5=>⟨_,_,_,_,_,(q5.rdN (nbl rfl)).trans rfl,?_⟩
 exact hk a n ne H5 ((G3.trans g4).keep ω2 k5) ((w4'.keepA (fun x y hx hy=>by cases hx;have:=lo y hy;have:=o3.lt;show b3≠_;omega) (OwnS.keep1 k5)).weak ω2)
theorem z1he:FnOk Tryz.prog 20 S_fiz:=FnOk.bodyF mix_ok zzn Tryz.func20 rfl ω10 ω10 fun args H=>by
 unfold F_fiz
 split
 ·refine ⟨?_,?_,?_,?_,fun K hk=>z12x _ _ _ _ _ _ _ _ _ _ H K hk⟩
  ·intro K K' h hk;obtain ⟨ws,l,i1,i2,b1,b2,k⟩:=hk;exact ⟨ws,l,i1,i2,b1,b2,(fun od xd vd H' gg ow0=>h _ _ (k od xd vd H' gg ow0))⟩
  ·nofun
  ·intro K hk;obtain ⟨ws,l,i1,i2,b1,b2,k⟩:=hk;exact z4i fun a n e H1 g o=>⟨_,_,k a n e H1 g o⟩
  ·nofun
 ·exact Nice.no

def z1c (wide high level band:Int):Int×Int×Int×Int:=((bif (band:Int)==0 then ((0:Int),(0:Int),(zx ((zx wide high (level-1)).1) ((zx wide high (level-1)).2) (1:Int)).1,(zx ((zx wide high (level-1)).1) ((zx wide high (level-1)).2) (1:Int)).2) else (bif (band:Int)==1 then ((zx ((zx wide high (level-1)).1) ((zx wide high (level-1)).2) (1:Int)).1,(0:Int),(((zx wide high (level-1)).1)-((zx ((zx wide high (level-1)).1) ((zx wide high (level-1)).2) (1:Int)).1)),(zx ((zx wide high (level-1)).1) ((zx wide high (level-1)).2) (1:Int)).2) else (bif (band:Int)==2 then ((0:Int),(zx ((zx wide high (level-1)).1) ((zx wide high (level-1)).2) (1:Int)).2,(zx ((zx wide high (level-1)).1) ((zx wide high (level-1)).2) (1:Int)).1,(((zx wide high (level-1)).2)-((zx ((zx wide high (level-1)).1) ((zx wide high (level-1)).2) (1:Int)).2))) else ((zx ((zx wide high (level-1)).1) ((zx wide high (level-1)).2) (1:Int)).1,(zx ((zx wide high (level-1)).1) ((zx wide high (level-1)).2) (1:Int)).2,(((zx wide high (level-1)).1)-((zx ((zx wide high (level-1)).1) ((zx wide high (level-1)).2) (1:Int)).1)),(((zx wide high (level-1)).2)-((zx ((zx wide high (level-1)).1) ((zx wide high (level-1)).2) (1:Int)).2)))))))
def zbg:=@z1c.eq_1
def znu (wide high level band:Int) (H:zp) (K:Int→Int→Int→Int→zp→Prop):Prop:=1≤wide∧wide≤16∧1≤high∧high≤16∧1≤level∧level≤1000∧K ((z1c wide high level band).1) ((z1c wide high level band).2.1) ((z1c wide high level band).2.2.1) ((z1c wide high level band).2.2.2) H
theorem z10j {wide high level band:Int} {H:zp} {K:Int→Int→Int→Int→zp→Prop} (h:1≤wide∧wide≤16∧1≤high∧high≤16∧1≤level∧level≤1000∧K ((z1c wide high level band).1) ((z1c wide high level band).2.1) ((z1c wide high level band).2.2.1) ((z1c wide high level band).2.2.2) H):znu wide high level band H K:=h
theorem z5v (w h level band:Int):1≤w∧w≤16∧1≤h∧h≤16→0≤(z1c w h level band).1∧0≤(z1c w h level band).2.1∧0≤(z1c w h level band).2.2.1∧0≤(z1c w h level band).2.2.2∧
  (z1c w h level band).1+(z1c w h level band).2.2.1≤w∧(z1c w h level band).2.1+(z1c w h level band).2.2.2≤h:=fun hh=>by
 have z1:=z2z w h (level-1) hh
 have z2:=z2z (zx w h (level-1)).1 (zx w h (level-1)).2 1 ω2
 rw [zbg]
 generalize (zx w h (level-1))=p at *
 generalize (zx p.1 p.2 1)=q at *
 cases ((band:Int)==0)<;>cases ((band:Int)==1)<;>cases ((band:Int)==2)<;>simp only [cond_true,cond_false]<;>omega
def zsm:Env:=envOf [(102,zuc)]
def z16k (args:List Value) (H:zp):(Value→zp→Prop)→Prop:=match args with
 | [.int .i64 wide,.int .i64 high,.int .i64 level,.int .i64 band]=>fun K=>znu wide high level band H fun (r1:Int) (r2:Int) (r3:Int) (r4:Int) (H':zp)=>K (.tuple #[.int .i64 r1,.int .i64 r2,.int .i64 r3,.int .i64 r4]) H'
 | _=>fun _=>False
def z17y:FSpec:={F:=z16k,quiet:=true,tame:=false}
theorem f15z_vc (wide high level band:Int) (H:zp) (K:KT):zw Tryz.prog zsm Tryz.f88 [.int .i64 wide,.int .i64 high,.int .i64 level,.int .i64 band] H K=
 (zfz wide high (IntKind.wrap .i64 (level-1)) H fun (r1:Int) (r2:Int) (H1:zp)=>zfz r1 r2 1 H1 fun (r3:Int) (r4:Int) (H2:zp)=>Br ((band:Int)==0) (K (.tuple #[.int .i64 0,.int .i64 0,.int .i64 r3,.int .i64 r4]) H2) (Br ((band:Int)==1) (K (.tuple #[.int .i64 r3,.int .i64 0,.int .i64 (IntKind.wrap .i64 (r1-r3)),.int .i64 r4]) H2) (Br ((band:Int)==2) (K (.tuple #[.int .i64 0,.int .i64 r4,.int .i64 r3,.int .i64 (IntKind.wrap .i64 (r2-r4))]) H2) (K (.tuple #[.int .i64 r3,.int .i64 r4,.int .i64 (IntKind.wrap .i64 (r1-r3)),.int .i64 (IntKind.wrap .i64 (r2-r4))]) H2)))):=by kernel_rfl
theorem zsn:∀g,FnOk Tryz.prog g (zsm g):=FnOk.envOf (by
 intro x hx
 simp only [List.mem_cons,List.not_mem_nil,or_false] at hx
 subst hx;exact f13z_ok)
theorem f15z_main (wide high level band:Int) (H:zp) (K:KT) (h:znu wide high level band H fun (r1:Int) (r2:Int) (r3:Int) (r4:Int) (H':zp)=>K (.tuple #[.int .i64 r1,.int .i64 r2,.int .i64 r3,.int .i64 r4]) H'):zw Tryz.prog zsm Tryz.f88 [.int .i64 wide,.int .i64 high,.int .i64 level,.int .i64 band] H K:=by
 rw [f15z_vc]
 obtain ⟨pr0,pr1,pr2,pr3,pr4,pr5,hk⟩:=h
 have e:(z1c wide high level band)=_:=rfl
 have e:=e.trans (zbg wide high level band)
 have g0:=Grow.refl H
 rw [show IntKind.wrap .i64 (level-1)=(level-1) from zt ω2 ω2]
 refine zns ⟨ω9,ω9,ω9,ω9,ω9,?_⟩
 have z_1:=z2z wide high (level-1)
 refine zns ⟨ω9,ω9,ω9,ω9,ω9,?_⟩
 have z_2:=z2z ((zx wide high (level-1)).1) ((zx wide high (level-1)).2) (1:Int)
 refine Br.intro (fun c_3=>?_) (fun c_3=>?_)
 ·have e:=e.trans (zv c_3)
  have c_3':=za1 c_3
  rw [e] at hk
  exact hk
 ·have e:=e.trans (zu c_3)
  have c_3':=z8s c_3
  refine Br.intro (fun c_4=>?_) (fun c_4=>?_)
  ·have e:=e.trans (zv c_4)
   have c_4':=za1 c_4
   rw [show IntKind.wrap .i64 (((zx wide high (level-1)).1)-((zx ((zx wide high (level-1)).1) ((zx wide high (level-1)).2) (1:Int)).1))=(((zx wide high (level-1)).1)-((zx ((zx wide high (level-1)).1) ((zx wide high (level-1)).2) (1:Int)).1)) from zt ω2 ω2]
   rw [e] at hk
   exact hk
  ·have e:=e.trans (zu c_4)
   have c_4':=z8s c_4
   refine Br.intro (fun c_5=>?_) (fun c_5=>?_)
   ·have e:=e.trans (zv c_5)
    have c_5':=za1 c_5
    rw [show IntKind.wrap .i64 (((zx wide high (level-1)).2)-((zx ((zx wide high (level-1)).1) ((zx wide high (level-1)).2) (1:Int)).2))=(((zx wide high (level-1)).2)-((zx ((zx wide high (level-1)).1) ((zx wide high (level-1)).2) (1:Int)).2)) from zt ω2 ω2]
    rw [e] at hk
    exact hk
   ·have e:=e.trans (zu c_5)
    have c_5':=z8s c_5
    rw [show IntKind.wrap .i64 (((zx wide high (level-1)).1)-((zx ((zx wide high (level-1)).1) ((zx wide high (level-1)).2) (1:Int)).1))=(((zx wide high (level-1)).1)-((zx ((zx wide high (level-1)).1) ((zx wide high (level-1)).2) (1:Int)).1)) from zt ω2 ω2]
    rw [show IntKind.wrap .i64 (((zx wide high (level-1)).2)-((zx ((zx wide high (level-1)).1) ((zx wide high (level-1)).2) (1:Int)).2))=(((zx wide high (level-1)).2)-((zx ((zx wide high (level-1)).1) ((zx wide high (level-1)).2) (1:Int)).2)) from zt ω2 ω2]
    rw [e] at hk
    exact hk
theorem f15z_ok:FnOk Tryz.prog 88 z17y:=FnOk.bodyF mix_ok zsn Tryz.func88 rfl ω10 ω10 fun args H=>by
 unfold z16k
 split
 ·refine ⟨?_,?_,?_,?_,fun K hk=>f15z_main _ _ _ _ H K hk⟩
  ·intro K K' h hk;obtain ⟨pr0,pr1,pr2,pr3,pr4,pr5,k⟩:=hk;exact ⟨pr0,pr1,pr2,pr3,pr4,pr5,h _ _ k⟩
  ·intro _ K hk;obtain ⟨pr0,pr1,pr2,pr3,pr4,pr5,k⟩:=hk;exact ⟨_,k,fun K' k'=>⟨pr0,pr1,pr2,pr3,pr4,pr5,k'⟩⟩
  ·intro K hk;obtain ⟨pr0,pr1,pr2,pr3,pr4,pr5,k⟩:=hk;exact ⟨_,_,k⟩
  ·nofun
 ·exact Nice.no

def z4e (ia ua:Int) (da:LN) (level band:Int):Int×Int×LN:=((bif ((z1c ia ua level band).2.2.1:Int)==0 then ((0:Int),(0:Int),[]) else (bif ((z1c ia ua level band).2.2.2:Int)==0 then ((0:Int),(0:Int),[]) else ((z4f ia ua da ((z1c ia ua level band).1) ((z1c ia ua level band).2.1) ((z1c ia ua level band).2.2.1) ((z1c ia ua level band).2.2.2)).1,(z4f ia ua da ((z1c ia ua level band).1) ((z1c ia ua level band).2.1) ((z1c ia ua level band).2.2.1) ((z1c ia ua level band).2.2.2)).2.1,(z4f ia ua da ((z1c ia ua level band).1) ((z1c ia ua level band).2.1) ((z1c ia ua level band).2.2.1) ((z1c ia ua level band).2.2.2)).2.2))))
def zl8:=@z4e.eq_1
def zo8 (p:Nat) (level band:Int) (H:zp) (K:Int→Int→OA→Nat→Nat→zp→Prop):Prop:=∃(ia ua:Int),∃db:OA,∃(ib nb:Nat),∃da:LN,rdN H p 0 3=some [.int .i64 ia,.int .i64 ua,.slice db ib nb]∧IsL fF H db ib da∧da.length<1073741824∧1≤ia∧ia≤16∧1≤ua∧ua≤16∧(da.length:Int)=ia*ua∧1≤level∧level≤1000∧((∀(ma:OA) (sa oa:Nat),∀H':zp,Grow H H'→OwnS fF H' H.length ma sa oa ((z4e ia ua da level band).2.2)→K ((z4e ia ua da level band).1) ((z4e ia ua da level band).2.1) ma sa oa H'))
theorem z10v {p:Nat} {level band:Int} {H:zp} {K:Int→Int→OA→Nat→Nat→zp→Prop} (h:∃(ia ua:Int),∃db:OA,∃(ib nb:Nat),∃da:LN,rdN H p 0 3=some [.int .i64 ia,.int .i64 ua,.slice db ib nb]∧IsL fF H db ib da∧da.length<1073741824∧1≤ia∧ia≤16∧1≤ua∧ua≤16∧(da.length:Int)=ia*ua∧1≤level∧level≤1000∧((∀(ma:OA) (sa oa:Nat),∀H':zp,Grow H H'→OwnS fF H' H.length ma sa oa ((z4e ia ua da level band).2.2)→K ((z4e ia ua da level band).1) ((z4e ia ua da level band).2.1) ma sa oa H'))):zo8 p level band H K:=h
theorem zg9 (W H:Int) (L:LN) (level band:Int) (h1:1≤W) (h2:W≤16) (h3:1≤H) (h4:H≤16):z4e W H L level band=
  (bif (z1c W H level band).2.2.1==0 || (z1c W H level band).2.2.2==0 then (0,0,[]) else
   ((z1c W H level band).2.2.1,(z1c W H level band).2.2.2,picL (z1c W H level band).2.2.1.toNat (z1c W H level band).2.2.2.toNat (z4r L (z1c W H level band).1 (z1c W H level band).2.1 W))):=by
 have z:=z5v W H level band ⟨h1,h2,h3,h4⟩
 rw [zl8]
 generalize (z1c W H level band)=r at *
 cases e1:(r.2.2.1==(0:Int)) with
 | true=>rfl
 | false=>
  cases e2:(r.2.2.2==(0:Int)) with
  | true=>rfl
  | false=>
   have e1:=z8s e1
   have e2:=z8s e2
   rw [zc1 W H L _ _ _ _ ω2 ω2];rfl
theorem zn1 (W H:Int) (L:LN) (level band:Int) (h1:1≤W) (h2:W≤16) (h3:1≤H) (h4:H≤16):((z4e W H L level band).2.2.length:Int)≤256:=by
 have z:=z5v W H level band ⟨h1,h2,h3,h4⟩
 rw [zg9 W H L level band h1 h2 h3 h4]
 generalize (z1c W H level band)=r at *
 cases (r.2.2.1==(0:Int) || r.2.2.2==(0:Int)) with
 | true=>show ((0:Nat):Int)≤256;omega
 | false=>
  show ((picL r.2.2.1.toNat r.2.2.2.toNat (z4r L r.1 r.2.1 W)).length:Int)≤256
  rw [z2h]
  have:r.2.2.2.toNat*r.2.2.1.toNat≤16*16:=Nat.mul_le_mul ω2 ω2
  omega
def zti:Env:=envOf [(88,z17y),(121,zuh)]
def z17c (args:List Value) (H:zp):(Value→zp→Prop)→Prop:=match args with
 | [.pointer (some ⟨p,0,none⟩),.int .i64 level,.int .i64 band]=>fun K=>zo8 p level band H fun (tc:Int) (nc:Int) (ma:OA) (sa:Nat) (oa:Nat) (H':zp)=>K (.agg #[.int .i64 tc,.int .i64 nc,.slice ma sa oa]) H'
 | _=>fun _=>False
def z18m:FSpec:={F:=z17c,quiet:=false,tame:=true}
theorem z1cs (p:Nat) (level band:Int) (H:zp) (K:KT):zw Tryz.prog zti Tryz.f85 [.pointer (some ⟨p,0,none⟩),.int .i64 level,.int .i64 band] H K=
 (Al [.int .i64 0,.int .i64 0,.slice none 0 0] H fun b1 H1=>∃x1:Int,  rdC H1 p 1=some (.int .i64 x1)∧∃x2:Int,  rdC H1 p 0=some (.int .i64 x2)∧znu x2 x1 level band H1 fun (r1:Int) (r2:Int) (r3:Int) (r4:Int) (H2:zp)=>Br ((r3:Int)==0) (isOwn H2 b1∧(∃l,rdN H2 b1 0 3=some l)∧Lt (setN H2 b1 0 [.int .i64 0,.int .i64 0,.slice none 0 0]) fun H3=>∃(c1 c2:Int),∃vg:OA,∃(xg wg:Nat),  rdN H3 b1 0 3=some [.int .i64 c1,.int .i64 c2,.slice vg xg wg]∧K (.agg #[.int .i64 c1,.int .i64 c2,.slice vg xg wg]) H3) (Br ((r4:Int)==0) (isOwn H2 b1∧(∃l,rdN H2 b1 0 3=some l)∧Lt (setN H2 b1 0 [.int .i64 0,.int .i64 0,.slice none 0 0]) fun H4=>∃(c4 c5:Int),∃eh:OA,∃(gh fh:Nat),  rdN H4 b1 0 3=some [.int .i64 c4,.int .i64 c5,.slice eh gh fh]∧K (.agg #[.int .i64 c4,.int .i64 c5,.slice eh gh fh]) H4) (zjb p r1 r2 r3 r4 H2 fun (r5:Int) (r6:Int) (a1:OA) (r7:Nat) (r8:Nat) (H5:zp)=>isOwn H5 b1∧(∃l,rdN H5 b1 0 3=some l)∧Lt (setN H5 b1 0 [.int .i64 r5,.int .i64 r6,.slice a1 r7 r8]) fun H6=>∃(c7 c8:Int),∃sh:OA,∃(uh th:Nat),  rdN H6 b1 0 3=some [.int .i64 c7,.int .i64 c8,.slice sh uh th]∧K (.agg #[.int .i64 c7,.int .i64 c8,.slice sh uh th]) H6))):=by kernel_rfl
theorem ztj:∀g,FnOk Tryz.prog g (zti g):=FnOk.envOf (by
 intro x hx
 simp only [List.mem_cons,List.not_mem_nil,or_false] at hx
 rcases hx with rfl | rfl
 ·exact f15z_ok
 ·exact zw8)
theorem zw6 (p:Nat) (level band:Int) (H:zp) (K:KT) (h:zo8 p level band H fun (tc:Int) (nc:Int) (ma:OA) (sa:Nat) (oa:Nat) (H':zp)=>K (.agg #[.int .i64 tc,.int .i64 nc,.slice ma sa oa]) H'):zw Tryz.prog zti Tryz.f85 [.pointer (some ⟨p,0,none⟩),.int .i64 level,.int .i64 band] H K:=by
 rw [z1cs]
 obtain ⟨ia,ua,db,ib,nb,da,i_p,yb,bd_50,pr0,pr1,pr2,pr3,pr4,pr5,pr6,hk⟩:=h
 obtain rfl:=yb.eqn
 have e:(z4e ia ua da level band)=_:=rfl
 have e:=e.trans (zl8 ia ua da level band)
 have g0:=Grow.refl H
 refine Al.intro (fun b_1 H_1 hb_2 hl_3 g_4 o_5=>?_)
 have l_7:=g_4.1
 have g_8:=g0.trans g_4
 have l_9:=g_8.1
 have w49:=o_5.lt
 refine ⟨ua,(z1l (zr g_8 i_p) 1 (nbl rfl)).trans rfl,?_⟩
 refine ⟨ia,(z1l (zr g_8 i_p) 0 (nbl rfl)).trans rfl,?_⟩
 refine z10j ⟨ω9,ω9,ω9,ω9,ω9,ω9,?_⟩
 have z10:=z5v ia ua level band
 refine Br.intro (fun c_11=>?_) (fun c_11=>?_)
 ·have e:=e.trans (zv c_11)
  have c_11':=za1 c_11
  refine Lt.setN (n:=3) o_5 (nbl rfl) rfl (fun H_2 hl_12 o_14 k13=>?_)
  have o_14:Own H_2 b_1 [.int .i64 0,.int .i64 0,.slice none 0 0]:=o_14
  have l_15:=k13.1
  have g16:=g_8.keep (b:=b_1) ω2 k13
  have l_17:=g16.1
  have w18:=o_14.lt
  refine ⟨0,0,none,0,0,(o_14.rdN (nbl rfl)).trans rfl,?_⟩
  rw [e] at hk
  exact hk _ _ _ H_2 g16 ω17
 ·have e:=e.trans (zu c_11)
  have c_11':=z8s c_11
  refine Br.intro (fun c_19=>?_) (fun c_19=>?_)
  ·have e:=e.trans (zv c_19)
   have c_19':=za1 c_19
   refine Lt.setN (n:=3) o_5 (nbl rfl) rfl (fun H_3 hl_20 o22 k_21=>?_)
   have o22:Own H_3 b_1 [.int .i64 0,.int .i64 0,.slice none 0 0]:=o22
   have l23:=k_21.1
   have g24:=g_8.keep (b:=b_1) ω2 k_21
   have l25:=g24.1
   have w26:=o22.lt
   refine ⟨0,0,none,0,0,(o22.rdN (nbl rfl)).trans rfl,?_⟩
   rw [e] at hk
   exact hk _ _ _ H_3 g24 ω17
  ·have e:=e.trans (zu c_19)
   have c_19':=z8s c_19
   refine zo9 ⟨ia,ua,db,da.length,nb,_,(zr g_8 i_p),(yb.grow g_8),ω0,ω9,ω9,ω9,ω9,ω9,ω9,ω9,ω9,ω9,fun a27 n28 e29 H_4 g32 r_30=>?_⟩
   have z31:=zn2 ia ua da ((z1c ia ua level band).1) ((z1c ia ua level band).2.1) ((z1c ia ua level band).2.2.1) ((z1c ia ua level band).2.2.2) ω2 ω2 ω2 ω2
   have l33:=g32.1
   have g34:=g_8.trans g32
   have l35:=g34.1
   have o36:=o_5.grow g32
   have w37:=o36.lt
   obtain rfl:=r_30.isL.eqn
   have u38:=r_30.up
   have u39:=r_30.lo
   refine Lt.setN (n:=3) o36 (nbl rfl) rfl (fun H_5 hl_41 o43 k42=>?_)
   have o43:Own H_5 b_1 [.int .i64 ((z4f ia ua da ((z1c ia ua level band).1) ((z1c ia ua level band).2.1) ((z1c ia ua level band).2.2.1) ((z1c ia ua level band).2.2.2)).1),.int .i64 ((z4f ia ua da ((z1c ia ua level band).1) ((z1c ia ua level band).2.1) ((z1c ia ua level band).2.2.1) ((z1c ia ua level band).2.2.2)).2.1),.slice a27 (((z4f ia ua da ((z1c ia ua level band).1) ((z1c ia ua level band).2.1) ((z1c ia ua level band).2.2.1) ((z1c ia ua level band).2.2.2)).2.2).length) e29]:=o43
   have l44:=k42.1
   have g45:=g34.keep (b:=b_1) ω2 k42
   have l46:=g45.1
   have r_47:=r_30.keep u38 ω2 k42
   have w48:=o43.lt
   refine ⟨(z4f ia ua da ((z1c ia ua level band).1) ((z1c ia ua level band).2.1) ((z1c ia ua level band).2.2.1) ((z1c ia ua level band).2.2.2)).1,(z4f ia ua da ((z1c ia ua level band).1) ((z1c ia ua level band).2.1) ((z1c ia ua level band).2.2.1) ((z1c ia ua level band).2.2.2)).2.1,a27,((z4f ia ua da ((z1c ia ua level band).1) ((z1c ia ua level band).2.1) ((z1c ia ua level band).2.2.1) ((z1c ia ua level band).2.2.2)).2.2).length,e29,(o43.rdN (nbl rfl)).trans rfl,?_⟩
   rw [e] at hk
   exact hk _ _ _ H_5 g45 (r_47.weak ω2)
theorem z1cr:FnOk Tryz.prog 85 z18m:=FnOk.bodyF mix_ok ztj Tryz.func85 rfl ω10 ω10 fun args H=>by
 unfold z17c
 split
 ·refine ⟨?_,?_,?_,?_,fun K hk=>zw6 _ _ _ H K hk⟩
  ·intro K K' h hk;obtain ⟨ia,ua,db,ib,nb,da,i_p,yb,bd_50,pr0,pr1,pr2,pr3,pr4,pr5,pr6,k⟩:=hk;exact ⟨ia,ua,db,ib,nb,da,i_p,yb,bd_50,pr0,pr1,pr2,pr3,pr4,pr5,pr6,(fun ma sa oa H' gg ow0=>h _ _ (k ma sa oa H' gg ow0))⟩
  ·nofun
  ·intro K hk;obtain ⟨ia,ua,db,ib,nb,da,i_p,yb,bd_50,pr0,pr1,pr2,pr3,pr4,pr5,pr6,k⟩:=hk;exact z4i fun a n e H1 g o=>⟨_,_,k a n e H1 g o⟩
  ·intro _ K hk;obtain ⟨ia,ua,db,ib,nb,da,i_p,yb,bd_50,pr0,pr1,pr2,pr3,pr4,pr5,pr6,k⟩:=hk;exact ⟨ia,ua,db,ib,nb,da,i_p,yb,bd_50,pr0,pr1,pr2,pr3,pr4,pr5,pr6,(fun ma sa oa H' gg ow0=>⟨gg,k ma sa oa H' gg ow0⟩)⟩
 ·exact Nice.no
def z1u (fa:LN) (za:Nat) (ga ja:Int) (ba:LN) (levels:Int):PicT:=
 bif !((z2x fa za ga ja ba levels).2.2.2) then (0,0,[],false) else ((z4e (z2x fa za ga ja ba levels).1 (z2x fa za ga ja ba levels).2.1 (z2x fa za ga ja ba levels).2.2.1 levels 0).1,(z4e (z2x fa za ga ja ba levels).1 (z2x fa za ga ja ba levels).2.1 (z2x fa za ga ja ba levels).2.2.1 levels 0).2.1,(z4e (z2x fa za ga ja ba levels).1 (z2x fa za ga ja ba levels).2.1 (z2x fa za ga ja ba levels).2.2.1 levels 0).2.2,true)
theorem zek (fa:LN) (za:Nat) (ga ja:Int) (ba:LN) (levels:Int):z1u fa za ga ja ba levels=
 (bif !((z2x fa za ga ja ba levels).2.2.2) then (0,0,[],false) else ((z4e (z2x fa za ga ja ba levels).1 (z2x fa za ga ja ba levels).2.1 (z2x fa za ga ja ba levels).2.2.1 levels 0).1,(z4e (z2x fa za ga ja ba levels).1 (z2x fa za ga ja ba levels).2.1 (z2x fa za ga ja ba levels).2.2.1 levels 0).2.1,(z4e (z2x fa za ga ja ba levels).1 (z2x fa za ga ja ba levels).2.1 (z2x fa za ga ja ba levels).2.2.1 levels 0).2.2,true)):=rfl
def zo5 (eb:OA) (lb mb za:Nat) (ga ja:Int) (ta:OA) (va ya:Nat) (levels:Int) (H:zp) (K:Int→Int→OA→Nat→Nat→Bool→zp→Prop):Prop:=
 ∃(fa ba:LN),IsL fF H eb lb fa∧IsL fF H ta va ba∧fa.length<1073741824∧ba.length<1073741824∧
  (∀(od:OA) (xd vd:Nat),∀H':zp,Grow H H'→OwnS fF H' H.length od xd vd ((z1u fa za ga ja ba levels).2.2.1)→K ((z1u fa za ga ja ba levels).1) ((z1u fa za ga ja ba levels).2.1) od xd vd ((z1u fa za ga ja ba levels).2.2.2) H')
theorem z10u {eb:OA} {lb mb za:Nat} {ga ja:Int} {ta:OA} {va ya:Nat} {levels:Int} {H:zp} {K:Int→Int→OA→Nat→Nat→Bool→zp→Prop} (h:∃(fa ba:LN),IsL fF H eb lb fa∧IsL fF H ta va ba∧fa.length<1073741824∧ba.length<1073741824∧
  (∀(od:OA) (xd vd:Nat),∀H':zp,Grow H H'→OwnS fF H' H.length od xd vd ((z1u fa za ga ja ba levels).2.2.1)→K ((z1u fa za ga ja ba levels).1) ((z1u fa za ga ja ba levels).2.1) od xd vd ((z1u fa za ga ja ba levels).2.2.2) H')):zo5 eb lb mb za ga ja ta va ya levels H K:=h
theorem zot (ws:LN) (sc:Nat) (W Hi:Int) (l:LN) (levels:Int):(z1u ws sc W Hi l levels).2.2.1.length≤1024:=by
 rw [zek]
 have hd:=zow (ws:=ws) (sc:=sc) (W:=W) (Hi:=Hi) (l:=l) (levels:=levels)
 generalize z2x ws sc W Hi l levels=q at *
 cases hq:q.2.2.2 with
 | false=>exact Nat.zero_le _
 | true=>
  obtain ⟨a,b,c,d1,d2,d3,d4,d5,v1,v2⟩:=hd hq
  have:=zn1 q.1 q.2.1 q.2.2.1 levels 0 ω2 ω2 ω2 ω2
  rw [Bool.not_true,cond_false]
  show (z4e q.1 q.2.1 q.2.2.1 levels 0).2.2.length≤1024
  omega
def zte:Env:=envOf [(20,S_fiz),(85,z18m)]
def z17a (args:List Value) (H:zp):(Value→zp→Prop)→Prop:=match args with
 | [.agg ⟨[.slice eb lb mb,.float .f32 za]⟩,.agg ⟨[.int .i64 ga,.int .i64 ja,.slice ta va ya]⟩,.int .i64 levels]=>fun K=>zo5 eb lb mb za ga ja ta va ya levels H fun (tc:Int) (nc:Int) (ma:OA) (sa:Nat) (oa:Nat) (r2:Bool) (H':zp)=>K (.tuple #[.agg #[.int .i64 tc,.int .i64 nc,.slice ma sa oa],.bool r2]) H'
 | _=>fun _=>False
def z18k:FSpec:={F:=z17a,quiet:=false,tame:=false}
theorem z1co (eb:OA) (lb mb za:Nat) (ga ja:Int) (ta:OA) (va ya:Nat) (levels:Int) (H:zp) (K:KT):zw Tryz.prog zte Tryz.f39 [.agg #[.slice eb lb mb,.float .f32 za],.agg #[.int .i64 ga,.int .i64 ja,.slice ta va ya],.int .i64 levels] H K=
 (Al [.slice eb lb mb,.float .f32 za] H fun b1 H1=>Al [.int .i64 ga,.int .i64 ja,.slice ta va ya] H1 fun b2 H2=>Al [.int .i64 0,.int .i64 0,.slice none 0 0] H2 fun b3 H3=>∃ni:OA,∃(qi oi c2:Nat),  rdN H3 b1 0 2=some [.slice ni qi oi,.float .f32 c2]∧∃(c3 c4:Int),∃zi:OA,∃(bj aj:Nat),  rdN H3 b2 0 3=some [.int .i64 c3,.int .i64 c4,.slice zi bj aj]∧T_fiz ni qi oi c2 c3 c4 zi bj aj levels H3 fun (r1:Int) (r2:Int) (a1:OA) (r3:Nat) (r4:Nat) (r5:Bool) (H4:zp)=>Al [.int .i64 0,.int .i64 0,.slice none 0 0] H4 fun b4 H5=>isOwn H5 b4∧(∃l,rdN H5 b4 0 3=some l)∧Lt (setN H5 b4 0 [.int .i64 r1,.int .i64 r2,.slice a1 r3 r4]) fun H6=>Br (!r5) (isOwn H6 b3∧(∃l,rdN H6 b3 0 3=some l)∧Lt (setN H6 b3 0 [.int .i64 0,.int .i64 0,.slice none 0 0]) fun H7=>∃(c6 c7:Int),∃cj:OA,∃(fj dj:Nat),  rdN H7 b3 0 3=some [.int .i64 c6,.int .i64 c7,.slice cj fj dj]∧K (.tuple #[.agg #[.int .i64 c6,.int .i64 c7,.slice cj fj dj],.bool false]) H7) (zo8 b4 levels 0 H6 fun (r6:Int) (r7:Int) (a2:OA) (r8:Nat) (r9:Nat) (H8:zp)=>isOwn H8 b3∧(∃l,rdN H8 b3 0 3=some l)∧Lt (setN H8 b3 0 [.int .i64 r6,.int .i64 r7,.slice a2 r8 r9]) fun H9=>∃(c9 c10:Int),∃wi:OA,∃(yi xi:Nat),  rdN H9 b3 0 3=some [.int .i64 c9,.int .i64 c10,.slice wi yi xi]∧K (.tuple #[.agg #[.int .i64 c9,.int .i64 c10,.slice wi yi xi],.bool true]) H9)):=by kernel_rfl
theorem ztf:∀g,FnOk Tryz.prog g (zte g):=FnOk.envOf (by
 intro x hx
 simp only [List.mem_cons,List.not_mem_nil,or_false] at hx
 rcases hx with rfl | rfl
 ·exact z1he
 ·exact z1cr)
theorem zw4 (eb:OA) (lb mb za:Nat) (ga ja:Int) (ta:OA) (va ya:Nat) (levels:Int) (H:zp) (K:KT) (h:zo5 eb lb mb za ga ja ta va ya levels H fun (tc:Int) (nc:Int) (ma:OA) (sa:Nat) (oa:Nat) (r2:Bool) (H':zp)=>K (.tuple #[.agg #[.int .i64 tc,.int .i64 nc,.slice ma sa oa],.bool r2]) H'):zw Tryz.prog zte Tryz.f39 [.agg #[.slice eb lb mb,.float .f32 za],.agg #[.int .i64 ga,.int .i64 ja,.slice ta va ya],.int .i64 levels] H K:=by
 rw [z1co]
 obtain ⟨ws,l,iw,il,bw,bl,hk⟩:=h
 obtain rfl:=iw.eqn
 obtain rfl:=il.eqn
 rw [zek] at hk
 refine Al.intro fun b1 H1 e1 l1 g1 o1=>Al.intro fun b2 H2 e2 l2 g2 o2=>Al.intro fun b3 H3 e3 l3 g3 o3=>?_
 have G3:Grow H H3:=(g1.trans g2).trans g3
 have p1:=(o1.grow g2).grow g3
 have p2:=o2.grow g3
 have hle3:=G3.1
 refine ⟨eb,ws.length,mb,za,(p1.rdN (nbl rfl)).trans rfl,ga,ja,ta,l.length,ya,(p2.rdN (nbl rfl)).trans rfl,?_⟩
 refine z1bd ⟨ws,l,iw.grow G3,il.grow G3,bw,bl,fun a n ne H4 g4 w4=>?_⟩
 have hd:=zow (ws:=ws) (sc:=za) (W:=ga) (Hi:=ja) (l:=l) (levels:=levels)
 generalize z2x ws za ga ja l levels=q at *
 have up4:=w4.up
 have lo4:=w4.lo
 have gg4:=g4.1
 refine Al.intro fun b4 H5 e5 l5 g5 o5=>Lt.setN o5 (n:=3) ω22 rfl fun H6 l6 o6 k6=>?_
 have w6:=(w4.grow g5).keepA (fun x y hx hy=>by cases hx;have:=up4 y hy;show b4≠_;omega) (OwnS.keep1 k6)
 have G6:Grow H H6:=((G3.trans g4).trans g5).keep ω2 k6
 have p3:=((o3.grow g4).grow g5).keep (b':=b4) (by have:=o3.lt;omega) k6
 refine Br.intro (fun hp=>?_) (fun hp=>?_)
 ·rw [z1g hp,Bool.not_false,cond_true] at hk
  refine Lt.setN p3 (n:=3) ω22 rfl fun H7 l7 q7 k7=>⟨0,0,none,0,0,(q7.rdN (nbl rfl)).trans rfl,?_⟩
  exact hk none 0 0 H7 (G6.keep ω2 k7) (OwnS.nil _ _ _ _)
 obtain ⟨d1,d2,d3,w1,w2,w3,w4',hl,v1,v2⟩:=hd (z1d hp)
 rw [z1d hp,Bool.not_true,cond_false] at hk
 have hll:=z5h (W:=ga) (H:=ja) w1 w2 w3 w4'
 refine z10v ⟨q.1,q.2.1,a,n,ne,q.2.2.1,(o6.rdN (nbl rfl)).trans rfl,w6.isL,by omega,by omega,by omega,by omega,by omega,by rw [d1,d2,d3];exact hl,v1,by omega,fun a2 n2 e2 H8 g8 w8=>?_⟩
 have lo8:=w8.lo
 have gg8:=g8.1
 have gg6:=G6.1
 refine Lt.setN (p3.grow g8) (n:=3) ω22 rfl fun H9 l9 q9 k9=>⟨_,_,_,_,_,(q9.rdN (nbl rfl)).trans rfl,?_⟩
 exact hk a2 n2 e2 H9 ((G6.trans g8).keep ω2 k9) ((w8.keepA (fun x y hx hy=>by cases hx;have:=lo8 y hy;have:=o3.lt;show b3≠_;omega) (OwnS.keep1 k9)).weak ω2)
theorem z1cn:FnOk Tryz.prog 39 z18k:=FnOk.bodyF mix_ok ztf Tryz.func39 rfl ω10 ω10 fun args H=>by
 unfold z17a
 split
 ·refine ⟨?_,?_,?_,?_,fun K hk=>zw4 _ _ _ _ _ _ _ _ _ _ H K hk⟩
  ·intro K K' h hk;obtain ⟨ws,l,i1,i2,b1,b2,k⟩:=hk;exact ⟨ws,l,i1,i2,b1,b2,(fun od xd vd H' gg ow0=>h _ _ (k od xd vd H' gg ow0))⟩
  ·nofun
  ·intro K hk;obtain ⟨ws,l,i1,i2,b1,b2,k⟩:=hk;exact z4i fun a n e H1 g o=>⟨_,_,k a n e H1 g o⟩
  ·nofun
 ·exact Nice.no
def z2w (n low high:Int):Bool:=(bif decide ((low:Int)≤n) then decide ((n:Int)≤high) else false)
def z3j (n low high:Int) (H:zp) (K:Bool→zp→Prop):Prop:=K (z2w n low high) H
theorem f22z_t {n a b:Int} (h:z2w n a b=true):a≤n∧n≤b:=by
 unfold z2w at h
 by_cases h1:a≤n
 ·rw [dct h1,cond_true] at h;exact ⟨h1,odt h⟩
 ·rw [dcf h1] at h;cases h
theorem z4j {n low high:Int} {H:zp} {K:Bool→zp→Prop} (h:K (z2w n low high) H):z3j n low high H K:=h
def ztz:Env:=envOf []
def z17o (args:List Value) (H:zp):(Value→zp→Prop)→Prop:=match args with
 | [.int .i64 n,.int .i64 low,.int .i64 high]=>fun K=>z3j n low high H fun (r1:Bool) (H':zp)=>K (.bool r1) H'
 | _=>fun _=>False
def zay:FSpec:={F:=z17o,quiet:=true,tame:=false}
theorem f22z_vc (n low high:Int) (H:zp) (K:KT):zw Tryz.prog ztz Tryz.f68 [.int .i64 n,.int .i64 low,.int .i64 high] H K=
 (Br (decide ((low:Int)≤n)) (K (.bool (decide ((n:Int)≤high))) H) (K (.bool false) H)):=by kernel_rfl
theorem zu0:∀g,FnOk Tryz.prog g (ztz g):=FnOk.envOf (by
 intro x hx;cases hx)
theorem f22z_main (n low high:Int) (H:zp) (K:KT) (h:z3j n low high H fun (r1:Bool) (H':zp)=>K (.bool r1) H'):zw Tryz.prog ztz Tryz.f68 [.int .i64 n,.int .i64 low,.int .i64 high] H K:=by
 rw [f22z_vc]
 unfold z3j z2w at h
 repeat' (first | exact h | (exfalso;simp_all;done) | (refine ⟨by decide,?_⟩) | (refine Br.intro (fun hb=>?_) (fun hb=>?_)<;>(try simp only [hb,cond_true,cond_false,Bool.not_true,Bool.not_false] at h)))
theorem f22z_ok:FnOk Tryz.prog 68 zay:=FnOk.bodyF mix_ok zu0 Tryz.func68 rfl ω10 ω10 fun args H=>by
 unfold z17o
 split
 ·refine ⟨?_,?_,?_,?_,fun K hk=>f22z_main _ _ _ H K hk⟩
  ·intro K K' h hk;have k:=hk;exact h _ _ k
  ·intro _ K hk;have k:=hk;exact ⟨_,k,fun K' k'=>k'⟩
  ·intro K hk;have k:=hk;exact ⟨_,_,k⟩
  ·nofun
 ·exact Nice.no
def zge (x:Nat):Bool:=feq .f32 (fsub .f32 x x) 0
def zdc (x:Nat) (H:zp) (K:Bool→zp→Prop):Prop:=K (zge x) H

theorem z10l {x:Nat} {H:zp} {K:Bool→zp→Prop} (h:K (zge x) H):zdc x H K:=h
def zsp:Env:=envOf []
def z16m (args:List Value) (H:zp):(Value→zp→Prop)→Prop:=match args with
 | [.float .f32 x]=>fun K=>zdc x H fun (r1:Bool) (H':zp)=>K (.bool r1) H'
 | _=>fun _=>False
def zud:FSpec:={F:=z16m,quiet:=true,tame:=false}
theorem f17z_vc (x:Nat) (H:zp) (K:KT):zw Tryz.prog zsp Tryz.f118 [.float .f32 x] H K=
 (K (.bool (feq .f32 (fsub .f32 x x) 0)) H):=by kernel_rfl
theorem zsq:∀g,FnOk Tryz.prog g (zsp g):=FnOk.envOf (by
 intro x hx;cases hx)
theorem f17z_main (x:Nat) (H:zp) (K:KT) (h:zdc x H fun (r1:Bool) (H':zp)=>K (.bool r1) H'):zw Tryz.prog zsp Tryz.f118 [.float .f32 x] H K:=by
 rw [f17z_vc]
 unfold zdc zge at h
 repeat' (first | exact h | (exfalso;simp_all;done) | (refine ⟨by decide,?_⟩) | (refine Br.intro (fun hb=>?_) (fun hb=>?_)<;>(try simp only [hb,cond_true,cond_false,Bool.not_true,Bool.not_false] at h)))
theorem f17z_ok:FnOk Tryz.prog 118 zud:=FnOk.bodyF mix_ok zsq Tryz.func118 rfl ω10 ω10 fun args H=>by
 unfold z16m
 split
 ·refine ⟨?_,?_,?_,?_,fun K hk=>f17z_main _ H K hk⟩
  ·intro K K' h hk;have k:=hk;exact h _ _ k
  ·intro _ K hk;have k:=hk;exact ⟨_,k,fun K' k'=>k'⟩
  ·intro K hk;have k:=hk;exact ⟨_,_,k⟩
  ·nofun
 ·exact Nice.no

def zbs (sf:List LN) (t2:Bool) (t9:Int) (k2_2:Bool→Int→Bool):Nat→Bool→Int→Bool
 | 0,_,_=>false
 | μ2+1,t2_2,t15=>(bif decide ((t15:Int)<((((sf).getD (t9:Int).toNat [])).length:Int)) then (bif !((zge (((((sf).getD (t9:Int).toNat [])).getD (t15:Int).toNat 0)))) then false else (zbs sf t2 t9 k2_2 μ2 t2_2 (t15+1))) else (k2_2 t2_2 t15))
def zgu:=fun sf t2 t9 k2_2 μ2 t2_2 t15=>@zbs.eq_2 sf t2 t9 k2_2 t2_2 t15 μ2
def z6y (sf:List LN):Nat→Bool→Int→Bool
 | 0,_,_=>false
 | μ+1,t2,t9=>(bif decide ((t9:Int)<(sf.length:Int)) then (zbs sf t2 t9 (fun (t2_2:Bool) (t15:Int)=>(z6y sf μ t2_2 (t9+1))) (Int.toNat (((((sf).getD (t9:Int).toNat [])).length:Int)-(0:Int))+1) t2 (0:Int)) else true)
def zgt:=fun sf μ t2 t9=>@z6y.eq_2 sf t2 t9 μ
def z7h (sf:List LN):Bool:=(z6y sf (Int.toNat ((sf.length:Int)-(0:Int))+1) false (0:Int))
def zpn:=@z7h.eq_1
def zm6 (uf:OA) (gf yf:Nat) (H:zp) (K:Bool→zp→Prop):Prop:=∃(sf:List LN),IsLL fF H uf gf sf∧sf.length<1073741824∧(∀y ∈ sf,y.length<1073741824)∧K (z7h sf) H
theorem zho {uf:OA} {gf yf:Nat} {H:zp} {K:Bool→zp→Prop} (h:∃(sf:List LN),IsLL fF H uf gf sf∧sf.length<1073741824∧(∀y ∈ sf,y.length<1073741824)∧K (z7h sf) H):zm6 uf gf yf H K:=h

def z8t:Env:=envOf [(118,zud)]
def F_frz (args:List Value) (H:zp):(Value→zp→Prop)→Prop:=match args with
 | [.slice uf gf yf]=>fun K=>zm6 uf gf yf H fun (r1:Bool) (H':zp)=>K (.bool r1) H'
 | _=>fun _=>False
def zul:FSpec:={F:=F_frz,quiet:=true,tame:=false}
theorem z1iv (uf:OA) (gf yf:Nat) (H:zp) (K:KT):zw Tryz.prog z8t Tryz.f104 [.slice uf gf yf] H K=
 (z1n (exL Tryz.prog z8t (cl (cl (cr (cl (cr (zq Tryz.f104)))))) 896 4 [(0,0)]) (ud7 (.slice uf gf yf::.int .i64 (gf:Int)::.int .i64 0::ud14 [])) H (z1a 0 (seqQ (exL Tryz.prog z8t (cr (cr (zq Tryz.f104))) 4 4 []) (retK Tryz.prog Tryz.f104 K)))):=by kernel_rfl
abbrev zkb (uf:OA) (yf gf:Nat) (t9:Int)  :List Value:=(ud7 (.slice uf gf yf::.int .i64 (gf:Int)::.int .i64 t9::ud14 []))
theorem z1it (uf:OA) (yf gf:Nat) (t9:Int)  (H:zp) (R:Post):exL Tryz.prog z8t (cl (cl (cr (cl (cr (zq Tryz.f104)))))) 896 4 [(0,0)] (zkb uf yf gf t9) H R=
 (Br (decide ((t9:Int)<(gf:Int))) ((0:Int)≤t9∧t9<(gf:Int)∧∃b1 f1,(uf:OA)=some ⟨b1,f1,none⟩∧∃og:OA,∃(eg qg:Nat),  rdC H b1 (f1+(t9:Int).toNat*1)=some (.slice og eg qg)∧z1n (exL Tryz.prog z8t (cl (cl (cr (cr (cl (cl (cr (cr (cl (cl (cr (cl (cr (zq Tryz.f104)))))))))))))) 58240 4 [(2,896),(1,896),(0,0)]) (ud7 (.slice uf gf yf::.int .i64 (gf:Int)::.int .i64 t9::ud3 (.slice og eg qg::.int .i64 (eg:Int)::.int .i64 0::ud8 []))) H (z1a 2 (z1a 1 (seqQ (exL Tryz.prog z8t (cr (cr (cr (cl (cl (cr (cl (cr (zq Tryz.f104))))))))) 896 4 [(0,0)]) (R))))) (R (.exit 0) (ud24 []) H)):=by kernel_rfl
def zx9 (uf:OA) (yf gf:Nat) (Inv:Nat→Int→zp→Prop):Nat→List Value→zp→Prop:=fun μ tm H=>∃t9:Int,tm=(zkb uf yf gf t9)∧Inv μ t9 H
theorem z1ip (uf:OA) (yf gf:Nat) {Q:Post} (Inv:Nat→Int→zp→Prop) (ν:Nat) (t9:Int)  (H:zp) (h0:Inv ν t9 H)
  (hs:∀(μ:Nat) (t9:Int)  (H:zp),Inv μ t9 H→exL Tryz.prog z8t (cl (cl (cr (cl (cr (zq Tryz.f104)))))) 896 4 [(0,0)] (zkb uf yf gf t9) H (z1b (zx9 uf yf gf Inv) μ Q)):z1n (exL Tryz.prog z8t (cl (cl (cr (cl (cr (zq Tryz.f104)))))) 896 4 [(0,0)]) (zkb uf yf gf t9) H Q:=
 ⟨zx9 uf yf gf Inv,ν,⟨t9,rfl,h0⟩,fun μ tm H h=>by obtain ⟨t9,rfl,hI⟩:=h;exact hs μ t9  H hI⟩
theorem z1ir {uf:OA} {yf gf:Nat} {Q:Post} {Inv:Nat→Int→zp→Prop} {μ:Nat} (μ':Nat) {t9:Int}  {H:zp} (hm:μ'<μ) (hI:Inv μ' t9 H):z1b (zx9 uf yf gf Inv) μ Q .normal (zkb uf yf gf t9) H:=⟨μ',hm,t9,rfl,hI⟩
theorem z13u  (H:zp) (K:KT)  {I:Nat→List Value→zp→Prop} {μ:Nat}:z1b I μ (z1a 0 (seqQ (exL Tryz.prog z8t (cr (cr (zq Tryz.f104))) 4 4 []) (retK Tryz.prog Tryz.f104 K))) (.exit 0) (ud24 []) H=
 (K (.bool true) H):=by kernel_rfl
theorem zqj (t2:Bool) (H:zp) (K:KT)  {I:Nat→List Value→zp→Prop} {μ:Nat}:z1b I μ (z1a 0 (seqQ (exL Tryz.prog z8t (cr (cr (zq Tryz.f104))) 4 4 []) (retK Tryz.prog Tryz.f104 K))) .ret (ud2 (.bool t2::ud21 [])) H=
 (K (.bool t2) H):=by kernel_rfl
abbrev zkc (uf:OA) (yf gf:Nat) (t9:Int) (og:OA) (qg eg:Nat) (t15:Int)  :List Value:=(ud7 (.slice uf gf yf::.int .i64 (gf:Int)::.int .i64 t9::ud3 (.slice og eg qg::.int .i64 (eg:Int)::.int .i64 t15::ud8 [])))
theorem z1iu (uf:OA) (yf gf:Nat) (t9:Int) (og:OA) (qg eg:Nat) (t15:Int)  (H:zp) (R:Post):exL Tryz.prog z8t (cl (cl (cr (cr (cl (cl (cr (cr (cl (cl (cr (cl (cr (zq Tryz.f104)))))))))))))) 58240 4 [(2,896),(1,896),(0,0)] (zkc uf yf gf t9 og qg eg t15) H R=
 (Br (decide ((t15:Int)<(eg:Int))) ((0:Int)≤t15∧t15<(eg:Int)∧∃b2 f2,(og:OA)=some ⟨b2,f2,none⟩∧∃x2:Nat,  rdC H b2 (f2+(t15:Int).toNat*1)=some (.float .f32 x2)∧zdc x2 H fun (r1:Bool) (H1:zp)=>Br (!r1) (R .ret (ud2 (.bool false::ud21 [])) H1) (R .normal (ud7 (.slice uf gf yf::.int .i64 (gf:Int)::.int .i64 t9::ud3 (.slice og eg qg::.int .i64 (eg:Int)::.int .i64 (IntKind.wrap .i64 (t15+1))::ud8 []))) H1)) (R (.exit 2) (ud7 (.slice uf gf yf::.int .i64 (gf:Int)::.int .i64 t9::ud14 [])) H)):=by kernel_rfl
def zxa (uf:OA) (yf gf:Nat) (t9:Int) (og:OA) (qg eg:Nat) (Inv:Nat→Int→zp→Prop):Nat→List Value→zp→Prop:=fun μ tm H=>∃t15:Int,tm=(zkc uf yf gf t9 og qg eg t15)∧Inv μ t15 H
theorem z1iq (uf:OA) (yf gf:Nat) (t9:Int) (og:OA) (qg eg:Nat) {Q:Post} (Inv:Nat→Int→zp→Prop) (ν:Nat) (t15:Int)  (H:zp) (h0:Inv ν t15 H)
  (hs:∀(μ:Nat) (t15:Int)  (H:zp),Inv μ t15 H→exL Tryz.prog z8t (cl (cl (cr (cr (cl (cl (cr (cr (cl (cl (cr (cl (cr (zq Tryz.f104)))))))))))))) 58240 4 [(2,896),(1,896),(0,0)] (zkc uf yf gf t9 og qg eg t15) H (z1b (zxa uf yf gf t9 og qg eg Inv) μ Q)):z1n (exL Tryz.prog z8t (cl (cl (cr (cr (cl (cl (cr (cr (cl (cl (cr (cl (cr (zq Tryz.f104)))))))))))))) 58240 4 [(2,896),(1,896),(0,0)]) (zkc uf yf gf t9 og qg eg t15) H Q:=
 ⟨zxa uf yf gf t9 og qg eg Inv,ν,⟨t15,rfl,h0⟩,fun μ tm H h=>by obtain ⟨t15,rfl,hI⟩:=h;exact hs μ t15  H hI⟩
theorem z1is {uf:OA} {yf gf:Nat} {t9:Int} {og:OA} {qg eg:Nat} {Q:Post} {Inv:Nat→Int→zp→Prop} {μ:Nat} (μ':Nat) {t15:Int}  {H:zp} (hm:μ'<μ) (hI:Inv μ' t15 H):z1b (zxa uf yf gf t9 og qg eg Inv) μ Q .normal (zkc uf yf gf t9 og qg eg t15) H:=⟨μ',hm,t15,rfl,hI⟩
theorem z13v (uf:OA) (yf gf:Nat) (t9:Int) (H:zp)  (R:Post) {I:Nat→List Value→zp→Prop} {μ:Nat}:z1b I μ (z1a 2 (z1a 1 (seqQ (exL Tryz.prog z8t (cr (cr (cr (cl (cl (cr (cl (cr (zq Tryz.f104))))))))) 896 4 [(0,0)]) (R)))) (.exit 2) (ud7 (.slice uf gf yf::.int .i64 (gf:Int)::.int .i64 t9::ud14 [])) H=
 (R .normal (ud7 (.slice uf gf yf::.int .i64 (gf:Int)::.int .i64 (IntKind.wrap .i64 (t9+1))::ud14 [])) H):=by kernel_rfl
theorem zqk (t2_2:Bool) (H:zp)  (R:Post) {I:Nat→List Value→zp→Prop} {μ:Nat}:z1b I μ (z1a 2 (z1a 1 (seqQ (exL Tryz.prog z8t (cr (cr (cr (cl (cl (cr (cl (cr (zq Tryz.f104))))))))) 896 4 [(0,0)]) (R)))) .ret (ud2 (.bool t2_2::ud21 [])) H=
 (R .ret (ud2 (.bool t2_2::ud21 [])) H):=by kernel_rfl
theorem zzw:∀g,FnOk Tryz.prog g (z8t g):=FnOk.envOf (by
 intro x hx
 simp only [List.mem_cons,List.not_mem_nil,or_false] at hx
 subst hx;exact f17z_ok)
theorem z13t (uf:OA) (gf yf:Nat) (H:zp) (K:KT) (h:zm6 uf gf yf H fun (r1:Bool) (H':zp)=>K (.bool r1) H'):zw Tryz.prog z8t Tryz.f104 [.slice uf gf yf] H K:=by
 rw [z1iv]
 obtain ⟨sf,i_lists,bd_22,bb_l_lists,hk⟩:=h
 obtain rfl:=i_lists.eqn
 have e:(z7h sf)=_:=rfl
 have e:=e.trans (zpn sf)
 have g0:=Grow.refl H
 refine z1ip _ _ _ (fun (μ:Nat) (t9:Int) (H_1:zp)=>∃t2:Bool,H=H_1∧(0:Int)≤t9∧t9≤(sf.length:Int)∧(sf.length:Int)-t9≤(μ:Int)∧z7h sf=z6y sf (μ+1) t2 t9) (Int.toNat ((sf.length:Int)-(0:Int))) _ H ?_ ?_
 ·exact ⟨_,rfl,ω7,ω7,ω2,e⟩
 ·intro μ t9  H_1 hI
  obtain ⟨t2,rfl,v_1,v_2,hμ,e⟩:=hI
  rw [z1it]
  have e:=e.trans (zgt sf μ t2 t9)
  have l_3:=g0.1
  refine Br.intro (fun c_4=>?_) (fun c_4=>?_)
  ·have e:=e.trans (zv c_4)
   have c_4':=odt c_4
   obtain ⟨b_5,f_6,q_7⟩:=((i_lists.grow g0)).pos ω0
   refine ⟨by omega,by omega,b_5,f_6,q_7,?_⟩
   obtain ⟨a_8,n_9,e_10,r_11,jh⟩:=(i_lists).rd (i:=(t9:Int).toNat) g0 q_7 ω2
   obtain rfl:=jh.eqn
   refine ⟨a_8,_,e_10,r_11,?_⟩
   have z13:=z14i bb_l_lists (t9:Int).toNat
   refine z1iq _ _ _ _ _ _ _ (fun (μ2:Nat) (t15:Int) (H_2:zp)=>∃t2_2:Bool,H=H_2∧(0:Int)≤t15∧t15≤((((sf).getD (t9:Int).toNat [])).length:Int)∧((((sf).getD (t9:Int).toNat [])).length:Int)-t15≤(μ2:Int)∧z7h sf=zbs sf t2 t9 (fun (t2_2:Bool) (t15:Int)=>(z6y sf μ t2_2 (t9+1))) (μ2+1) t2_2 t15) (Int.toNat (((((sf).getD (t9:Int).toNat [])).length:Int)-(0:Int))) _ H ?_ ?_
   ·exact ⟨_,rfl,ω7,ω7,ω2,e⟩
   ·intro μ2 t15  H_2 hI
    obtain ⟨t2_2,rfl,v_14,v_15,hμ,e⟩:=hI
    rw [z1iu]
    have e:=e.trans (zgu sf t2 t9 (fun (t2_2:Bool) (t15:Int)=>(z6y sf μ t2_2 (t9+1))) μ2 t2_2 t15)
    have l_16:=g0.1
    refine Br.intro (fun c_17=>?_) (fun c_17=>?_)
    ·have e:=e.trans (zv c_17)
     have c_17':=odt c_17
     obtain ⟨b18,f_19,q_20⟩:=((jh.grow g0)).pos ω0
     refine ⟨by omega,by omega,b18,f_19,q_20,?_⟩
     refine ⟨((((sf).getD (t9:Int).toNat [])).getD (t15:Int).toNat 0),(jh).rd g0 q_20 ω2 _,?_⟩
     refine z10l ?_
     refine Br.intro (fun c_21=>?_) (fun c_21=>?_)
     ·have e:=e.trans (zv c_21)
      have c_21n:=z1g c_21
      rw [zqk]
      rw [zqj]
      rw [e] at hk
      exact hk
     ·have e:=e.trans (zu c_21)
      have c_21n:=z1d c_21
      rw [show IntKind.wrap .i64 (t15+1)=(t15+1) from zt ω2 ω2]
      refine z1is (μ2-1) ω15 ⟨_,rfl,ω1,ω1,ω15,ω28⟩
    ·have e:=e.trans (zu c_17)
     have c_17':=odf c_17
     rw [z13v]
     rw [show IntKind.wrap .i64 (t9+1)=(t9+1) from zt ω2 ω2]
     refine z1ir (μ-1) ω15 ⟨_,rfl,ω1,ω1,ω15,ω13⟩
  ·have e:=e.trans (zu c_4)
   have c_4':=odf c_4
   rw [z13u]
   rw [e] at hk
   exact hk
theorem zp0:FnOk Tryz.prog 104 zul:=FnOk.bodyF mix_ok zzw Tryz.func104 rfl ω10 ω10 fun args H=>by
 unfold F_frz
 split
 ·refine ⟨?_,?_,?_,?_,fun K hk=>z13t _ _ _ H K hk⟩
  ·intro K K' h hk;obtain ⟨sf,i_lists,bd_22,bb_l_lists,k⟩:=hk;exact ⟨sf,i_lists,bd_22,bb_l_lists,h _ _ k⟩
  ·intro _ K hk;obtain ⟨sf,i_lists,bd_22,bb_l_lists,k⟩:=hk;exact ⟨_,k,fun K' k'=>⟨sf,i_lists,bd_22,bb_l_lists,k'⟩⟩
  ·intro K hk;obtain ⟨sf,i_lists,bd_22,bb_l_lists,k⟩:=hk;exact ⟨_,_,k⟩
  ·nofun
 ·exact Nice.no
def zle (x:Nat):Bool:=(bif (zge x) then flt .f32 0 x else false)
def zjd (x:Nat) (H:zp) (K:Bool→zp→Prop):Prop:=K (zle x) H

theorem z11d {x:Nat} {H:zp} {K:Bool→zp→Prop} (h:K (zle x) H):zjd x H K:=h
def ztx:Env:=envOf [(118,zud)]
def z17n (args:List Value) (H:zp):(Value→zp→Prop)→Prop:=match args with
 | [.float .f32 x]=>fun K=>zjd x H fun (r1:Bool) (H':zp)=>K (.bool r1) H'
 | _=>fun _=>False
def z18u:FSpec:={F:=z17n,quiet:=true,tame:=false}
theorem f20z_vc (x:Nat) (H:zp) (K:KT):zw Tryz.prog ztx Tryz.f91 [.float .f32 x] H K=
 (zdc x H fun (r1:Bool) (H1:zp)=>Br r1 (K (.bool (flt .f32 0 x)) H1) (K (.bool false) H1)):=by kernel_rfl
theorem zty:∀g,FnOk Tryz.prog g (ztx g):=FnOk.envOf (by
 intro x hx
 simp only [List.mem_cons,List.not_mem_nil,or_false] at hx
 subst hx;exact f17z_ok)
theorem f20z_main (x:Nat) (H:zp) (K:KT) (h:zjd x H fun (r1:Bool) (H':zp)=>K (.bool r1) H'):zw Tryz.prog ztx Tryz.f91 [.float .f32 x] H K:=by
 rw [f20z_vc]
 simp only [zdc]
 unfold zjd zle at h
 repeat' (first | exact h | (exfalso;simp_all;done) | (refine ⟨by decide,?_⟩) | (refine Br.intro (fun hb=>?_) (fun hb=>?_)<;>(try simp only [hb,cond_true,cond_false,Bool.not_true,Bool.not_false] at h)))
theorem f20z_ok:FnOk Tryz.prog 91 z18u:=FnOk.bodyF mix_ok zty Tryz.func91 rfl ω10 ω10 fun args H=>by
 unfold z17n
 split
 ·refine ⟨?_,?_,?_,?_,fun K hk=>f20z_main _ H K hk⟩
  ·intro K K' h hk;have k:=hk;exact h _ _ k
  ·intro _ K hk;have k:=hk;exact ⟨_,k,fun K' k'=>k'⟩
  ·intro K hk;have k:=hk;exact ⟨_,_,k⟩
  ·nofun
 ·exact Nice.no

def z6r (fa:LN) (za:Nat):Bool:=(bif (z2w (fa.length:Int) (1:Int) (8:Int)) then (bif (z7h ([fa])) then (zle za) else false) else false)
def zpg:=@z6r.eq_1
def zq0 (eb:OA) (lb mb za:Nat) (H:zp) (K:Bool→zp→Prop):Prop:=∃fa:LN,IsL fF H eb lb fa∧fa.length<1073741824∧((∀H':zp,Grow H H'→K (z6r fa za) H'))
theorem zm5 {eb:OA} {lb mb za:Nat} {H:zp} {K:Bool→zp→Prop} (h:∃fa:LN,IsL fF H eb lb fa∧fa.length<1073741824∧((∀H':zp,Grow H H'→K (z6r fa za) H'))):zq0 eb lb mb za H K:=h

def E_ffz:Env:=envOf [(68,zay),(104,zul),(91,z18u)]
def F_ffz (args:List Value) (H:zp):(Value→zp→Prop)→Prop:=match args with
 | [.agg ⟨[.slice eb lb mb,.float .f32 za]⟩]=>fun K=>zq0 eb lb mb za H fun (r1:Bool) (H':zp)=>K (.bool r1) H'
 | _=>fun _=>False
def S_ffz:FSpec:={F:=F_ffz,quiet:=false,tame:=true}
theorem z1h8 (eb:OA) (lb mb za:Nat) (H:zp) (K:KT):zw Tryz.prog E_ffz Tryz.f49 [.agg #[.slice eb lb mb,.float .f32 za]] H K=
 (Al [.slice eb lb mb,.float .f32 za] H fun b1 H1=>∃og:OA,∃(eg qg:Nat),  rdC H1 b1 0=some (.slice og eg qg)∧z3j (eg:Int) 1 8 H1 fun (r1:Bool) (H2:zp)=>Br r1 (∃qk:OA,∃(pk sk:Nat),  rdC H2 b1 0=some (.slice qk pk sk)∧Al [.slice qk pk sk] H2 fun b2 H3=>zm6 (some ⟨b2,0,none⟩) 1 1 H3 fun (r2:Bool) (H4:zp)=>Br r2 (∃x3:Nat,  rdC H4 b1 1=some (.float .f32 x3)∧zjd x3 H4 fun (r3:Bool) (H5:zp)=>K (.bool r3) H5) (K (.bool false) H4)) (K (.bool false) H2)):=by kernel_rfl
theorem zzk:∀g,FnOk Tryz.prog g (E_ffz g):=FnOk.envOf (by
 intro x hx
 simp only [List.mem_cons,List.not_mem_nil,or_false] at hx
 rcases hx with rfl | rfl | rfl
 ·exact f22z_ok
 ·exact zp0
 ·exact f20z_ok)
theorem ω16 {P:Prop} (h:P:=by first | assumption | exact zp9 (by assumption) (by omega) | exact zp9 (by assumption:_∧(_∨_)).2 (by omega) | (intro y hy;simp only [List.mem_cons,List.not_mem_nil,or_false] at hy;first | omega | (subst hy;omega) | (rcases hy with rfl | rfl<;>omega) | (rcases hy with rfl | rfl | rfl<;>omega))):P:=h
theorem z12t (eb:OA) (lb mb za:Nat) (H:zp) (K:KT) (h:zq0 eb lb mb za H fun (r1:Bool) (H':zp)=>K (.bool r1) H'):zw Tryz.prog E_ffz Tryz.f49 [.agg #[.slice eb lb mb,.float .f32 za]] H K:=by
 rw [z1h8]
 obtain ⟨fa,ze,bd_25,hk⟩:=h
 obtain rfl:=ze.eqn
 have e:(z6r fa za)=_:=rfl
 have e:=e.trans (zpg fa za)
 have g0:=Grow.refl H
 refine Al.intro (fun b_1 H_1 hb_2 hl_3 g_4 o_5=>?_)
 have l_7:=g_4.1
 have g_8:=g0.trans g_4
 have l_9:=g_8.1
 have w24:=o_5.lt
 refine ⟨eb,fa.length,mb,(o_5.rdC _).trans rfl,?_⟩
 refine z4j ?_
 refine Br.intro (fun c_10=>?_) (fun c_10=>?_)
 ·have e:=e.trans (zv c_10)
  have c_10':=f22z_t c_10
  refine ⟨eb,fa.length,mb,(o_5.rdC _).trans rfl,?_⟩
  refine Al.intro (fun b_11 H_2 hb_12 hl_13 g_14 o15=>?_)
  have l_17:=g_14.1
  have g_18:=g_8.trans g_14
  have l_19:=g_18.1
  have o20:=o_5.grow g_14
  have w21:=o20.lt
  have w23:=o15.lt
  refine zho ⟨[fa],⟨_,o15.rdAll rfl,LLc.cons (ze.grow g_18) (LLc.nil _ _)⟩,ω0,ω16,?_⟩
  refine Br.intro (fun c_22=>?_) (fun c_22=>?_)
  ·have e:=e.trans (zv c_22)
   refine ⟨za,(o20.rdC _).trans rfl,?_⟩
   refine z11d ?_
   rw [e] at hk
   exact hk  H_2 g_18 
  ·have e:=e.trans (zu c_22)
   rw [e] at hk
   exact hk  H_2 g_18 
 ·have e:=e.trans (zu c_10)
  rw [e] at hk
  exact hk  H_1 g_8 
theorem zwu:FnOk Tryz.prog 49 S_ffz:=FnOk.bodyF mix_ok zzk Tryz.func49 rfl ω10 ω10 fun args H=>by
 unfold F_ffz
 split
 ·refine ⟨?_,?_,?_,?_,fun K hk=>z12t _ _ _ _ H K hk⟩
  ·intro K K' h hk;obtain ⟨fa,ze,bd_25,k⟩:=hk;exact ⟨fa,ze,bd_25,(fun  H' gg  =>h _ _ (k  H' gg))⟩
  ·nofun
  ·intro K hk;obtain ⟨fa,ze,bd_25,k⟩:=hk;exact ⟨_,_,k H (Grow.refl H)⟩
  ·intro _ K hk;obtain ⟨fa,ze,bd_25,k⟩:=hk;exact ⟨fa,ze,bd_25,(fun  H' gg  =>⟨gg,k  H' gg⟩)⟩
 ·exact Nice.no

def z1s (ga ja:Int) (ba:LN):Bool:=((bif (z2w ga (1:Int) (16:Int)) then (bif (z2w ja (1:Int) (16:Int)) then (bif ((ba.length:Int):Int)==IntKind.wrap .i64 (ga*ja) then (z7h ([ba])) else false) else false) else false))
def zbl:=@z1s.eq_1
def zhn (ga ja:Int) (ta:OA) (va ya:Nat) (H:zp) (K:Bool→zp→Prop):Prop:=∃ba:LN,IsL fF H ta va ba∧ba.length<1073741824∧((∀H':zp,Grow H H'→K (z1s ga ja ba) H'))
theorem zbx {ga ja:Int} {ta:OA} {va ya:Nat} {H:zp} {K:Bool→zp→Prop} (h:∃ba:LN,IsL fF H ta va ba∧ba.length<1073741824∧((∀H':zp,Grow H H'→K (z1s ga ja ba) H'))):zhn ga ja ta va ya H K:=h
theorem f8z_t {w h:Int} {l:LN} (hh:z1s w h l=true):1≤w∧w≤16∧1≤h∧h≤16∧(l.length:Int)=w*h∧(l.length:Int)≤256∧1≤(l.length:Int):=by
 rw [zbl] at hh
 simp only [Bool.cond_false_right,Bool.and_eq_true] at hh
 obtain ⟨a,b,c,-⟩:=hh
 have a:=f22z_t a
 have b:=f22z_t b
 have h1:w*h≤16*16:=Int.mul_le_mul ω2 ω2 ω2 ω22
 have h2:1*1≤w*h:=Int.mul_le_mul ω2 ω2 ω2 ω2
 have c:=eq_of_beq c
 rw [zt ω2 ω2] at c
 exact ⟨a.1,a.2,b.1,b.2,c,by omega,by omega⟩
def E_f8z:Env:=envOf [(68,zay),(104,zul)]
def F_f8z (args:List Value) (H:zp):(Value→zp→Prop)→Prop:=match args with
 | [.agg ⟨[.int .i64 ga,.int .i64 ja,.slice ta va ya]⟩]=>fun K=>zhn ga ja ta va ya H fun (r1:Bool) (H':zp)=>K (.bool r1) H'
 | _=>fun _=>False
def zm4:FSpec:={F:=F_f8z,quiet:=false,tame:=true}
theorem f8z_vc (ga ja:Int) (ta:OA) (va ya:Nat) (H:zp) (K:KT):zw Tryz.prog E_f8z Tryz.f50 [.agg #[.int .i64 ga,.int .i64 ja,.slice ta va ya]] H K=
 (Al [.int .i64 ga,.int .i64 ja,.slice ta va ya] H fun b1 H1=>∃x1:Int,  rdC H1 b1 0=some (.int .i64 x1)∧z3j x1 1 16 H1 fun (r1:Bool) (H2:zp)=>Br r1 (∃x2:Int,  rdC H2 b1 1=some (.int .i64 x2)∧z3j x2 1 16 H2 fun (r2:Bool) (H3:zp)=>Br r2 (∃sj:OA,∃(qj yj:Nat),  rdC H3 b1 2=some (.slice sj qj yj)∧∃x4:Int,  rdC H3 b1 0=some (.int .i64 x4)∧∃x5:Int,  rdC H3 b1 1=some (.int .i64 x5)∧Br (((qj:Int):Int)==IntKind.wrap .i64 (x4*x5)) (∃ai:OA,∃(zh ki:Nat),  rdC H3 b1 2=some (.slice ai zh ki)∧Al [.slice ai zh ki] H3 fun b2 H4=>zm6 (some ⟨b2,0,none⟩) 1 1 H4 fun (r3:Bool) (H5:zp)=>K (.bool r3) H5) (K (.bool false) H3)) (K (.bool false) H3)) (K (.bool false) H2)):=by kernel_rfl
theorem zzd:∀g,FnOk Tryz.prog g (E_f8z g):=FnOk.envOf (by
 intro x hx
 simp only [List.mem_cons,List.not_mem_nil,or_false] at hx
 rcases hx with rfl | rfl
 ·exact f22z_ok
 ·exact zp0)
theorem f8z_main (ga ja:Int) (ta:OA) (va ya:Nat) (H:zp) (K:KT) (h:zhn ga ja ta va ya H fun (r1:Bool) (H':zp)=>K (.bool r1) H'):zw Tryz.prog E_f8z Tryz.f50 [.agg #[.int .i64 ga,.int .i64 ja,.slice ta va ya]] H K:=by
 rw [f8z_vc]
 obtain ⟨ba,nd,bd_26,hk⟩:=h
 obtain rfl:=nd.eqn
 have e:(z1s ga ja ba)=_:=rfl
 have e:=e.trans (zbl ga ja ba)
 have g0:=Grow.refl H
 refine Al.intro (fun b_1 H_1 hb_2 hl_3 g_4 o_5=>?_)
 have l_7:=g_4.1
 have g_8:=g0.trans g_4
 have l_9:=g_8.1
 have w25:=o_5.lt
 refine ⟨ga,(o_5.rdC _).trans rfl,?_⟩
 refine z4j ?_
 refine Br.intro (fun c_10=>?_) (fun c_10=>?_)
 ·have e:=e.trans (zv c_10)
  have c_10':=f22z_t c_10
  refine ⟨ja,(o_5.rdC _).trans rfl,?_⟩
  refine z4j ?_
  refine Br.intro (fun c_11=>?_) (fun c_11=>?_)
  ·have e:=e.trans (zv c_11)
   have c_11':=f22z_t c_11
   refine ⟨ta,ba.length,ya,(o_5.rdC _).trans rfl,?_⟩
   refine ⟨ga,(o_5.rdC _).trans rfl,?_⟩
   refine ⟨ja,(o_5.rdC _).trans rfl,?_⟩
   refine Br.intro (fun c_12=>?_) (fun c_12=>?_)
   ·have e:=e.trans (zv c_12)
    have c_12':=za1 c_12
    refine ⟨ta,ba.length,ya,(o_5.rdC _).trans rfl,?_⟩
    refine Al.intro (fun b_13 H_2 hb_14 hl_15 g16 o_17=>?_)
    have l_19:=g16.1
    have g20:=g_8.trans g16
    have l_21:=g20.1
    have o22:=o_5.grow g16
    have w23:=o22.lt
    have w24:=o_17.lt
    refine zho ⟨[ba],⟨_,o_17.rdAll rfl,LLc.cons (nd.grow g20) (LLc.nil _ _)⟩,ω0,ω16,?_⟩
    rw [e] at hk
    exact hk  H_2 g20 
   ·have e:=e.trans (zu c_12)
    have c_12':=z8s c_12
    rw [e] at hk
    exact hk  H_1 g_8 
  ·have e:=e.trans (zu c_11)
   rw [e] at hk
   exact hk  H_1 g_8 
 ·have e:=e.trans (zu c_10)
  rw [e] at hk
  exact hk  H_1 g_8 
theorem f8z_ok:FnOk Tryz.prog 50 zm4:=FnOk.bodyF mix_ok zzd Tryz.func50 rfl ω10 ω10 fun args H=>by
 unfold F_f8z
 split
 ·refine ⟨?_,?_,?_,?_,fun K hk=>f8z_main _ _ _ _ _ H K hk⟩
  ·intro K K' h hk;obtain ⟨ba,nd,bd_26,k⟩:=hk;exact ⟨ba,nd,bd_26,(fun  H' gg  =>h _ _ (k  H' gg))⟩
  ·nofun
  ·intro K hk;obtain ⟨ba,nd,bd_26,k⟩:=hk;exact ⟨_,_,k H (Grow.refl H)⟩
  ·intro _ K hk;obtain ⟨ba,nd,bd_26,k⟩:=hk;exact ⟨ba,nd,bd_26,(fun  H' gg  =>⟨gg,k  H' gg⟩)⟩
 ·exact Nice.no
def zfr (levels:Int):Bool:=(z2w levels 1 4)
def zm7 (levels:Int) (H:zp) (K:Bool→zp→Prop):Prop:=K (zfr levels) H
theorem ftz_t {n:Int} (h:zfr n=true):1≤n∧n≤4:=f22z_t h
theorem z1bi {levels:Int} {H:zp} {K:Bool→zp→Prop} (h:K (zfr levels) H):zm7 levels H K:=h
def E_ftz:Env:=envOf [(68,zay)]
def F_ftz (args:List Value) (H:zp):(Value→zp→Prop)→Prop:=match args with
 | [.int .i64 levels]=>fun K=>zm7 levels H fun (r1:Bool) (H':zp)=>K (.bool r1) H'
 | _=>fun _=>False
def S_ftz:FSpec:={F:=F_ftz,quiet:=true,tame:=false}
theorem z1iw (levels:Int) (H:zp) (K:KT):zw Tryz.prog E_ftz Tryz.f51 [.int .i64 levels] H K=
 (z3j levels 1 4 H fun (r1:Bool) (H1:zp)=>K (.bool r1) H1):=by kernel_rfl
theorem zzx:∀g,FnOk Tryz.prog g (E_ftz g):=FnOk.envOf (by
 intro x hx
 simp only [List.mem_cons,List.not_mem_nil,or_false] at hx
 subst hx;exact f22z_ok)
theorem z13w (levels:Int) (H:zp) (K:KT) (h:zm7 levels H fun (r1:Bool) (H':zp)=>K (.bool r1) H'):zw Tryz.prog E_ftz Tryz.f51 [.int .i64 levels] H K:=by
 rw [z1iw]
 simp only [z3j]
 unfold zm7 zfr at h
 repeat' (first | exact h | (exfalso;simp_all;done) | (refine ⟨by decide,?_⟩) | (refine Br.intro (fun hb=>?_) (fun hb=>?_)<;>(try simp only [hb,cond_true,cond_false,Bool.not_true,Bool.not_false] at h)))
theorem z19o:FnOk Tryz.prog 51 S_ftz:=FnOk.bodyF mix_ok zzx Tryz.func51 rfl ω10 ω10 fun args H=>by
 unfold F_ftz
 split
 ·refine ⟨?_,?_,?_,?_,fun K hk=>z13w _ H K hk⟩
  ·intro K K' h hk;have k:=hk;exact h _ _ k
  ·intro _ K hk;have k:=hk;exact ⟨_,k,fun K' k'=>k'⟩
  ·intro K hk;have k:=hk;exact ⟨_,_,k⟩
  ·nofun
 ·exact Nice.no

def zpb (ab:LN):LN:=(([]:LN)++ab)
def zlc:=@zpb.eq_1
def zjc (zb:OA) (vb jc:Nat) (H:zp) (K:OA→Nat→Nat→zp→Prop):Prop:=∃ab:LN,IsL fF H zb vb ab∧ab.length<1073741824∧((∀(od:OA) (xd vd:Nat),∀H':zp,Grow H H'→OwnS fF H' H.length od xd vd ab→K od xd vd H'))
theorem zog {zb:OA} {vb jc:Nat} {H:zp} {K:OA→Nat→Nat→zp→Prop} (h:∃ab:LN,IsL fF H zb vb ab∧ab.length<1073741824∧((∀(od:OA) (xd vd:Nat),∀H':zp,Grow H H'→OwnS fF H' H.length od xd vd ab→K od xd vd H'))):zjc zb vb jc H K:=h
theorem z1dk (l:LN):zpb l=l:=by
 rw [zlc];rfl
def ztt:Env:=envOf []
def z17k (args:List Value) (H:zp):(Value→zp→Prop)→Prop:=match args with
 | [.slice zb vb jc]=>fun K=>zjc zb vb jc H fun (od:OA) (xd:Nat) (vd:Nat) (H':zp)=>K (.slice od xd vd) H'
 | _=>fun _=>False
def zui:FSpec:={F:=z17k,quiet:=false,tame:=true}
theorem z1dl (zb:OA) (vb jc:Nat) (H:zp) (K:KT):zw Tryz.prog ztt Tryz.f53 [.slice zb vb jc] H K=
 (Al [] H fun b1 H1=>∃o1 w1:List Value,ownB H1 (some ⟨b1,0,none⟩) 0 1 1=some o1∧rdS H1 zb (vb*1)=some w1∧((some ⟨b1,0,none⟩:OA)=none→0<(vb:Nat))∧(0:Nat)+vb<most∧Ap H1 (z3c H1 (some ⟨b1,0,none⟩)++[some ⟨o1++w1,true⟩]) fun b2 H2=>K (.slice (some ⟨b2,0,none⟩) (0+vb) 1) H2):=by kernel_rfl
theorem ztu:∀g,FnOk Tryz.prog g (ztt g):=FnOk.envOf (by
 intro x hx;cases hx)
theorem zwl (zb:OA) (vb jc:Nat) (H:zp) (K:KT) (h:zjc zb vb jc H fun (od:OA) (xd:Nat) (vd:Nat) (H':zp)=>K (.slice od xd vd) H'):zw Tryz.prog ztt Tryz.f53 [.slice zb vb jc] H K:=by
 rw [z1dl]
 obtain ⟨ab,i_list,bd_21,hk⟩:=h
 have hk:(∀(od:OA) (xd vd:Nat),∀H':zp,Grow H H'→OwnS fF H' H.length od xd vd (zpb ab)→(fun (od:OA) (xd:Nat) (vd:Nat) (H':zp)=>K (.slice od xd vd) H') od xd vd H'):=by rw [z1dk ab];exact hk
 obtain rfl:=i_list.eqn
 have e:(zpb ab)=_:=rfl
 have e:=e.trans (zlc ab)
 have g0:=Grow.refl H
 refine Al.intro (fun b_1 H_1 hb_2 hl_3 g_4 o_5=>?_)
 have o_5:Own H_1 b_1 ((([]:LN)).map fF):=o_5
 have l_7:=g_4.1
 have g_8:=g0.trans g_4
 have l_9:=g_8.1
 have w20:=o_5.lt
 refine ⟨_,_,o_5.ownB ω3 rfl,(z2t (i_list.grow g_8)),(fun h=>by cases h),ω25,?_⟩
 refine Ap.app o_5 rfl rfl (fun b_14 H_2 q_18 hl_10 o_11 k_12=>?_)
 have o_11:=z2l o_11
 have l_15:=k_12.1
 have g16:=g_8.keep (b:=b_1) ω2 k_12
 have l_17:=g16.1
 have w_19:=o_11.lt
 rw [e] at hk
 exact hk _ _ _ H_2 g16 (o_11.ownS ω8 ω2)
theorem zwm:FnOk Tryz.prog 53 zui:=FnOk.bodyF mix_ok ztu Tryz.func53 rfl ω10 ω10 fun args H=>by
 unfold z17k
 split
 ·refine ⟨?_,?_,?_,?_,fun K hk=>zwl _ _ _ H K hk⟩
  ·intro K K' h hk;obtain ⟨ab,i_list,bd_21,k⟩:=hk;exact ⟨ab,i_list,bd_21,(fun od xd vd H' gg ow0=>h _ _ (k od xd vd H' gg ow0))⟩
  ·nofun
  ·intro K hk;obtain ⟨ab,i_list,bd_21,k⟩:=hk;exact z4i fun a n e H1 g o=>⟨_,_,k a n e H1 g o⟩
  ·intro _ K hk;obtain ⟨ab,i_list,bd_21,k⟩:=hk;exact ⟨ab,i_list,bd_21,(fun od xd vd H' gg ow0=>⟨gg,k od xd vd H' gg ow0⟩)⟩
 ·exact Nice.no
end Go.Proofs.YthheoefadijhdaaGreat.Ai
