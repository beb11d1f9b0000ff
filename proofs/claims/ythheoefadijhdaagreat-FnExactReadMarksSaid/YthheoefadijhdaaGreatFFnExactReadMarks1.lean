/- What functions of the program come to on the abstract machine, and that they do so; printed by a program of mine around proofs of mine. -/
import Derived.Test.YthheoefadijhdaaGreatFFnExactReadMarks0
set_option linter.unusedVariables false
set_option linter.unusedSimpArgs false
set_option linter.defProp false
set_option maxRecDepth 100000
set_option maxHeartbeats 1000000
namespace Go.Proofs.YthheoefadijhdaaGreat.Ai
open Go
attribute [local irreducible] z6j zt
theorem z1ac {W H y:Int} (L:LN) (h0:0≤y) (h2:1≤W) (h3:W≤16) (h4:H≤16):(y<H→0≤y*W∧y*W≤(y+1)*W∧(y+1)*W=y*W+W∧(y+1)*W≤W*H∧W*H≤256)∧(List.take ((y+1)*W-y*W).toNat (List.drop (y*W).toNat L)).length≤((y+1)*W-y*W).toNat:=by
 refine ⟨fun h1=>?_,List.length_take_le _ _⟩
 have a:0≤y*W:=Int.mul_nonneg h0 ω2
 have b:(y+1)*W=y*W+W:=by rw [Int.add_mul,Int.one_mul]
 have c:(y+1)*W≤H*W:=Int.mul_le_mul_of_nonneg_right ω2 ω2
 have d:W*H≤16*16:=Int.mul_le_mul ω2 ω2 ω2 ω20
 have e:H*W=W*H:=Int.mul_comm _ _
 refine ⟨a,by omega,b,by omega,by omega⟩
def z4s (aa:LN) (oa:Nat) (ga za:Int) (ba:LN):Nat→Bool→Int→Int→Int→Int→Int→LN→Int×Int×LN×Bool
 | 0,_,_,_,_,_,_,_=>(0,0,[],false)
 | μ+1,t5,y,q1_1,q1_2,q1_4,q1_5,q1_6=>(bif decide ((y:Int)<za) then (bif !((z8g aa oa (((((((ba).drop ((y*ga):Int).toNat).take ((((y+1)*ga):Int)-(y*ga)).toNat)).drop (0:Int).toNat).take (((Int.tdiv (ga+1) 2):Int)-0).toNat)) (((((((ba).drop ((y*ga):Int).toNat).take ((((y+1)*ga):Int)-(y*ga)).toNat)).drop ((Int.tdiv (ga+1) 2):Int).toNat).take (((((((y+1)*ga):Int)-(y*ga)).toNat:Int):Int)-(Int.tdiv (ga+1) 2)).toNat))).2) then ((0:Int),(0:Int),[],false) else (z4s aa oa ga za ba μ t5 (y+1) q1_1 q1_2 q1_4 q1_5 ((q1_6++(z8g aa oa (((((((ba).drop ((y*ga):Int).toNat).take ((((y+1)*ga):Int)-(y*ga)).toNat)).drop (0:Int).toNat).take (((Int.tdiv (ga+1) 2):Int)-0).toNat)) (((((((ba).drop ((y*ga):Int).toNat).take ((((y+1)*ga):Int)-(y*ga)).toNat)).drop ((Int.tdiv (ga+1) 2):Int).toNat).take (((((((y+1)*ga):Int)-(y*ga)).toNat:Int):Int)-(Int.tdiv (ga+1) 2)).toNat))).1)))) else (q1_4,q1_5,q1_6,true))
def zef:=fun aa oa ga za ba μ t5 y q1_1 q1_2 q1_4 q1_5 q1_6=>@z4s.eq_2 aa oa ga za ba t5 y q1_1 q1_2 q1_4 q1_5 q1_6 μ
def z2y (aa:LN) (oa:Nat) (ga za:Int) (ba:LN):Int×Int×LN×Bool:=(z4s aa oa ga za ba (Int.toNat (za-(0:Int))+1) false (0:Int) 0 0 ga za ([]:LN))
def zl7:=@z2y.eq_1
def zo5 (s p:Nat) (H:zn) (K:Int→Int→OA→Nat→Nat→Bool→zn→Prop):Prop:=∃db:OA,∃(jb lb oa:Nat),∃(ga za:Int),∃eb:OA,∃(ib nb:Nat),∃(aa ba:LN),rdN H s 0 2=some [.slice db jb lb,.float .f32 oa]∧rdN H p 0 3=some [.int .i64 ga,.int .i64 za,.slice eb ib nb]∧IsL fF H db jb aa∧IsL fF H eb ib ba∧aa.length<1073741824∧ba.length<1073741824∧1≤ga∧ga≤16∧1≤za∧za≤16∧(ba.length:Int)=ga*za∧((∀(ta:OA) (xa ua:Nat),∀H':zn,Grow H H'→OwnS fF H' H.length ta xa ua ((z2y aa oa ga za ba).2.2.1)→K ((z2y aa oa ga za ba).1) ((z2y aa oa ga za ba).2.1) ta xa ua ((z2y aa oa ga za ba).2.2.2) H'))
theorem z10t {s p:Nat} {H:zn} {K:Int→Int→OA→Nat→Nat→Bool→zn→Prop} (h:∃db:OA,∃(jb lb oa:Nat),∃(ga za:Int),∃eb:OA,∃(ib nb:Nat),∃(aa ba:LN),rdN H s 0 2=some [.slice db jb lb,.float .f32 oa]∧rdN H p 0 3=some [.int .i64 ga,.int .i64 za,.slice eb ib nb]∧IsL fF H db jb aa∧IsL fF H eb ib ba∧aa.length<1073741824∧ba.length<1073741824∧1≤ga∧ga≤16∧1≤za∧za≤16∧(ba.length:Int)=ga*za∧((∀(ta:OA) (xa ua:Nat),∀H':zn,Grow H H'→OwnS fF H' H.length ta xa ua ((z2y aa oa ga za ba).2.2.1)→K ((z2y aa oa ga za ba).1) ((z2y aa oa ga za ba).2.1) ta xa ua ((z2y aa oa ga za ba).2.2.2) H'))):zo5 s p H K:=h
theorem zyu {l:LN} {W Hi y:Int} (h1:1≤W) (hl:(l.length:Int)=W*Hi) (h0:0≤y) (hy:y<Hi):(((((l).drop ((y*W):Int).toNat).take ((((y+1)*W):Int)-(y*W)).toNat)).length:Int)=W:=by
 have e2:(y+1)*W=y*W+W:=by rw [Int.add_mul,Int.one_mul]
 have s1:0≤y*W:=Int.mul_nonneg ω2 ω2
 have s3:(y+1)*W≤(l.length:Int):=by
  rw [hl,Int.mul_comm]
  exact Int.mul_le_mul_of_nonneg_left ω2 ω2
 rw [List.length_take,List.length_drop]
 omega
theorem zc0 (ws:LN) (sc:Nat) (W Hi:Int) (l:LN) (h1:1≤W) (hl:(l.length:Int)=W*Hi):∀(μ:Nat) (t5:Bool) (y q1 q2 q4 q5:Int) (q6:LN),0≤y→y≤Hi→(z4s ws sc W Hi l μ t5 y q1 q2 q4 q5 q6).2.2.2=true→
  (z4s ws sc W Hi l μ t5 y q1 q2 q4 q5 q6).1=q4∧(z4s ws sc W Hi l μ t5 y q1 q2 q4 q5 q6).2.1=q5∧((z4s ws sc W Hi l μ t5 y q1 q2 q4 q5 q6).2.2.1.length:Int)=q6.length+(Hi-y)*W:=by
 intro μ
 induction μ with
 | zero=>intro t5 y q1 q2 q4 q5 q6 _ _ h;simp [z4s] at h
 | succ μ ih=>
  intro t5 y q1 q2 q4 q5 q6 h0 hy h
  rw [zef] at h ⊢
  by_cases c:y<Hi
  ·have hr:=zyu (l:=l) h1 hl h0 c
   have e1:(((((y+1)*W):Int)-(y*W)).toNat:Int)=W:=by
    have e2:(y+1)*W=y*W+W:=by rw [Int.add_mul,Int.one_mul]
    omega
   have hh:Int.tdiv (W+1) 2=(W+1) / 2:=Int.tdiv_eq_ediv_of_nonneg ω2
   rw [dct c] at h ⊢
   simp only [cond_true] at h ⊢
   rw [e1] at h ⊢
   generalize ((((l).drop ((y*W):Int).toNat).take ((((y+1)*W):Int)-(y*W)).toNat))=r at *
   generalize hA:List.take (((Int.tdiv (W+1) 2):Int)-0).toNat (List.drop (0:Int).toNat r)=A at *
   generalize hB:List.take (W-(Int.tdiv (W+1) 2)).toNat (List.drop ((Int.tdiv (W+1) 2):Int).toNat r)=B at *
   have lA:(A.length:Int)=(W+1) / 2:=by rw [←hA,List.length_take,List.length_drop];omega
   have lB:(B.length:Int)=W-(W+1) / 2:=by rw [←hB,List.length_take,List.length_drop];omega
   cases hg:(z8g ws sc A B).2 with
   | false=>rw [hg] at h;simp at h
   | true=>
    obtain ⟨g1,_⟩:=zsc ws sc A B hg
    have g3:=zjw ws sc A B
    rw [hg] at h
    simp only [Bool.not_true,cond_false] at h ⊢
    obtain ⟨b1,b2,b3⟩:=ih t5 (y+1) q1 q2 q4 q5 _ ω2 ω2 h
    refine ⟨b1,b2,b3.trans ?_⟩
    rw [List.length_append,g1]
    have e3:(Hi-(y+1))*W=(Hi-y)*W-W:=by rw [show Hi-(y+1)=(Hi-y)-1 by omega,Int.sub_mul,Int.one_mul]
    omega
  ·rw [dcf c,cond_false]
   refine ⟨rfl,rfl,?_⟩
   rw [show Hi-y=0 by omega,Int.zero_mul];show (q6.length:Int)=_;omega
theorem zfq {ws:LN} {sc:Nat} {W Hi:Int} {l:LN} (h1:1≤W) (h3:1≤Hi) (hl:(l.length:Int)=W*Hi) (h:(z2y ws sc W Hi l).2.2.2=true):(z2y ws sc W Hi l).1=W∧(z2y ws sc W Hi l).2.1=Hi∧((z2y ws sc W Hi l).2.2.1.length:Int)=W*Hi:=by
 rw [zl7] at h ⊢
 obtain ⟨a,b,c⟩:=zc0 ws sc W Hi l h1 hl _ _ _ _ _ _ _ _ ω2 ω2 h
 refine ⟨a,b,c.trans ?_⟩
 rw [show Hi-0=Hi by omega,Int.mul_comm];simp
def za5:Env:=envOf [(167,S_fez)]
def z16z (args:List Value) (H:zn):(Value→zn→Prop)→Prop:=match args with
 | [.pointer (some ⟨s,0,none⟩),.pointer (some ⟨p,0,none⟩)]=>fun K=>zo5 s p H fun (xc:Int) (vc:Int) (ta:OA) (xa:Nat) (ua:Nat) (r2:Bool) (H':zn)=>K (.tuple #[.agg #[.int .i64 xc,.int .i64 vc,.slice ta xa ua],.bool r2]) H'
 | _=>fun _=>False
def z18l:FSpec:={F:=z16z,quiet:=false,tame:=true}
theorem f12z_vc (s p:Nat) (H:zn) (K:KT):zt Tryz.prog za5 Tryz.f151 [.pointer (some ⟨s,0,none⟩),.pointer (some ⟨p,0,none⟩)] H K=
 (Al [.int .i64 0,.int .i64 0,.slice none 0 0] H fun b1 H1=>∃x1:Int,  rdC H1 p 1=some (.int .i64 x1)∧∃x2:Int,  rdC H1 p 0=some (.int .i64 x2)∧Al [] H1 fun b2 H2=>Al [.int .i64 0,.int .i64 0,.slice none 0 0] H2 fun b3 H3=>isOwn H3 b3∧(∃l,rdN H3 b3 0 3=some l)∧Lt (setN H3 b3 0 [.int .i64 x2,.int .i64 x1,.slice (some ⟨b2,0,none⟩) 0 1]) fun H4=>∃x3:Int,  rdC H4 p 0=some (.int .i64 x3)∧2≠(0:Int)∧z1j (exL Tryz.prog za5 (cl (cl (cr (cl (cr (cr (cr (zo Tryz.f151)))))))) 467 48 [(0,80)]) (.pointer (some ⟨s,0,none⟩)::.pointer (some ⟨p,0,none⟩)::ud2 (.pointer (some ⟨b1,0,none⟩)::ud::.pointer (some ⟨b3,0,none⟩)::.int .i64 (IntKind.wrap .i64 (Int.tdiv (IntKind.wrap .i64 (x3+1)) 2))::.int .i64 0::ud65 [])) H4 (zu 0 (seqQ (exL Tryz.prog za5 (cr (cr (cr (cr (zo Tryz.f151))))) 48 48 []) (retK Tryz.prog Tryz.f151 K)))):=by kernel_rfl
abbrev f12z_P1 (b1 b3 p s:Nat) (z1_7 y:Int)  :List Value:=(.pointer (some ⟨s,0,none⟩)::.pointer (some ⟨p,0,none⟩)::ud2 (.pointer (some ⟨b1,0,none⟩)::ud::.pointer (some ⟨b3,0,none⟩)::.int .i64 z1_7::.int .i64 y::ud65 []))
theorem f12z_r1 (b1 b3 p s:Nat) (z1_7 y:Int)  (H:zn) (R:Post):exL Tryz.prog za5 (cl (cl (cr (cl (cr (cr (cr (zo Tryz.f151)))))))) 467 48 [(0,80)] (f12z_P1 b1 b3 p s z1_7 y) H R=
 (∃x4:Int,  rdC H p 1=some (.int .i64 x4)∧Br (decide ((y:Int)<x4)) (∃gj:OA,∃(cj ak:Nat),  rdC H p 2=some (.slice gj cj ak)∧∃x6:Int,  rdC H p 0=some (.int .i64 x6)∧∃x7:Int,  rdC H p 0=some (.int .i64 x7)∧(0:Int)≤IntKind.wrap .i64 (y*x6)∧IntKind.wrap .i64 (y*x6)≤IntKind.wrap .i64 ((IntKind.wrap .i64 (y+1))*x7)∧IntKind.wrap .i64 ((IntKind.wrap .i64 (y+1))*x7)≤(cj:Int)∧(0:Int)≤0∧0≤z1_7∧z1_7≤(((IntKind.wrap .i64 ((IntKind.wrap .i64 (y+1))*x7):Int)-IntKind.wrap .i64 (y*x6)).toNat:Int)∧(0:Int)≤z1_7∧z1_7≤(((IntKind.wrap .i64 ((IntKind.wrap .i64 (y+1))*x7):Int)-IntKind.wrap .i64 (y*x6)).toNat:Int)∧(((IntKind.wrap .i64 ((IntKind.wrap .i64 (y+1))*x7):Int)-IntKind.wrap .i64 (y*x6)).toNat:Int)≤(((IntKind.wrap .i64 ((IntKind.wrap .i64 (y+1))*x7):Int)-IntKind.wrap .i64 (y*x6)).toNat:Int)∧T_fez s ((((gj:OA).map fun a=>⟨a.block,a.off+(IntKind.wrap .i64 (y*x6):Int).toNat*1,none⟩:OA)).map fun a=>⟨a.block,a.off+(0:Int).toNat*1,none⟩) (((z1_7:Int)-0).toNat) 0 ((((gj:OA).map fun a=>⟨a.block,a.off+(IntKind.wrap .i64 (y*x6):Int).toNat*1,none⟩:OA)).map fun a=>⟨a.block,a.off+(z1_7:Int).toNat*1,none⟩) ((((((IntKind.wrap .i64 ((IntKind.wrap .i64 (y+1))*x7):Int)-IntKind.wrap .i64 (y*x6)).toNat:Int):Int)-z1_7).toNat) 0 H fun (a1:OA) (r1:Nat) (r2:Nat) (r3:Bool) (H5:zn)=>Br (!r3) (isOwn H5 b1∧(∃l,rdN H5 b1 0 3=some l)∧Lt (setN H5 b1 0 [.int .i64 0,.int .i64 0,.slice none 0 0]) fun H6=>R .ret (ud4 (.pointer (some ⟨b1,0,none⟩)::.bool false::ud68 [])) H6) (∃vj:OA,∃(wj vk:Nat),  rdC H5 b3 2=some (.slice vj wj vk)∧∃o1 w1:List Value,ownB H5 vj wj vk 1=some o1∧rdS H5 a1 (r1*1)=some w1∧((vj:OA)=none→0<(r1:Nat))∧(wj:Nat)+r1<most∧Ap H5 (z2s H5 vj++[some ⟨o1++w1,true⟩]) fun b4 H7=>isOwn H7 b3∧(∃l,rdN H7 b3 2 1=some l)∧Lt (setC H7 b3 2 (.slice (some ⟨b4,0,none⟩) (wj+r1) 1)) fun H8=>R .normal (.pointer (some ⟨s,0,none⟩)::.pointer (some ⟨p,0,none⟩)::ud2 (.pointer (some ⟨b1,0,none⟩)::ud::.pointer (some ⟨b3,0,none⟩)::.int .i64 z1_7::.int .i64 (IntKind.wrap .i64 (y+1))::ud65 [])) H8)) (R (.exit 0) (ud4 (.pointer (some ⟨b1,0,none⟩)::ud::.pointer (some ⟨b3,0,none⟩)::ud67 [])) H)):=by kernel_rfl
def f12z_I1 (b1 b3 p s:Nat) (z1_7:Int) (Inv:Nat→Int→zn→Prop):Nat→List Value→zn→Prop:=fun μ tm H=>∃y:Int,tm=(f12z_P1 b1 b3 p s z1_7 y)∧Inv μ y H
theorem f12z_L1 (b1 b3 p s:Nat) (z1_7:Int) {Q:Post} (Inv:Nat→Int→zn→Prop) (ν:Nat) (y:Int)  (H:zn) (h0:Inv ν y H)
  (hs:∀(μ:Nat) (y:Int)  (H:zn),Inv μ y H→exL Tryz.prog za5 (cl (cl (cr (cl (cr (cr (cr (zo Tryz.f151)))))))) 467 48 [(0,80)] (f12z_P1 b1 b3 p s z1_7 y) H (zx (f12z_I1 b1 b3 p s z1_7 Inv) μ Q)):z1j (exL Tryz.prog za5 (cl (cl (cr (cl (cr (cr (cr (zo Tryz.f151)))))))) 467 48 [(0,80)]) (f12z_P1 b1 b3 p s z1_7 y) H Q:=
 ⟨f12z_I1 b1 b3 p s z1_7 Inv,ν,⟨y,rfl,h0⟩,fun μ tm H h=>by obtain ⟨y,rfl,hI⟩:=h;exact hs μ y  H hI⟩
theorem f12z_n1 {b1 b3 p s:Nat} {z1_7:Int} {Q:Post} {Inv:Nat→Int→zn→Prop} {μ:Nat} (μ':Nat) {y:Int}  {H:zn} (hm:μ'<μ) (hI:Inv μ' y H):zx (f12z_I1 b1 b3 p s z1_7 Inv) μ Q .normal (f12z_P1 b1 b3 p s z1_7 y) H:=⟨μ',hm,y,rfl,hI⟩
theorem f12z_x1_0 (b1 b3:Nat) (H:zn) (K:KT)  {I:Nat→List Value→zn→Prop} {μ:Nat}:zx I μ (zu 0 (seqQ (exL Tryz.prog za5 (cr (cr (cr (cr (zo Tryz.f151))))) 48 48 []) (retK Tryz.prog Tryz.f151 K))) (.exit 0) (ud4 (.pointer (some ⟨b1,0,none⟩)::ud::.pointer (some ⟨b3,0,none⟩)::ud67 [])) H=
 (∃(c1 c2:Int),∃dh:OA,∃(fh eh:Nat),  rdN H b3 0 3=some [.int .i64 c1,.int .i64 c2,.slice dh fh eh]∧isOwn H b1∧(∃l,rdN H b1 0 3=some l)∧Lt (setN H b1 0 [.int .i64 c1,.int .i64 c2,.slice dh fh eh]) fun H9=>∃(c4 c5:Int),∃qh:OA,∃(th sh:Nat),  rdN H9 b1 0 3=some [.int .i64 c4,.int .i64 c5,.slice qh th sh]∧K (.tuple #[.agg #[.int .i64 c4,.int .i64 c5,.slice qh th sh],.bool true]) H9):=by kernel_rfl
theorem f12z_x1_ret (b1:Nat) (t5:Bool) (H:zn) (K:KT)  {I:Nat→List Value→zn→Prop} {μ:Nat}:zx I μ (zu 0 (seqQ (exL Tryz.prog za5 (cr (cr (cr (cr (zo Tryz.f151))))) 48 48 []) (retK Tryz.prog Tryz.f151 K))) .ret (ud4 (.pointer (some ⟨b1,0,none⟩)::.bool t5::ud68 [])) H=
 (∃(c7 c8:Int),∃ei:OA,∃(gi fi:Nat),  rdN H b1 0 3=some [.int .i64 c7,.int .i64 c8,.slice ei gi fi]∧K (.tuple #[.agg #[.int .i64 c7,.int .i64 c8,.slice ei gi fi],.bool t5]) H):=by kernel_rfl
theorem zsw:∀g,FnOk Tryz.prog g (za5 g):=FnOk.envOf (by
 intro x hx
 simp only [List.mem_cons,List.not_mem_nil,or_false] at hx
 subst hx;exact z1hv)
theorem f12z_main (s p:Nat) (H:zn) (K:KT) (h:zo5 s p H fun (xc:Int) (vc:Int) (ta:OA) (xa:Nat) (ua:Nat) (r2:Bool) (H':zn)=>K (.tuple #[.agg #[.int .i64 xc,.int .i64 vc,.slice ta xa ua],.bool r2]) H'):zt Tryz.prog za5 Tryz.f151 [.pointer (some ⟨s,0,none⟩),.pointer (some ⟨p,0,none⟩)] H K:=by
 rw [f12z_vc]
 obtain ⟨db,jb,lb,oa,ga,za,eb,ib,nb,aa,ba,i_s,i_p,yb,wb,bd_138,bd_139,pr0,pr1,pr2,pr3,pr4,hk⟩:=h
 obtain rfl:=yb.eqn
 obtain rfl:=wb.eqn
 have e:(z2y aa oa ga za ba)=_:=rfl
 have e:=e.trans (zl7 aa oa ga za ba)
 have g0:=Grow.refl H
 refine Al.intro (fun b_1 H_1 hb_2 hl_3 g_4 o_5=>?_)
 have l_7:=g_4.1
 have g_8:=g0.trans g_4
 have l_9:=g_8.1
 have w137:=o_5.lt
 refine ⟨za,(z1g (zq g_8 i_p) 1 (nbl rfl)).trans rfl,?_⟩
 refine ⟨ga,(z1g (zq g_8 i_p) 0 (nbl rfl)).trans rfl,?_⟩
 refine Al.intro (fun b_10 H_2 hb_11 hl_12 g_13 o_14=>?_)
 have o_14:Own H_2 b_10 ((([]:LN)).map fF):=o_14
 have l_16:=g_13.1
 have g_17:=g_8.trans g_13
 have l_18:=g_17.1
 have o_19:=o_5.grow g_13
 have w20:=o_19.lt
 have w136:=o_14.lt
 refine Al.intro (fun b_21 H_3 hb_22 hl_23 g24 o25=>?_)
 have l27:=g24.1
 have g28:=g_17.trans g24
 have l29:=g28.1
 have o30:=o_19.grow g24
 have w31:=o30.lt
 have o32:=o_14.grow g24
 have w33:=o32.lt
 have w135:=o25.lt
 refine Lt.setN (n:=3) o25 (nbl rfl) rfl (fun H_4 hl_34 o36 k35=>?_)
 have o36:Own H_4 b_21 [.int .i64 ga,.int .i64 za,.slice (some ⟨b_10,0,none⟩) 0 1]:=o36
 have l37:=k35.1
 have g38:=g28.keep (b:=b_21) ω2 k35
 have l39:=g38.1
 have o40:=o30.keep ω2 k35
 have w41:=o40.lt
 have o42:=o32.keep ω2 k35
 have w43:=o42.lt
 have w134:=o36.lt
 refine ⟨ga,(z1g (zq g38 i_p) 0 (nbl rfl)).trans rfl,?_⟩
 rw [show IntKind.wrap .i64 (ga+1)=(ga+1) from zp ω2 ω2]
 have z44:=zca (ga+1) 2
 refine ⟨ω22,?_⟩
 rw [show IntKind.wrap .i64 (Int.tdiv (ga+1) 2)=(Int.tdiv (ga+1) 2) from zp ω2 ω2]
 refine f12z_L1 _ _ _ _ _ (fun (μ:Nat) (y:Int) (H_5:zn)=>∃t5:Bool,∃(q1_1 q1_2 q1_4 q1_5:Int),∃q1_6:LN,∃b47:Nat,Own H_5 b_1 [.int .i64 q1_1,.int .i64 q1_2,.slice none 0 0]∧Own H_5 b47 (q1_6.map fF)∧Own H_5 b_21 [.int .i64 q1_4,.int .i64 q1_5,.slice (some ⟨b47,0,none⟩) q1_6.length 1]∧(b_21≠b_1)∧(b47≠b_1)∧(b47≠b_21)∧Grow H H_5∧H.length≤b47∧(0:Int)≤y∧((y≤za∨y≤(0:Int)))∧(q1_6.length:Int)≤32*(y)∧za-y≤(μ:Int)∧z2y aa oa ga za ba=z4s aa oa ga za ba (μ+1) t5 y q1_1 q1_2 q1_4 q1_5 q1_6) (Int.toNat (za-(0:Int))) _ H_4 ?_ ?_
 ·exact ⟨_,_,_,_,_,_,_,ω18,o42,ω19,ω2,ω2,ω2,g38,ω2,ω7,ω7,ω7,ω2,e⟩
 ·intro μ y  H_5 hI
  obtain ⟨t5,q1_1,q1_2,q1_4,q1_5,q1_6,b47,o45,o48,o46,n49,n50,n51,g52,l53,v_54,v_55,v_56,hμ,e⟩:=hI
  rw [f12z_r1]
  have e:=e.trans (zef aa oa ga za ba μ t5 y q1_1 q1_2 q1_4 q1_5 q1_6)
  have zy:=z1ac (W:=ga) (H:=za) (y:=y) ba ω2 ω2 ω2 ω2;have zk:=List.length_take_le (Int.tdiv (ga+1) 2-0:Int).toNat ((((ba).drop ((y*ga):Int).toNat).take ((((y+1)*ga):Int)-(y*ga)).toNat).drop (0:Int).toNat)
  have w57:=o45.lt
  have w58:=o46.lt
  have w59:=o48.lt
  have l60:=g52.1
  refine ⟨za,(z1g (zq g52 i_p) 1 (nbl rfl)).trans rfl,?_⟩
  refine Br.intro (fun c61=>?_) (fun c61=>?_)
  ·have e:=e.trans (zw c61)
   have c_61':=odt c61
   refine ⟨eb,ba.length,nb,(z1g (zq g52 i_p) 2 (nbl rfl)).trans rfl,?_⟩
   refine ⟨ga,(z1g (zq g52 i_p) 0 (nbl rfl)).trans rfl,?_⟩
   rw [show IntKind.wrap .i64 (y*ga)=(y*ga) from zp ω2 ω2]
   rw [show IntKind.wrap .i64 (y+1)=(y+1) from zp ω2 ω2]
   refine ⟨ga,(z1g (zq g52 i_p) 0 (nbl rfl)).trans rfl,?_⟩
   rw [show IntKind.wrap .i64 ((y+1)*ga)=((y+1)*ga) from zp ω2 ω2]
   refine ⟨by omega,by omega,by omega,?_⟩
   have i62:=zc9 wb (lo:=(y*ga)) (hi:=((y+1)*ga)) ω2 ω2 ω2
   refine ⟨by omega,by omega,by omega,?_⟩
   have i63:=zc9 i62 (lo:=0) (hi:=(Int.tdiv (ga+1) 2)) ω2 ω2 ω2
   refine ⟨by omega,by omega,by omega,?_⟩
   have i_64:=zc9 i62 (lo:=(Int.tdiv (ga+1) 2)) (hi:=(((((y+1)*ga):Int)-(y*ga)).toNat:Int)) ω2 ω2 ω2
   refine z1bn ⟨db,aa.length,lb,oa,_,_,_,(zq g52 i_s),(yb.grow g52),(i63.grow g52),(i_64.grow g52),ω0,ω0,ω0,ω10,ω10,ω10,fun a65 n66 e67 H_6 g70 r68=>?_⟩
   have z69:=znu aa oa (((((((ba).drop ((y*ga):Int).toNat).take ((((y+1)*ga):Int)-(y*ga)).toNat)).drop (0:Int).toNat).take (((Int.tdiv (ga+1) 2):Int)-0).toNat)) (((((((ba).drop ((y*ga):Int).toNat).take ((((y+1)*ga):Int)-(y*ga)).toNat)).drop ((Int.tdiv (ga+1) 2):Int).toNat).take (((((((y+1)*ga):Int)-(y*ga)).toNat:Int):Int)-(Int.tdiv (ga+1) 2)).toNat))
   have l71:=g70.1
   have g72:=g52.trans g70
   have l73:=g72.1
   have o74:=o45.grow g70
   have w75:=o74.lt
   have o76:=o46.grow g70
   have w77:=o76.lt
   have o78:=o48.grow g70
   have w79:=o78.lt
   obtain rfl:=r68.isL.eqn
   have u80:=r68.up
   have u81:=r68.lo
   refine Br.intro (fun c83=>?_) (fun c83=>?_)
   ·have e:=e.trans (zw c83)
    have c_83n:=z1e c83
    refine Lt.setN (n:=3) o74 (nbl rfl) rfl (fun H_7 hl_84 o86 k85=>?_)
    have o86:Own H_7 b_1 [.int .i64 0,.int .i64 0,.slice none 0 0]:=o86
    have l87:=k85.1
    have g88:=g72.keep (b:=b_1) ω2 k85
    have l89:=g88.1
    have o90:=o76.keep ω2 k85
    have w91:=o90.lt
    have o92:=o78.keep ω2 k85
    have w93:=o92.lt
    have r94:=r68.keep u80 ω2 k85
    have w95:=o86.lt
    rw [f12z_x1_ret]
    refine ⟨0,0,none,0,0,(o86.rdN (nbl rfl)).trans rfl,?_⟩
    rw [e] at hk
    exact hk _ _ _ H_7 g88 ω21
   ·have e:=e.trans (zv c83)
    have c_83n:=z1a c83
    refine ⟨some ⟨b47,0,none⟩,q1_6.length,1,(o76.rdC _).trans rfl,?_⟩
    refine ⟨_,_,o78.ownB ω3 rfl,(z2h r68.isL),(fun h=>by cases h),ω25,?_⟩
    refine Ap.app o78 rfl rfl (fun b100 H_8 q121 hl_96 o97 k98=>?_)
    have o97:=z2a o97
    have l101:=k98.1
    have g102:=g72.keep (b:=b47) ω2 k98
    have l103:=g102.1
    have o104:=o74.keep ω2 k98
    have w105:=o104.lt
    have o106:=o76.keep ω2 k98
    have w107:=o106.lt
    have r108:=r68.keep u80 ω2 k98
    have w122:=o97.lt
    refine Lt.set o106 (nbl rfl) (fun H_9 hl_109 o111 k110=>?_)
    have o111:Own H_9 b_21 [.int .i64 q1_4,.int .i64 q1_5,.slice (some ⟨b100,0,none⟩) (q1_6.length+(((z8g aa oa (((((((ba).drop ((y*ga):Int).toNat).take ((((y+1)*ga):Int)-(y*ga)).toNat)).drop (0:Int).toNat).take (((Int.tdiv (ga+1) 2):Int)-0).toNat)) (((((((ba).drop ((y*ga):Int).toNat).take ((((y+1)*ga):Int)-(y*ga)).toNat)).drop ((Int.tdiv (ga+1) 2):Int).toNat).take (((((((y+1)*ga):Int)-(y*ga)).toNat:Int):Int)-(Int.tdiv (ga+1) 2)).toNat))).1).length)) 1]:=o111
    have l112:=k110.1
    have g113:=g102.keep (b:=b_21) ω2 k110
    have l114:=g113.1
    have o115:=o104.keep ω2 k110
    have w116:=o115.lt
    have o117:=o97.keep ω2 k110
    have w118:=o117.lt
    have r119:=r108.keep u80 ω2 k110
    have w120:=o111.lt
    refine f12z_n1 (μ-1) ω16 ⟨_,_,_,_,_,_,_,(by first | exact o115 | (have hbx:=o115;(try simp only [List.length_append,List.length_cons,List.length_nil,Nat.zero_add] at hbx);(try simp only [List.length_append,List.length_cons,List.length_nil,Nat.zero_add]);exact hbx)),o117,(by first | exact o111 | (have hbx:=o111;(try simp only [List.length_append,List.length_cons,List.length_nil,Nat.zero_add] at hbx);(try simp only [List.length_append,List.length_cons,List.length_nil,Nat.zero_add]);exact hbx)),ω2,ω2,ω2,g113,ω2,ω1,ω1,ω1,ω16,ω13⟩
  ·have e:=e.trans (zv c61)
   have c_61':=odf c61
   rw [f12z_x1_0]
   refine ⟨q1_4,q1_5,some ⟨b47,0,none⟩,q1_6.length,1,(o46.rdN (nbl rfl)).trans rfl,?_⟩
   refine Lt.setN (n:=3) o45 (nbl rfl) rfl (fun H_10 hl_123 o125 k124=>?_)
   have o125:Own H_10 b_1 [.int .i64 q1_4,.int .i64 q1_5,.slice (some ⟨b47,0,none⟩) q1_6.length 1]:=o125
   have l126:=k124.1
   have g127:=g52.keep (b:=b_1) ω2 k124
   have l128:=g127.1
   have o129:=o46.keep ω2 k124
   have w130:=o129.lt
   have o131:=o48.keep ω2 k124
   have w132:=o131.lt
   have w133:=o125.lt
   refine ⟨q1_4,q1_5,some ⟨b47,0,none⟩,q1_6.length,1,(o125.rdN (nbl rfl)).trans rfl,?_⟩
   rw [e] at hk
   exact hk _ _ _ H_10 g127 (o131.ownS ω5 ω2)
theorem f12z_ok:FnOk Tryz.prog 151 z18l:=FnOk.bodyF mix_ok zsw Tryz.func151 rfl ω9 ω9 fun args H=>by
 unfold z16z
 split
 ·refine ⟨?_,?_,?_,?_,fun K hk=>f12z_main _ _ H K hk⟩
  ·intro K K' h hk;obtain ⟨db,jb,lb,oa,ga,za,eb,ib,nb,aa,ba,i_s,i_p,yb,wb,bd_138,bd_139,pr0,pr1,pr2,pr3,pr4,k⟩:=hk;exact ⟨db,jb,lb,oa,ga,za,eb,ib,nb,aa,ba,i_s,i_p,yb,wb,bd_138,bd_139,pr0,pr1,pr2,pr3,pr4,(fun ta xa ua H' gg ow0=>h _ _ (k ta xa ua H' gg ow0))⟩
  ·nofun
  ·intro K hk;obtain ⟨db,jb,lb,oa,ga,za,eb,ib,nb,aa,ba,i_s,i_p,yb,wb,bd_138,bd_139,pr0,pr1,pr2,pr3,pr4,k⟩:=hk;exact z5q fun a n e H1 g o=>⟨_,_,k a n e H1 g o⟩
  ·intro _ K hk;obtain ⟨db,jb,lb,oa,ga,za,eb,ib,nb,aa,ba,i_s,i_p,yb,wb,bd_138,bd_139,pr0,pr1,pr2,pr3,pr4,k⟩:=hk;exact ⟨db,jb,lb,oa,ga,za,eb,ib,nb,aa,ba,i_s,i_p,yb,wb,bd_138,bd_139,pr0,pr1,pr2,pr3,pr4,(fun ta xa ua H' gg ow0=>⟨gg,k ta xa ua H' gg ow0⟩)⟩
 ·exact Nice.no
def evs (l:LN):LN:=l.zipIdx.filterMap fun p=>if p.2 % 2=0 then some p.1 else none
def ods (l:LN):LN:=l.zipIdx.filterMap fun p=>if p.2 % 2=0 then none else some p.1
theorem zhz (l:LN) (x:Nat):evs (l++[x])=if l.length % 2=0 then evs l++[x] else evs l:=by
 unfold evs
 rw [List.zipIdx_append,List.filterMap_append]
 by_cases h:l.length % 2=0<;>simp [h]
theorem zih (l:LN) (x:Nat):ods (l++[x])=if l.length % 2=0 then ods l else ods l++[x]:=by
 unfold ods
 rw [List.zipIdx_append,List.filterMap_append]
 by_cases h:l.length % 2=0<;>simp [h]
theorem zf7 (l:LN) (i:Nat) (h:i<l.length):l.take (i+1)=l.take i++[l.getD i 0]:=by
 rw [List.take_add_one];simp [List.getD_eq_getElem?_getD,h]
theorem zhc (l:LN):∀k,k≤l.length→(evs (l.take k)).length=(k+1) / 2∧(ods (l.take k)).length=k / 2:=by
 intro k
 induction k with
 | zero=>intro _;simp [evs,ods]
 | succ k ih=>
  intro h
  obtain ⟨h1,h2⟩:=ih ω2
  have hl:(l.take k).length=k:=by simp;omega
  rw [zf7 l k ω2,zhz,zih,hl]
  by_cases hk:k % 2=0
  ·rw [if_pos hk,if_pos hk,List.length_append,h1,h2];simp;omega
  ·rw [if_neg hk,if_neg hk,List.length_append,h1,h2];simp;omega
theorem z4x (l:LN):(evs l).length=(l.length+1) / 2:=by have:=(zhc l l.length (Nat.le_refl _)).1;rwa [List.take_of_length_le (Nat.le_refl _)] at this
theorem z5b (l:LN):(ods l).length=l.length / 2:=by have:=(zhc l l.length (Nat.le_refl _)).2;rwa [List.take_of_length_le (Nat.le_refl _)] at this
theorem zz0 (l:LN):(evs l).length=(l.length+1) / 2∧(ods l).length=l.length / 2:=⟨z4x l,z5b l⟩
theorem tm2t {i:Int} (h:(Int.tmod i 2==0)=true) (h0:0≤i):i % 2=0:=by
 have h1:Int.tmod i 2=0:=by simpa using h
 rw [Int.tmod_eq_emod_of_nonneg h0] at h1
 exact h1
theorem tm2f {i:Int} (h:(Int.tmod i 2==0)=false) (h0:0≤i):i % 2=1:=by
 have h1:¬Int.tmod i 2=0:=by simpa using h
 rw [Int.tmod_eq_emod_of_nonneg h0] at h1
 omega
def z5i (aa:LN) (oa:Nat) (ab je uc:LN) (i k:Int) (y2_1 y2_2:LN) (ze:Int) (y3_1 y3_2:LN) (k4_6:Int→LN→(LN×LN×Bool)):Nat→Int→LN→LN×LN×Bool
 | 0,_,_=>([],[],false)
 | μ4+1,gh,y4_1=>(bif decide ((gh:Int)<(uc.length:Int)) then (z5i aa oa ab je uc i k y2_1 y2_2 ze y3_1 y3_2 k4_6 μ4 (gh+1) (((y4_1).set (gh:Int).toNat ((fdiv .f32 (((y4_1).getD (gh:Int).toNat 0)) oa))))) else (k4_6 gh y4_1))
def zgw:=fun aa oa ab je uc i k y2_1 y2_2 ze y3_1 y3_2 k4_6 μ4 gh y4_1=>@z5i.eq_2 aa oa ab je uc i k y2_1 y2_2 ze y3_1 y3_2 k4_6 gh y4_1 μ4
def z6w (aa:LN) (oa:Nat) (ab je uc:LN) (i k:Int) (y2_1 y2_2:LN) (k3_4:Int→LN→LN→(LN×LN×Bool)):Nat→Int→LN→LN→LN×LN×Bool
 | 0,_,_,_=>([],[],false)
 | μ3+1,ze,y3_1,y3_2=>(bif decide ((ze:Int)<(je.length:Int)) then (z6w aa oa ab je uc i k y2_1 y2_2 k3_4 μ3 (ze+1) (((y3_1).set (ze:Int).toNat ((fmul .f32 (((y3_1).getD (ze:Int).toNat 0)) oa)))) y3_2) else (k3_4 ze y3_1 y3_2))
def zgv:=fun aa oa ab je uc i k y2_1 y2_2 k3_4 μ3 ze y3_1 y3_2=>@z6w.eq_2 aa oa ab je uc i k y2_1 y2_2 k3_4 ze y3_1 y3_2 μ3
def zbo (aa:LN) (oa:Nat) (ab je uc:LN) (i:Int) (k2_2:Int→LN→LN→(LN×LN×Bool)):Nat→Int→LN→LN→LN×LN×Bool
 | 0,_,_,_=>([],[],false)
 | μ2+1,k,y2_1,y2_2=>(bif decide ((k:Int)<(aa.length:Int)) then (zbo aa oa ab je uc i k2_2 μ2 (k+1) ((zav k (((aa).getD (k:Int).toNat 0)) y2_1 y2_2)) ((z6p k (((aa).getD (k:Int).toNat 0)) y2_1 y2_2))) else (k2_2 k y2_1 y2_2))
def zgu:=fun aa oa ab je uc i k2_2 μ2 k y2_1 y2_2=>@zbo.eq_2 aa oa ab je uc i k2_2 k y2_1 y2_2 μ2
def za0 (aa:LN) (oa:Nat) (ab:LN):Nat→LN→LN→Int→LN×LN×Bool
 | 0,_,_,_=>([],[],false)
 | μ+1,je,uc,i=>(bif decide ((i:Int)<(ab.length:Int)) then (bif (Int.tmod i 2:Int)==0 then (za0 aa oa ab μ ((je++[(((ab).getD (i:Int).toNat 0))])) uc (i+1)) else (za0 aa oa ab μ je ((uc++[(((ab).getD (i:Int).toNat 0))])) (i+1))) else (bif ((uc.length:Int):Int)==0 then (je,uc,true) else (zbo aa oa ab je uc i (fun (k:Int) (y2_1:LN) (y2_2:LN)=>(z6w aa oa ab je uc i k y2_1 y2_2 (fun (ze:Int) (y3_1:LN) (y3_2:LN)=>(z5i aa oa ab je uc i k y2_1 y2_2 ze y3_1 y3_2 (fun (gh:Int) (y4_1:LN)=>(bif (z3e y3_1) then (y3_1,y4_1,(z3e y4_1)) else (y3_1,y4_1,false))) (Int.toNat ((uc.length:Int)-(0:Int))+1) (0:Int) y3_2)) (Int.toNat ((je.length:Int)-(0:Int))+1) (0:Int) y2_1 y2_2)) (Int.toNat ((aa.length:Int)-(0:Int))+1) (0:Int) je uc)))
def zgt:=fun aa oa ab μ je uc i=>@za0.eq_2 aa oa ab je uc i μ
def z3d (aa:LN) (oa:Nat) (ab:LN):LN×LN×Bool:=(za0 aa oa ab (Int.toNat ((ab.length:Int)-(0:Int))+1) ([]:LN) ([]:LN) (0:Int))
def zpp:=@z3d.eq_1
def T_ffz (s:Nat) (tb:OA) (qb bc:Nat) (H:zn) (K:OA→Nat→Nat→OA→Nat→Nat→Bool→zn→Prop):Prop:=∃db:OA,∃(jb lb oa:Nat),∃(aa ab:LN),rdN H s 0 2=some [.slice db jb lb,.float .f32 oa]∧IsL fF H db jb aa∧IsL fF H tb qb ab∧aa.length<1073741824∧ab.length<1073741824∧((∀(jd:OA) (pd od:Nat),∀(nh:OA) (xh wh:Nat),∀H':zn,Grow H H'→OwnS fF H' H.length jd pd od ((z3d aa oa ab).1)→OwnS fF H' H.length nh xh wh ((z3d aa oa ab).2.1)→SepA jd nh→K jd pd od nh xh wh ((z3d aa oa ab).2.2) H'))
theorem z1bo {s:Nat} {tb:OA} {qb bc:Nat} {H:zn} {K:OA→Nat→Nat→OA→Nat→Nat→Bool→zn→Prop} (h:∃db:OA,∃(jb lb oa:Nat),∃(aa ab:LN),rdN H s 0 2=some [.slice db jb lb,.float .f32 oa]∧IsL fF H db jb aa∧IsL fF H tb qb ab∧aa.length<1073741824∧ab.length<1073741824∧((∀(jd:OA) (pd od:Nat),∀(nh:OA) (xh wh:Nat),∀H':zn,Grow H H'→OwnS fF H' H.length jd pd od ((z3d aa oa ab).1)→OwnS fF H' H.length nh xh wh ((z3d aa oa ab).2.1)→SepA jd nh→K jd pd od nh xh wh ((z3d aa oa ab).2.2) H'))):T_ffz s tb qb bc H K:=h
def wfS:LN→Int→LN→LN→LN×LN
 | [],_,lo,hi=>(lo,hi)
 | w::ws,k,lo,hi=>wfS ws (k+1) (zav k w lo hi) (z6p k w lo hi)
theorem zhl:∀(ws:LN) (k:Int) (lo hi:LN),(wfS ws k lo hi).1.length=lo.length∧(wfS ws k lo hi).2.length=hi.length:=by
 intro ws
 induction ws with
 | nil=>intro k lo hi;exact ⟨rfl,rfl⟩
 | cons w ws ih=>
  intro k lo hi
  obtain ⟨h1,h2⟩:=ih (k+1) (zav k w lo hi) (z6p k w lo hi)
  exact ⟨h1.trans (z4h _ _ _ _),h2.trans (z2w _ _ _ _)⟩
theorem zse (ws:LN) (sc:Nat) (l low high:LN) (i:Int) (K2:Int→LN→LN→LN×LN×Bool):∀(μ k:Nat) (y1 y2:LN),k≤ws.length→ws.length-k<μ→
  zbo ws sc l low high i K2 μ (k:Int) y1 y2=K2 (ws.length:Int) (wfS (ws.drop k) (k:Int) y1 y2).1 (wfS (ws.drop k) (k:Int) y1 y2).2:=by
 intro μ
 induction μ with
 | zero=>intro k y1 y2 _ h;omega
 | succ μ ih=>
  intro k y1 y2 hk hm
  rw [zgu]
  by_cases h:k<ws.length
  ·rw [dct (show (k:Int)<(ws.length:Int) by omega),cond_true,Int.toNat_natCast]
   have:=ih (k+1) (zav k (ws.getD k 0) y1 y2) (z6p k (ws.getD k 0) y1 y2) ω2 ω2
   have e:ws.getD k 0=ws[k]:=by simp [List.getD_eq_getElem?_getD,h]
   rw [List.drop_eq_getElem_cons h,wfS]
   rw [e] at this ⊢
   exact this
  ·have e:k=ws.length:=by omega
   rw [dcf (show ¬(k:Int)<(ws.length:Int) by omega),cond_false,e,List.drop_length,wfS]
theorem zsf (ws:LN) (sc:Nat) (l low high:LN) (i k:Int) (a b:LN) (K3:Int→LN→LN→LN×LN×Bool) (A:LN) (hA:A.length=low.length) (y2:LN):∀(μ j:Nat),j≤low.length→low.length-j<μ→
  z6w ws sc l low high i k a b K3 μ (j:Int) ((A.map fun x=>fmul .f32 x sc).take j++A.drop j) y2=K3 (low.length:Int) (A.map fun x=>fmul .f32 x sc) y2:=by
 intro μ
 induction μ with
 | zero=>intro k _ h;omega
 | succ μ ih=>
  intro j hj hm
  rw [zgv]
  by_cases h:j<low.length
  ·rw [dct (show (j:Int)<(low.length:Int) by omega),cond_true,Int.toNat_natCast,z7m _ _ _ ω2 ω32]
   have:=ih (j+1) ω2 ω2
   rw [z3m (A.map fun x=>fmul .f32 x sc) A j ω2 ω32 _ (by simp [List.getD_eq_getElem?_getD,show j<A.length by omega])]
   exact this
  ·have e:j=low.length:=by omega
   rw [dcf (show ¬(j:Int)<(low.length:Int) by omega),cond_false,e,List.take_of_length_le (by simp [hA]),List.drop_of_length_le ω2,List.append_nil]
theorem zsg (ws:LN) (sc:Nat) (l low high:LN) (i k:Int) (a b:LN) (i2:Int) (c d:LN) (K4:Int→LN→LN×LN×Bool) (A:LN) (hA:A.length=high.length):∀(μ j:Nat),j≤high.length→high.length-j<μ→
  z5i ws sc l low high i k a b i2 c d K4 μ (j:Int) ((A.map fun x=>fdiv .f32 x sc).take j++A.drop j)=K4 (high.length:Int) (A.map fun x=>fdiv .f32 x sc):=by
 intro μ
 induction μ with
 | zero=>intro k _ h;omega
 | succ μ ih=>
  intro j hj hm
  rw [zgw]
  by_cases h:j<high.length
  ·rw [dct (show (j:Int)<(high.length:Int) by omega),cond_true,Int.toNat_natCast,z7m _ _ _ ω2 ω32]
   have:=ih (j+1) ω2 ω2
   rw [z3m (A.map fun x=>fdiv .f32 x sc) A j ω2 ω32 _ (by simp [List.getD_eq_getElem?_getD,show j<A.length by omega])]
   exact this
  ·have e:j=high.length:=by omega
   rw [dcf (show ¬(j:Int)<(high.length:Int) by omega),cond_false,e,List.take_of_length_le (by simp [hA]),List.drop_of_length_le ω2,List.append_nil]
def zi8 (ws:LN) (sc:Nat) (l:LN):LN:=(wfS ws 0 (evs l) (ods l)).1.map fun x=>fmul .f32 x sc
def zi9 (ws:LN) (sc:Nat) (l:LN):LN:=(wfS ws 0 (evs l) (ods l)).2.map fun x=>fdiv .f32 x sc
def zre (ws:LN) (sc:Nat) (l:LN):LN×LN×Bool:=
 bif (((ods l).length:Int)==0) then (evs l,ods l,true) else (zi8 ws sc l,zi9 ws sc l,z3e (zi8 ws sc l) && z3e (zi9 ws sc l))
theorem zsd (ws:LN) (sc:Nat) (l:LN):∀(μ i:Nat),i≤l.length→l.length-i<μ→za0 ws sc l μ (evs (l.take i)) (ods (l.take i)) (i:Int)=zre ws sc l:=by
 intro μ
 induction μ with
 | zero=>intro i _ h;omega
 | succ μ ih=>
  intro i hi hm
  rw [zgt]
  by_cases h:i<l.length
  ·rw [dct (show (i:Int)<(l.length:Int) by omega),cond_true,Int.toNat_natCast]
   have:=ih (i+1) ω2 ω2
   have hl:(l.take i).length=i:=by simp;omega
   rw [zf7 l i h,zhz,zih,hl] at this
   have ht:(Int.tmod (i:Int) 2==0)=decide (i % 2=0):=by
    have:Int.tmod (i:Int) 2=((i % 2:Nat):Int):=by rw [Int.tmod_eq_emod_of_nonneg ω2];omega
    rw [this]
    by_cases hk:i % 2=0
    ·simp [hk]
    ·have:i % 2=1:=by omega
     simp [this]
   rw [ht]
   by_cases hk:i % 2=0
   ·rw [if_pos hk,if_pos hk] at this
    rw [dct hk,cond_true];exact this
   ·rw [if_neg hk,if_neg hk] at this
    rw [dcf hk,cond_false];exact this
  ·have e:i=l.length:=by omega
   rw [dcf (show ¬(i:Int)<(l.length:Int) by omega),cond_false,e,List.take_of_length_le (Nat.le_refl _)]
   unfold zre
   cases hz:(((ods l).length:Int)==0)
   ·rw [cond_false,cond_false]
    have h2:=zse ws sc l (evs l) (ods l) (l.length:Int) (fun (k:Int) (y2_1:LN) (y2_2:LN)=>(z6w ws sc l (evs l) (ods l) (l.length:Int) k y2_1 y2_2 (fun (ze:Int) (y3_1:LN) (y3_2:LN)=>(z5i ws sc l (evs l) (ods l) (l.length:Int) k y2_1 y2_2 ze y3_1 y3_2 (fun (gh:Int) (y4_1:LN)=>(bif (z3e y3_1) then (y3_1,y4_1,(z3e y4_1)) else (y3_1,y4_1,false))) (Int.toNat (((ods l).length:Int)-(0:Int))+1) (0:Int) y3_2)) (Int.toNat (((evs l).length:Int)-(0:Int))+1) (0:Int) y2_1 y2_2))
     (Int.toNat ((ws.length:Int)-(0:Int))+1) 0 (evs l) (ods l) ω2 ω2
    refine Eq.trans h2 ?_
    obtain ⟨l1,l2⟩:=zhl ws 0 (evs l) (ods l)
    rw [List.drop_zero]
    have h3:=fun K3=>zsf ws sc l (evs l) (ods l) (l.length:Int) (ws.length:Int) (wfS ws ((0:Nat):Int) (evs l) (ods l)).1 (wfS ws ((0:Nat):Int) (evs l) (ods l)).2 K3 (wfS ws ((0:Nat):Int) (evs l) (ods l)).1 l1 (wfS ws ((0:Nat):Int) (evs l) (ods l)).2 (Int.toNat (((evs l).length:Int)-(0:Int))+1) 0 ω2 ω2
    simp only [List.take_zero,List.drop_zero,List.nil_append] at h3
    refine Eq.trans (h3 _) ?_
    have h4:=fun K4=>zsg ws sc l (evs l) (ods l) (l.length:Int) (ws.length:Int) (wfS ws ((0:Nat):Int) (evs l) (ods l)).1 (wfS ws ((0:Nat):Int) (evs l) (ods l)).2 ((evs l).length:Int) ((wfS ws ((0:Nat):Int) (evs l) (ods l)).1.map fun x=>fmul .f32 x sc) (wfS ws ((0:Nat):Int) (evs l) (ods l)).2 K4 (wfS ws ((0:Nat):Int) (evs l) (ods l)).2 l2 (Int.toNat (((ods l).length:Int)-(0:Int))+1) 0 ω2 ω2
    simp only [List.take_zero,List.drop_zero,List.nil_append] at h4
    refine Eq.trans (h4 _) ?_
    unfold zi8 zi9
    cases z3e ((wfS ws ((0:Nat):Int) (evs l) (ods l)).1.map fun x=>fmul .f32 x sc)<;>rfl
   ·rw [cond_true,cond_true]
theorem z5f (ws:LN) (sc:Nat) (l:LN):z3d ws sc l=zre ws sc l:=by
 rw [zpp]
 have:=zsd ws sc l (Int.toNat ((l.length:Int)-0)+1) 0 ω2 ω2
 simpa [evs,ods] using this
theorem zat (ws:LN) (sc:Nat) (l:LN):(z3d ws sc l).1.length=(l.length+1) / 2∧(z3d ws sc l).2.1.length=l.length / 2:=by
 rw [z5f]
 unfold zre zi8 zi9
 obtain ⟨h1,h2⟩:=zhl ws 0 (evs l) (ods l)
 cases (((ods l).length:Int)==0)<;>simp [h1,h2,z4x,z5b]
def z4v:Env:=envOf [(175,zur),(124,zuy)]
def F_ffz (args:List Value) (H:zn):(Value→zn→Prop)→Prop:=match args with
 | [.pointer (some ⟨s,0,none⟩),.slice tb qb bc]=>fun K=>T_ffz s tb qb bc H fun (jd:OA) (pd:Nat) (od:Nat) (nh:OA) (xh:Nat) (wh:Nat) (r3:Bool) (H':zn)=>K (.tuple #[.slice jd pd od,.slice nh xh wh,.bool r3]) H'
 | _=>fun _=>False
def S_ffz:FSpec:={F:=F_ffz,quiet:=false,tame:=true}
theorem z1ic (s:Nat) (tb:OA) (qb bc:Nat) (H:zn) (K:KT):zt Tryz.prog z4v Tryz.f168 [.pointer (some ⟨s,0,none⟩),.slice tb qb bc] H K=
 (Al [] H fun b1 H1=>Al [] H1 fun b2 H2=>z1j (exL Tryz.prog z4v (cl (cl (cr (cl (cr (cr (cr (zo Tryz.f168)))))))) 899 112 [(0,385)]) (.pointer (some ⟨s,0,none⟩)::.slice tb qb bc::ud5 (.slice (some ⟨b1,0,none⟩) 0 1::.slice (some ⟨b2,0,none⟩) 0 1::.int .i64 0::ud97 [])) H2 (zu 0 (seqQ (exL Tryz.prog z4v (cr (cr (cr (cr (zo Tryz.f168))))) 112 112 []) (retK Tryz.prog Tryz.f168 K)))):=by kernel_rfl
abbrev zk6 (tb:OA) (bc qb s:Nat) (jc:OA) (tc zc:Nat) (vb:OA) (xb ac:Nat) (i:Int)  :List Value:=(.pointer (some ⟨s,0,none⟩)::.slice tb qb bc::ud5 (.slice jc tc zc::.slice vb xb ac::.int .i64 i::ud97 []))
theorem z1i8 (tb:OA) (bc qb s:Nat) (jc:OA) (tc zc:Nat) (vb:OA) (xb ac:Nat) (i:Int)  (H:zn) (R:Post):exL Tryz.prog z4v (cl (cl (cr (cl (cr (cr (cr (zo Tryz.f168)))))))) 899 112 [(0,385)] (zk6 tb bc qb s jc tc zc vb xb ac i) H R=
 (Br (decide ((i:Int)<(qb:Int))) (2≠(0:Int)∧Br ((Int.tmod i 2:Int)==0) ((0:Int)≤i∧i<(qb:Int)∧∃b3 f1,(tb:OA)=some ⟨b3,f1,none⟩∧∃x1:Nat,  rdC H b3 (f1+(i:Int).toNat*1)=some (.float .f32 x1)∧Al [.float .f32 x1] H fun b4 H3=>∃o1 w1:List Value,ownB H3 jc tc zc 1=some o1∧rdS H3 (some ⟨b4,0,none⟩) (1*1)=some w1∧((jc:OA)=none→0<(1:Nat))∧(tc:Nat)+1<most∧Ap H3 (z2s H3 jc++[some ⟨o1++w1,true⟩]) fun b5 H4=>R .normal (.pointer (some ⟨s,0,none⟩)::.slice tb qb bc::ud5 (.slice (some ⟨b5,0,none⟩) (tc+1) 1::.slice vb xb ac::.int .i64 (IntKind.wrap .i64 (i+1))::ud97 [])) H4) ((0:Int)≤i∧i<(qb:Int)∧∃b6 f2,(tb:OA)=some ⟨b6,f2,none⟩∧∃x2:Nat,  rdC H b6 (f2+(i:Int).toNat*1)=some (.float .f32 x2)∧Al [.float .f32 x2] H fun b7 H5=>∃o2 w2:List Value,ownB H5 vb xb ac 1=some o2∧rdS H5 (some ⟨b7,0,none⟩) (1*1)=some w2∧((vb:OA)=none→0<(1:Nat))∧(xb:Nat)+1<most∧Ap H5 (z2s H5 vb++[some ⟨o2++w2,true⟩]) fun b8 H6=>R .normal (.pointer (some ⟨s,0,none⟩)::.slice tb qb bc::ud5 (.slice jc tc zc::.slice (some ⟨b8,0,none⟩) (xb+1) 1::.int .i64 (IntKind.wrap .i64 (i+1))::ud97 [])) H6)) (R (.exit 0) (.pointer (some ⟨s,0,none⟩)::ud6 (.slice jc tc zc::.slice vb xb ac::ud98 [])) H)):=by kernel_rfl
def zx3 (tb:OA) (bc qb s:Nat) (Inv:Nat→OA→Nat→Nat→OA→Nat→Nat→Int→zn→Prop):Nat→List Value→zn→Prop:=fun μ tm H=>∃jc:OA,∃(tc zc:Nat),∃vb:OA,∃(xb ac:Nat),∃i:Int,tm=(zk6 tb bc qb s jc tc zc vb xb ac i)∧Inv μ jc tc zc vb xb ac i H
theorem z1i0 (tb:OA) (bc qb s:Nat) {Q:Post} (Inv:Nat→OA→Nat→Nat→OA→Nat→Nat→Int→zn→Prop) (ν:Nat) (jc:OA) (tc zc:Nat) (vb:OA) (xb ac:Nat) (i:Int)  (H:zn) (h0:Inv ν jc tc zc vb xb ac i H)
  (hs:∀(μ:Nat) (jc:OA) (tc:Nat) (zc:Nat) (vb:OA) (xb:Nat) (ac:Nat) (i:Int)  (H:zn),Inv μ jc tc zc vb xb ac i H→exL Tryz.prog z4v (cl (cl (cr (cl (cr (cr (cr (zo Tryz.f168)))))))) 899 112 [(0,385)] (zk6 tb bc qb s jc tc zc vb xb ac i) H (zx (zx3 tb bc qb s Inv) μ Q)):z1j (exL Tryz.prog z4v (cl (cl (cr (cl (cr (cr (cr (zo Tryz.f168)))))))) 899 112 [(0,385)]) (zk6 tb bc qb s jc tc zc vb xb ac i) H Q:=
 ⟨zx3 tb bc qb s Inv,ν,⟨jc,tc,zc,vb,xb,ac,i,rfl,h0⟩,fun μ tm H h=>by obtain ⟨jc,tc,zc,vb,xb,ac,i,rfl,hI⟩:=h;exact hs μ jc tc zc vb xb ac i  H hI⟩
theorem z19x {tb:OA} {bc qb s:Nat} {Q:Post} {Inv:Nat→OA→Nat→Nat→OA→Nat→Nat→Int→zn→Prop} {μ:Nat} (μ':Nat) {jc:OA} {tc zc:Nat} {vb:OA} {xb ac:Nat} {i:Int}  {H:zn} (hm:μ'<μ) (hI:Inv μ' jc tc zc vb xb ac i H):zx (zx3 tb bc qb s Inv) μ Q .normal (zk6 tb bc qb s jc tc zc vb xb ac i) H:=⟨μ',hm,jc,tc,zc,vb,xb,ac,i,rfl,hI⟩
theorem z13j (s:Nat) (jc:OA) (tc zc:Nat) (vb:OA) (xb ac:Nat) (H:zn) (K:KT)  {I:Nat→List Value→zn→Prop} {μ:Nat}:zx I μ (zu 0 (seqQ (exL Tryz.prog z4v (cr (cr (cr (cr (zo Tryz.f168))))) 112 112 []) (retK Tryz.prog Tryz.f168 K))) (.exit 0) (.pointer (some ⟨s,0,none⟩)::ud6 (.slice jc tc zc::.slice vb xb ac::ud98 [])) H=
 (Br (((xb:Int):Int)==0) (K (.tuple #[.slice jc tc zc,.slice vb xb ac,.bool true]) H) (z1j (exL Tryz.prog z4v (cl (cl (cr (cl (cr (cr (cr (cr (cr (zo Tryz.f168)))))))))) 1409 112 [(2,385)]) (.pointer (some ⟨s,0,none⟩)::ud6 (.slice jc tc zc::.slice vb xb ac::ud::.int .i64 0::ud96 [])) H (zu 2 (seqQ (exL Tryz.prog z4v (cr (cr (cr (cr (cr (cr (zo Tryz.f168))))))) 112 112 []) (retK Tryz.prog Tryz.f168 K))))):=by kernel_rfl
abbrev zk7 (vb:OA) (ac xb:Nat) (jc:OA) (zc tc s:Nat) (k:Int)  :List Value:=(.pointer (some ⟨s,0,none⟩)::ud6 (.slice jc tc zc::.slice vb xb ac::ud::.int .i64 k::ud96 []))
theorem z1i9 (vb:OA) (ac xb:Nat) (jc:OA) (zc tc s:Nat) (k:Int)  (H:zn) (R:Post):exL Tryz.prog z4v (cl (cl (cr (cl (cr (cr (cr (cr (cr (zo Tryz.f168)))))))))) 1409 112 [(2,385)] (zk7 vb ac xb jc zc tc s k) H R=
 (∃fj:OA,∃(aj tj:Nat),  rdC H s 0=some (.slice fj aj tj)∧Br (decide ((k:Int)<(aj:Int))) (∃xm:OA,∃(ym gn:Nat),  rdC H s 0=some (.slice xm ym gn)∧(0:Int)≤k∧k<(ym:Int)∧∃b9 f3,(xm:OA)=some ⟨b9,f3,none⟩∧∃x5:Nat,  rdC H b9 (f3+(k:Int).toNat*1)=some (.float .f32 x5)∧zjc jc tc zc vb xb ac k x5 H fun  (H7:zn)=>R .normal (.pointer (some ⟨s,0,none⟩)::ud6 (.slice jc tc zc::.slice vb xb ac::ud::.int .i64 (IntKind.wrap .i64 (k+1))::ud96 [])) H7) (R (.exit 2) (.pointer (some ⟨s,0,none⟩)::ud6 (.slice jc tc zc::.slice vb xb ac::ud98 [])) H)):=by kernel_rfl
def zx4 (vb:OA) (ac xb:Nat) (jc:OA) (zc tc s:Nat) (Inv:Nat→Int→zn→Prop):Nat→List Value→zn→Prop:=fun μ tm H=>∃k:Int,tm=(zk7 vb ac xb jc zc tc s k)∧Inv μ k H
theorem z1i1 (vb:OA) (ac xb:Nat) (jc:OA) (zc tc s:Nat) {Q:Post} (Inv:Nat→Int→zn→Prop) (ν:Nat) (k:Int)  (H:zn) (h0:Inv ν k H)
  (hs:∀(μ:Nat) (k:Int)  (H:zn),Inv μ k H→exL Tryz.prog z4v (cl (cl (cr (cl (cr (cr (cr (cr (cr (zo Tryz.f168)))))))))) 1409 112 [(2,385)] (zk7 vb ac xb jc zc tc s k) H (zx (zx4 vb ac xb jc zc tc s Inv) μ Q)):z1j (exL Tryz.prog z4v (cl (cl (cr (cl (cr (cr (cr (cr (cr (zo Tryz.f168)))))))))) 1409 112 [(2,385)]) (zk7 vb ac xb jc zc tc s k) H Q:=
 ⟨zx4 vb ac xb jc zc tc s Inv,ν,⟨k,rfl,h0⟩,fun μ tm H h=>by obtain ⟨k,rfl,hI⟩:=h;exact hs μ k  H hI⟩
theorem z1i4 {vb:OA} {ac xb:Nat} {jc:OA} {zc tc s:Nat} {Q:Post} {Inv:Nat→Int→zn→Prop} {μ:Nat} (μ':Nat) {k:Int}  {H:zn} (hm:μ'<μ) (hI:Inv μ' k H):zx (zx4 vb ac xb jc zc tc s Inv) μ Q .normal (zk7 vb ac xb jc zc tc s k) H:=⟨μ',hm,k,rfl,hI⟩
theorem z13k (vb:OA) (ac xb:Nat) (jc:OA) (zc tc s:Nat) (H:zn) (K:KT)  {I:Nat→List Value→zn→Prop} {μ:Nat}:zx I μ (zu 2 (seqQ (exL Tryz.prog z4v (cr (cr (cr (cr (cr (cr (zo Tryz.f168))))))) 112 112 []) (retK Tryz.prog Tryz.f168 K))) (.exit 2) (.pointer (some ⟨s,0,none⟩)::ud6 (.slice jc tc zc::.slice vb xb ac::ud98 [])) H=
 (z1j (exL Tryz.prog z4v (cl (cl (cr (cl (cr (cr (cr (cr (cr (cr (zo Tryz.f168))))))))))) 2433 112 [(4,385)]) (.pointer (some ⟨s,0,none⟩)::ud6 (.slice jc tc zc::.slice vb xb ac::ud2 (.int .i64 0::ud95 []))) H (zu 4 (seqQ (exL Tryz.prog z4v (cr (cr (cr (cr (cr (cr (cr (zo Tryz.f168)))))))) 112 112 []) (retK Tryz.prog Tryz.f168 K)))):=by kernel_rfl
abbrev zk8 (vb:OA) (ac xb:Nat) (jc:OA) (zc tc s:Nat) (ze:Int)  :List Value:=(.pointer (some ⟨s,0,none⟩)::ud6 (.slice jc tc zc::.slice vb xb ac::ud2 (.int .i64 ze::ud95 [])))
theorem z1ia (vb:OA) (ac xb:Nat) (jc:OA) (zc tc s:Nat) (ze:Int)  (H:zn) (R:Post):exL Tryz.prog z4v (cl (cl (cr (cl (cr (cr (cr (cr (cr (cr (zo Tryz.f168))))))))))) 2433 112 [(4,385)] (zk8 vb ac xb jc zc tc s ze) H R=
 (Br (decide ((ze:Int)<(tc:Int))) ((0:Int)≤ze∧ze<(tc:Int)∧∃b10 f4,(jc:OA)=some ⟨b10,f4,none⟩∧∃x6:Nat,  rdC H b10 (f4+(ze:Int).toNat*1)=some (.float .f32 x6)∧∃x7:Nat,  rdC H s 1=some (.float .f32 x7)∧(0:Int)≤ze∧ze<(tc:Int)∧∃b11 f5,(jc:OA)=some ⟨b11,f5,none⟩∧isOwn H b11∧(∃l,rdN H b11 (f5+(ze:Int).toNat*1) 1=some l)∧Lt (setC H b11 (f5+(ze:Int).toNat*1) (.float .f32 (fmul .f32 x6 x7))) fun H8=>R .normal (.pointer (some ⟨s,0,none⟩)::ud6 (.slice jc tc zc::.slice vb xb ac::ud2 (.int .i64 (IntKind.wrap .i64 (ze+1))::ud95 []))) H8) (R (.exit 4) (.pointer (some ⟨s,0,none⟩)::ud6 (.slice jc tc zc::.slice vb xb ac::ud98 [])) H)):=by kernel_rfl
def zx5 (vb:OA) (ac xb:Nat) (jc:OA) (zc tc s:Nat) (Inv:Nat→Int→zn→Prop):Nat→List Value→zn→Prop:=fun μ tm H=>∃ze:Int,tm=(zk8 vb ac xb jc zc tc s ze)∧Inv μ ze H
theorem z1i2 (vb:OA) (ac xb:Nat) (jc:OA) (zc tc s:Nat) {Q:Post} (Inv:Nat→Int→zn→Prop) (ν:Nat) (ze:Int)  (H:zn) (h0:Inv ν ze H)
  (hs:∀(μ:Nat) (ze:Int)  (H:zn),Inv μ ze H→exL Tryz.prog z4v (cl (cl (cr (cl (cr (cr (cr (cr (cr (cr (zo Tryz.f168))))))))))) 2433 112 [(4,385)] (zk8 vb ac xb jc zc tc s ze) H (zx (zx5 vb ac xb jc zc tc s Inv) μ Q)):z1j (exL Tryz.prog z4v (cl (cl (cr (cl (cr (cr (cr (cr (cr (cr (zo Tryz.f168))))))))))) 2433 112 [(4,385)]) (zk8 vb ac xb jc zc tc s ze) H Q:=
 ⟨zx5 vb ac xb jc zc tc s Inv,ν,⟨ze,rfl,h0⟩,fun μ tm H h=>by obtain ⟨ze,rfl,hI⟩:=h;exact hs μ ze  H hI⟩
theorem z1i5 {vb:OA} {ac xb:Nat} {jc:OA} {zc tc s:Nat} {Q:Post} {Inv:Nat→Int→zn→Prop} {μ:Nat} (μ':Nat) {ze:Int}  {H:zn} (hm:μ'<μ) (hI:Inv μ' ze H):zx (zx5 vb ac xb jc zc tc s Inv) μ Q .normal (zk8 vb ac xb jc zc tc s ze) H:=⟨μ',hm,ze,rfl,hI⟩
theorem z13l (vb:OA) (ac xb:Nat) (jc:OA) (zc tc s:Nat) (H:zn) (K:KT)  {I:Nat→List Value→zn→Prop} {μ:Nat}:zx I μ (zu 4 (seqQ (exL Tryz.prog z4v (cr (cr (cr (cr (cr (cr (cr (zo Tryz.f168)))))))) 112 112 []) (retK Tryz.prog Tryz.f168 K))) (.exit 4) (.pointer (some ⟨s,0,none⟩)::ud6 (.slice jc tc zc::.slice vb xb ac::ud98 [])) H=
 (z1j (exL Tryz.prog z4v (cl (cl (cr (cl (cr (cr (cr (cr (cr (cr (cr (zo Tryz.f168)))))))))))) 4481 112 [(6,384)]) (.pointer (some ⟨s,0,none⟩)::ud6 (.slice jc tc zc::.slice vb xb ac::ud3 (.int .i64 0::ud94 []))) H (zu 6 (seqQ (exL Tryz.prog z4v (cr (cr (cr (cr (cr (cr (cr (cr (zo Tryz.f168))))))))) 112 112 []) (retK Tryz.prog Tryz.f168 K)))):=by kernel_rfl
abbrev zk9 (vb:OA) (ac xb:Nat) (jc:OA) (zc tc s:Nat) (gh:Int)  :List Value:=(.pointer (some ⟨s,0,none⟩)::ud6 (.slice jc tc zc::.slice vb xb ac::ud3 (.int .i64 gh::ud94 [])))
theorem z1ib (vb:OA) (ac xb:Nat) (jc:OA) (zc tc s:Nat) (gh:Int)  (H:zn) (R:Post):exL Tryz.prog z4v (cl (cl (cr (cl (cr (cr (cr (cr (cr (cr (cr (zo Tryz.f168)))))))))))) 4481 112 [(6,384)] (zk9 vb ac xb jc zc tc s gh) H R=
 (Br (decide ((gh:Int)<(xb:Int))) ((0:Int)≤gh∧gh<(xb:Int)∧∃b12 f6,(vb:OA)=some ⟨b12,f6,none⟩∧∃x8:Nat,  rdC H b12 (f6+(gh:Int).toNat*1)=some (.float .f32 x8)∧∃x9:Nat,  rdC H s 1=some (.float .f32 x9)∧(0:Int)≤gh∧gh<(xb:Int)∧∃b13 f7,(vb:OA)=some ⟨b13,f7,none⟩∧isOwn H b13∧(∃l,rdN H b13 (f7+(gh:Int).toNat*1) 1=some l)∧Lt (setC H b13 (f7+(gh:Int).toNat*1) (.float .f32 (fdiv .f32 x8 x9))) fun H9=>R .normal (.pointer (some ⟨s,0,none⟩)::ud6 (.slice jc tc zc::.slice vb xb ac::ud3 (.int .i64 (IntKind.wrap .i64 (gh+1))::ud94 []))) H9) (R (.exit 6) (ud7 (.slice jc tc zc::.slice vb xb ac::ud98 [])) H)):=by kernel_rfl
def zx6 (vb:OA) (ac xb:Nat) (jc:OA) (zc tc s:Nat) (Inv:Nat→Int→zn→Prop):Nat→List Value→zn→Prop:=fun μ tm H=>∃gh:Int,tm=(zk9 vb ac xb jc zc tc s gh)∧Inv μ gh H
theorem z1i3 (vb:OA) (ac xb:Nat) (jc:OA) (zc tc s:Nat) {Q:Post} (Inv:Nat→Int→zn→Prop) (ν:Nat) (gh:Int)  (H:zn) (h0:Inv ν gh H)
  (hs:∀(μ:Nat) (gh:Int)  (H:zn),Inv μ gh H→exL Tryz.prog z4v (cl (cl (cr (cl (cr (cr (cr (cr (cr (cr (cr (zo Tryz.f168)))))))))))) 4481 112 [(6,384)] (zk9 vb ac xb jc zc tc s gh) H (zx (zx6 vb ac xb jc zc tc s Inv) μ Q)):z1j (exL Tryz.prog z4v (cl (cl (cr (cl (cr (cr (cr (cr (cr (cr (cr (zo Tryz.f168)))))))))))) 4481 112 [(6,384)]) (zk9 vb ac xb jc zc tc s gh) H Q:=
 ⟨zx6 vb ac xb jc zc tc s Inv,ν,⟨gh,rfl,h0⟩,fun μ tm H h=>by obtain ⟨gh,rfl,hI⟩:=h;exact hs μ gh  H hI⟩
theorem z1i6 {vb:OA} {ac xb:Nat} {jc:OA} {zc tc s:Nat} {Q:Post} {Inv:Nat→Int→zn→Prop} {μ:Nat} (μ':Nat) {gh:Int}  {H:zn} (hm:μ'<μ) (hI:Inv μ' gh H):zx (zx6 vb ac xb jc zc tc s Inv) μ Q .normal (zk9 vb ac xb jc zc tc s gh) H:=⟨μ',hm,gh,rfl,hI⟩
theorem z13m (vb:OA) (ac xb:Nat) (jc:OA) (zc tc:Nat) (H:zn) (K:KT)  {I:Nat→List Value→zn→Prop} {μ:Nat}:zx I μ (zu 6 (seqQ (exL Tryz.prog z4v (cr (cr (cr (cr (cr (cr (cr (cr (zo Tryz.f168))))))))) 112 112 []) (retK Tryz.prog Tryz.f168 K))) (.exit 6) (ud7 (.slice jc tc zc::.slice vb xb ac::ud98 [])) H=
 (zjj jc tc zc H fun (r1:Bool) (H10:zn)=>Br r1 (zjj vb xb ac H10 fun (r2:Bool) (H11:zn)=>K (.tuple #[.slice jc tc zc,.slice vb xb ac,.bool r2]) H11) (K (.tuple #[.slice jc tc zc,.slice vb xb ac,.bool false]) H10)):=by kernel_rfl
theorem zzv:∀g,FnOk Tryz.prog g (z4v g):=FnOk.envOf (by
 intro x hx
 simp only [List.mem_cons,List.not_mem_nil,or_false] at hx
 rcases hx with rfl | rfl
 ·exact zw0
 ·exact zp8)
theorem ω12 {P:Prop} (h:P:=by first | omega | (simp;done) | (simp;omega) | (first | (have:=tm2t (by assumption) (by omega);simp only [List.length_append,List.length_cons,List.length_nil];omega) | (have:=tm2f (by assumption) (by omega);simp only [List.length_append,List.length_cons,List.length_nil];omega))):P:=h
theorem ω4 {P:Prop} (h:P:=by first | omega | (first | (have:=tm2t (by assumption) (by omega);simp only [List.length_append,List.length_cons,List.length_nil];omega) | (have:=tm2f (by assumption) (by omega);simp only [List.length_append,List.length_cons,List.length_nil];omega)) | (simp only [List.length_append,List.length_cons,List.length_nil,List.length_set];done) | (simp only [List.length_append,List.length_cons,List.length_nil,List.length_set];omega)):P:=h
theorem z13i (s:Nat) (tb:OA) (qb bc:Nat) (H:zn) (K:KT) (h:T_ffz s tb qb bc H fun (jd:OA) (pd:Nat) (od:Nat) (nh:OA) (xh:Nat) (wh:Nat) (r3:Bool) (H':zn)=>K (.tuple #[.slice jd pd od,.slice nh xh wh,.bool r3]) H'):zt Tryz.prog z4v Tryz.f168 [.pointer (some ⟨s,0,none⟩),.slice tb qb bc] H K:=by
 rw [z1ic]
 obtain ⟨db,jb,lb,oa,aa,ab,i_s,yb,i_list,bd_183,bd_184,hk⟩:=h
 obtain rfl:=yb.eqn
 obtain rfl:=i_list.eqn
 have e:(z3d aa oa ab)=_:=rfl
 have e:=e.trans (zpp aa oa ab)
 have g0:=Grow.refl H
 refine Al.intro (fun b_1 H_1 hb_2 hl_3 g_4 o_5=>?_)
 have o_5:Own H_1 b_1 ((([]:LN)).map fF):=o_5
 have l_7:=g_4.1
 have g_8:=g0.trans g_4
 have l_9:=g_8.1
 have w182:=o_5.lt
 refine Al.intro (fun b_10 H_2 hb_11 hl_12 g_13 o_14=>?_)
 have o_14:Own H_2 b_10 ((([]:LN)).map fF):=o_14
 have l_16:=g_13.1
 have g_17:=g_8.trans g_13
 have l_18:=g_17.1
 have o_19:=o_5.grow g_13
 have w20:=o_19.lt
 have w181:=o_14.lt
 refine z1i0 _ _ _ _ (fun (μ:Nat) (jc:OA) (tc:Nat) (zc:Nat) (vb:OA) (xb:Nat) (ac:Nat) (i:Int) (H_3:zn)=>∃je:LN,∃b_21:Nat,∃uc:LN,∃b_23:Nat,jc=some ⟨b_21,0,none⟩∧tc=je.length∧zc=1∧Own H_3 b_21 (je.map fF)∧vb=some ⟨b_23,0,none⟩∧xb=uc.length∧ac=1∧Own H_3 b_23 (uc.map fF)∧(b_23≠b_21)∧Grow H H_3∧H.length≤b_21∧H.length≤b_23∧(0:Int)≤i∧i≤(ab.length:Int)∧(je.length:Int)≤i-(0:Int)+0∧(uc.length:Int)≤i-(0:Int)+0∧(je.length:Int)=(i+1) / 2∧(uc.length:Int)=i / 2∧(ab.length:Int)-i≤(μ:Int)∧z3d aa oa ab=za0 aa oa ab (μ+1) je uc i) (Int.toNat ((ab.length:Int)-(0:Int))) _ _ _ _ _ _ _ H_2 ?_ ?_
 ·exact ⟨_,_,_,_,rfl,ω5,rfl,o_19,rfl,ω5,rfl,o_14,ω2,g_17,ω2,ω2,ω12,ω12,ω12,ω12,ω12,ω12,ω2,e⟩
 ·intro μ jc tc zc vb xb ac i  H_3 hI
  obtain ⟨je,b_21,uc,b_23,rfl,rfl,rfl,o22,rfl,rfl,rfl,o24,n25,g26,l27,l28,v_29,v_30,v_31,v_32,v_33,v_34,hμ,e⟩:=hI
  rw [z1i8]
  have e:=e.trans (zgt aa oa ab μ je uc i)
  have w35:=o22.lt
  have w36:=o24.lt
  have l37:=g26.1
  refine Br.intro (fun c38=>?_) (fun c38=>?_)
  ·have e:=e.trans (zw c38)
   have c_38':=odt c38
   refine ⟨ω22,?_⟩
   have z39:=za1 i 2
   have z40:=zcb i 2
   refine Br.intro (fun c41=>?_) (fun c41=>?_)
   ·have e:=e.trans (zw c41)
    have c_41':=zbc c41
    obtain ⟨b42,f43,q44⟩:=((i_list.grow g26)).pos ω0
    refine ⟨by omega,by omega,b42,f43,q44,?_⟩
    refine ⟨((ab).getD (i:Int).toNat 0),(i_list).rd g26 q44 ω2 _,?_⟩
    refine Al.intro (fun b45 H_4 hb_46 hl_47 g_48 o49=>?_)
    have o49:Own H_4 b45 (([(((ab).getD (i:Int).toNat 0))]).map fF):=o49
    have l51:=g_48.1
    have g52:=g26.trans g_48
    have l53:=g52.1
    have o54:=o22.grow g_48
    have w55:=o54.lt
    have o56:=o24.grow g_48
    have w57:=o56.lt
    have w72:=o49.lt
    refine ⟨_,_,o54.ownB ω3 rfl,(z2h (o49.isL ω5)),(fun h=>by cases h),ω25,?_⟩
    refine Ap.app o54 rfl rfl (fun b62 H_5 q70 hl_58 o59 k60=>?_)
    have o59:=z2a o59
    have l63:=k60.1
    have g64:=g52.keep (b:=b_21) ω2 k60
    have l65:=g64.1
    have o66:=o56.keep ω2 k60
    have w67:=o66.lt
    have o68:=o49.keep ω2 k60
    have w69:=o68.lt
    have w71:=o59.lt
    rw [show IntKind.wrap .i64 (i+1)=(i+1) from zp ω2 ω2]
    refine z19x (μ-1) ω16 ⟨_,_,_,_,rfl,ω6,rfl,o59,rfl,ω5,rfl,o66,ω2,g64,ω2,ω2,ω4,ω4,ω4,ω4,ω4,ω4,ω16,ω13⟩
   ·have e:=e.trans (zv c41)
    have c_41':=zbb c41
    obtain ⟨b73,f74,q75⟩:=((i_list.grow g26)).pos ω0
    refine ⟨by omega,by omega,b73,f74,q75,?_⟩
    refine ⟨((ab).getD (i:Int).toNat 0),(i_list).rd g26 q75 ω2 _,?_⟩
    refine Al.intro (fun b76 H_6 hb_77 hl_78 g79 o80=>?_)
    have o80:Own H_6 b76 (([(((ab).getD (i:Int).toNat 0))]).map fF):=o80
    have l82:=g79.1
    have g83:=g26.trans g79
    have l84:=g83.1
    have o85:=o22.grow g79
    have w86:=o85.lt
    have o87:=o24.grow g79
    have w88:=o87.lt
    have w103:=o80.lt
    refine ⟨_,_,o87.ownB ω3 rfl,(z2h (o80.isL ω5)),(fun h=>by cases h),ω25,?_⟩
    refine Ap.app o87 rfl rfl (fun b93 H_7 q101 hl_89 o90 k91=>?_)
    have o90:=z2a o90
    have l94:=k91.1
    have g95:=g83.keep (b:=b_23) ω2 k91
    have l96:=g95.1
    have o97:=o85.keep ω2 k91
    have w98:=o97.lt
    have o99:=o80.keep ω2 k91
    have w100:=o99.lt
    have w102:=o90.lt
    rw [show IntKind.wrap .i64 (i+1)=(i+1) from zp ω2 ω2]
    refine z19x (μ-1) ω16 ⟨_,_,_,_,rfl,ω5,rfl,o97,rfl,ω6,rfl,o90,ω2,g95,ω2,ω2,ω4,ω4,ω4,ω4,ω4,ω4,ω16,ω13⟩
  ·have e:=e.trans (zv c38)
   have c_38':=odf c38
   rw [z13j]
   refine Br.intro (fun c104=>?_) (fun c104=>?_)
   ·have e:=e.trans (zw c104)
    have c_104':=zbc c104
    rw [e] at hk
    exact hk _ _ _ _ _ _ H_3 g26 (o22.ownS ω5 ω2) (o24.ownS ω5 ω2) (fun x y hx hy=>by cases hx;cases hy;intro hh;dsimp only at hh;omega)
   ·have e:=e.trans (zv c104)
    have c_104':=zbb c104
    refine z1i1 _ _ _ _ _ _ _ (fun (μ2:Nat) (k:Int) (H_8:zn)=>∃(y2_1 y2_2:LN),Own H_8 b_21 (y2_1.map fF)∧y2_1.length=je.length∧Own H_8 b_23 (y2_2.map fF)∧y2_2.length=uc.length∧(b_23≠b_21)∧Grow H H_8∧(0:Int)≤k∧k≤(aa.length:Int)∧(aa.length:Int)-k≤(μ2:Int)∧z3d aa oa ab=zbo aa oa ab je uc i (fun (k:Int) (y2_1:LN) (y2_2:LN)=>(z6w aa oa ab je uc i k y2_1 y2_2 (fun (ze:Int) (y3_1:LN) (y3_2:LN)=>(z5i aa oa ab je uc i k y2_1 y2_2 ze y3_1 y3_2 (fun (gh:Int) (y4_1:LN)=>(bif (z3e y3_1) then (y3_1,y4_1,(z3e y4_1)) else (y3_1,y4_1,false))) (Int.toNat ((uc.length:Int)-(0:Int))+1) (0:Int) y3_2)) (Int.toNat ((je.length:Int)-(0:Int))+1) (0:Int) y2_1 y2_2)) (μ2+1) k y2_1 y2_2) (Int.toNat ((aa.length:Int)-(0:Int))) _ H_3 ?_ ?_
    ·exact ⟨_,_,o22,ω17,o24,ω17,ω2,g26,ω7,ω7,ω2,e⟩
    ·intro μ2 k  H_8 hI
     obtain ⟨y2_1,y2_2,o105,y106,o107,y108,n109,g110,v111,v112,hμ,e⟩:=hI
     rw [z1i9]
     have e:=e.trans (zgu aa oa ab je uc i (fun (k:Int) (y2_1:LN) (y2_2:LN)=>(z6w aa oa ab je uc i k y2_1 y2_2 (fun (ze:Int) (y3_1:LN) (y3_2:LN)=>(z5i aa oa ab je uc i k y2_1 y2_2 ze y3_1 y3_2 (fun (gh:Int) (y4_1:LN)=>(bif (z3e y3_1) then (y3_1,y4_1,(z3e y4_1)) else (y3_1,y4_1,false))) (Int.toNat ((uc.length:Int)-(0:Int))+1) (0:Int) y3_2)) (Int.toNat ((je.length:Int)-(0:Int))+1) (0:Int) y2_1 y2_2)) μ2 k y2_1 y2_2)
     have w113:=o105.lt
     have w114:=o107.lt
     have l115:=g110.1
     refine ⟨db,aa.length,lb,(z1g (zq g110 i_s) 0 (nbl rfl)).trans rfl,?_⟩
     refine Br.intro (fun c116=>?_) (fun c116=>?_)
     ·have e:=e.trans (zw c116)
      have c_116':=odt c116
      refine ⟨db,aa.length,lb,(z1g (zq g110 i_s) 0 (nbl rfl)).trans rfl,?_⟩
      obtain ⟨b117,f_118,q119⟩:=((yb.grow g110)).pos ω0
      refine ⟨by omega,by omega,b117,f_118,q119,?_⟩
      refine ⟨((aa).getD (k:Int).toNat 0),(yb).rd g110 q119 ω2 _,?_⟩
      refine zoc ⟨_,_,_,_,(o105.ownS ω5 (Nat.le_refl _)),(o107.ownS ω5 (Nat.le_refl _)),(fun x y hx hy=>by cases hx;cases hy;intro hh;dsimp only at hh;omega),ω0,ω0,ω10,ω10,(fun H_10 k120 o121 o122=>?_)⟩
      obtain ⟨H_9,k123,k124⟩:=k120.split
      have k125:=k123.keep1
      have l126:=k125.1
      have g127:=g110.keep (b:=b_21) ω2 k125
      have l128:=g127.1
      have o129:=o107.keep ω2 k125
      have w130:=o129.lt
      have k131:=k124.keep1
      have l132:=k131.1
      have g133:=g127.keep (b:=b_23) ω2 k131
      have l134:=g133.1
      have o135:=o121.own1
      have w136:=o135.lt
      have o137:=o122.own1
      have w138:=o137.lt
      rw [show IntKind.wrap .i64 (k+1)=(k+1) from zp ω2 ω2]
      refine z1i4 (μ2-1) ω16 ⟨_,_,o135,ω14,o137,ω14,ω2,g133,ω1,ω1,ω16,ω28⟩
     ·have e:=e.trans (zv c116)
      have c_116':=odf c116
      rw [z13k]
      refine z1i2 _ _ _ _ _ _ _ (fun (μ3:Nat) (ze:Int) (H_11:zn)=>∃(y3_1 y3_2:LN),Own H_11 b_21 (y3_1.map fF)∧y3_1.length=je.length∧Own H_11 b_23 (y3_2.map fF)∧y3_2.length=uc.length∧(b_23≠b_21)∧Grow H H_11∧(0:Int)≤ze∧ze≤(je.length:Int)∧(je.length:Int)-ze≤(μ3:Int)∧z3d aa oa ab=z6w aa oa ab je uc i k y2_1 y2_2 (fun (ze:Int) (y3_1:LN) (y3_2:LN)=>(z5i aa oa ab je uc i k y2_1 y2_2 ze y3_1 y3_2 (fun (gh:Int) (y4_1:LN)=>(bif (z3e y3_1) then (y3_1,y4_1,(z3e y4_1)) else (y3_1,y4_1,false))) (Int.toNat ((uc.length:Int)-(0:Int))+1) (0:Int) y3_2)) (μ3+1) ze y3_1 y3_2) (Int.toNat ((je.length:Int)-(0:Int))) _ H_8 ?_ ?_
      ·exact ⟨_,_,o105,ω17,o107,ω17,ω2,g110,ω7,ω7,ω2,e⟩
      ·intro μ3 ze  H_11 hI
       obtain ⟨y3_1,y3_2,o139,y140,o141,y142,n143,g144,v145,v146,hμ,e⟩:=hI
       rw [z1ia]
       have e:=e.trans (zgv aa oa ab je uc i k y2_1 y2_2 (fun (ze:Int) (y3_1:LN) (y3_2:LN)=>(z5i aa oa ab je uc i k y2_1 y2_2 ze y3_1 y3_2 (fun (gh:Int) (y4_1:LN)=>(bif (z3e y3_1) then (y3_1,y4_1,(z3e y4_1)) else (y3_1,y4_1,false))) (Int.toNat ((uc.length:Int)-(0:Int))+1) (0:Int) y3_2)) μ3 ze y3_1 y3_2)
       have w147:=o139.lt
       have w148:=o141.lt
       have l149:=g144.1
       refine Br.intro (fun c150=>?_) (fun c150=>?_)
       ·have e:=e.trans (zw c150)
        have c_150':=odt c150
        refine ⟨by omega,ω2,_,_,rfl,?_⟩
        refine ⟨((y3_1).getD (ze:Int).toNat 0),o139.rd ω0 _,?_⟩
        refine ⟨oa,(z1g (zq g144 i_s) 1 (nbl rfl)).trans rfl,?_⟩
        refine ⟨by omega,ω2,_,_,rfl,?_⟩
        refine Lt.set o139 ω11 (fun H_12 hl_151 o153 k152=>?_)
        have o153:=map_set o153
        have l154:=k152.1
        have g155:=g144.keep (b:=b_21) ω2 k152
        have l156:=g155.1
        have o157:=o141.keep ω2 k152
        have w158:=o157.lt
        have w159:=o153.lt
        rw [show IntKind.wrap .i64 (ze+1)=(ze+1) from zp ω2 ω2]
        refine z1i5 (μ3-1) ω16 ⟨_,_,o153,ω14,o157,ω14,ω2,g155,ω1,ω1,ω16,ω29⟩
       ·have e:=e.trans (zv c150)
        have c_150':=odf c150
        rw [z13l]
        refine z1i3 _ _ _ _ _ _ _ (fun (μ4:Nat) (gh:Int) (H_13:zn)=>∃y4_1:LN,Own H_13 b_21 ((y3_1).map fF)∧Own H_13 b_23 (y4_1.map fF)∧y4_1.length=uc.length∧(b_23≠b_21)∧Grow H H_13∧(0:Int)≤gh∧gh≤(uc.length:Int)∧(uc.length:Int)-gh≤(μ4:Int)∧z3d aa oa ab=z5i aa oa ab je uc i k y2_1 y2_2 ze y3_1 y3_2 (fun (gh:Int) (y4_1:LN)=>(bif (z3e y3_1) then (y3_1,y4_1,(z3e y4_1)) else (y3_1,y4_1,false))) (μ4+1) gh y4_1) (Int.toNat ((uc.length:Int)-(0:Int))) _ H_11 ?_ ?_
        ·exact ⟨_,o139,o141,ω17,ω2,g144,ω7,ω7,ω2,e⟩
        ·intro μ4 gh  H_13 hI
         obtain ⟨y4_1,o160,o161,y162,n163,g164,v165,v166,hμ,e⟩:=hI
         rw [z1ib]
         have e:=e.trans (zgw aa oa ab je uc i k y2_1 y2_2 ze y3_1 y3_2 (fun (gh:Int) (y4_1:LN)=>(bif (z3e y3_1) then (y3_1,y4_1,(z3e y4_1)) else (y3_1,y4_1,false))) μ4 gh y4_1)
         have w167:=o160.lt
         have w168:=o161.lt
         have l169:=g164.1
         refine Br.intro (fun c170=>?_) (fun c170=>?_)
         ·have e:=e.trans (zw c170)
          have c_170':=odt c170
          refine ⟨by omega,ω2,_,_,rfl,?_⟩
          refine ⟨((y4_1).getD (gh:Int).toNat 0),o161.rd ω0 _,?_⟩
          refine ⟨oa,(z1g (zq g164 i_s) 1 (nbl rfl)).trans rfl,?_⟩
          refine ⟨by omega,ω2,_,_,rfl,?_⟩
          refine Lt.set o161 ω11 (fun H_14 hl_171 o173 k172=>?_)
          have o173:=map_set o173
          have l174:=k172.1
          have g175:=g164.keep (b:=b_23) ω2 k172
          have l176:=g175.1
          have o177:=o160.keep ω2 k172
          have w178:=o177.lt
          have w179:=o173.lt
          rw [show IntKind.wrap .i64 (gh+1)=(gh+1) from zp ω2 ω2]
          refine z1i6 (μ4-1) ω16 ⟨_,o177,o173,ω14,ω2,g175,ω1,ω1,ω16,ω30⟩
         ·have e:=e.trans (zv c170)
          have c_170':=odf c170
          rw [z13m]
          refine zdf ⟨_,(o160.isL ω5),ω0,?_⟩
          refine Br.intro (fun c180=>?_) (fun c180=>?_)
          ·have e:=e.trans (zw c180)
           refine zdf ⟨_,(o161.isL ω5),ω0,?_⟩
           rw [e] at hk
           exact hk _ _ _ _ _ _ H_13 g164 (o160.ownS ω5 ω2) (o161.ownS ω5 ω2) (fun x y hx hy=>by cases hx;cases hy;intro hh;dsimp only at hh;omega)
          ·have e:=e.trans (zv c180)
           rw [e] at hk
           exact hk _ _ _ _ _ _ H_13 g164 (o160.ownS ω5 ω2) (o161.ownS ω5 ω2) (fun x y hx hy=>by cases hx;cases hy;intro hh;dsimp only at hh;omega)
theorem z1i7:FnOk Tryz.prog 168 S_ffz:=FnOk.bodyF mix_ok zzv Tryz.func168 rfl ω9 ω9 fun args H=>by
 unfold F_ffz
 split
 ·refine ⟨?_,?_,?_,?_,fun K hk=>z13i _ _ _ _ H K hk⟩
  ·intro K K' h hk;obtain ⟨db,jb,lb,oa,aa,ab,i_s,yb,i_list,bd_183,bd_184,k⟩:=hk;exact ⟨db,jb,lb,oa,aa,ab,i_s,yb,i_list,bd_183,bd_184,(fun jd pd od nh xh wh H' gg ow0 ow1 sp0_1=>h _ _ (k jd pd od nh xh wh H' gg ow0 ow1 sp0_1))⟩
  ·nofun
  ·intro K hk;obtain ⟨db,jb,lb,oa,aa,ab,i_s,yb,i_list,bd_183,bd_184,k⟩:=hk;exact zxs fun a n e a2 n2 e2 H1 g o o2 sp=>⟨_,_,k a n e a2 n2 e2 H1 g o o2 sp⟩
  ·intro _ K hk;obtain ⟨db,jb,lb,oa,aa,ab,i_s,yb,i_list,bd_183,bd_184,k⟩:=hk;exact ⟨db,jb,lb,oa,aa,ab,i_s,yb,i_list,bd_183,bd_184,(fun jd pd od nh xh wh H' gg ow0 ow1 sp0_1=>⟨gg,k jd pd od nh xh wh H' gg ow0 ow1 sp0_1⟩)⟩
 ·exact Nice.no

def z3x (aa:LN) (oa:Nat) (ga za:Int) (ba:LN):Nat→Bool→Int→Int→Int→Int→Int→LN→Int×Int×LN×Bool
 | 0,_,_,_,_,_,_,_=>(0,0,[],false)
 | μ+1,t5,y,q1_1,q1_2,q1_4,q1_5,q1_6=>(bif decide ((y:Int)<za) then (bif !((z3d aa oa ((((ba).drop ((y*ga):Int).toNat).take ((((y+1)*ga):Int)-(y*ga)).toNat))).2.2) then ((0:Int),(0:Int),[],false) else (z3x aa oa ga za ba μ t5 (y+1) q1_1 q1_2 q1_4 q1_5 (((q1_6++(z3d aa oa ((((ba).drop ((y*ga):Int).toNat).take ((((y+1)*ga):Int)-(y*ga)).toNat))).1)++(z3d aa oa ((((ba).drop ((y*ga):Int).toNat).take ((((y+1)*ga):Int)-(y*ga)).toNat))).2.1)))) else (q1_4,q1_5,q1_6,true))
def zam:=fun aa oa ga za ba μ t5 y q1_1 q1_2 q1_4 q1_5 q1_6=>@z3x.eq_2 aa oa ga za ba t5 y q1_1 q1_2 q1_4 q1_5 q1_6 μ
def z2o (aa:LN) (oa:Nat) (ga za:Int) (ba:LN):Int×Int×LN×Bool:=(z3x aa oa ga za ba (Int.toNat (za-(0:Int))+1) false (0:Int) 0 0 ga za ([]:LN))
def zeo:=@z2o.eq_1
def zok (s p:Nat) (H:zn) (K:Int→Int→OA→Nat→Nat→Bool→zn→Prop):Prop:=∃db:OA,∃(jb lb oa:Nat),∃(ga za:Int),∃eb:OA,∃(ib nb:Nat),∃(aa ba:LN),rdN H s 0 2=some [.slice db jb lb,.float .f32 oa]∧rdN H p 0 3=some [.int .i64 ga,.int .i64 za,.slice eb ib nb]∧IsL fF H db jb aa∧IsL fF H eb ib ba∧aa.length<1073741824∧ba.length<1073741824∧1≤ga∧ga≤16∧1≤za∧za≤16∧(ba.length:Int)=ga*za∧((∀(ta:OA) (xa ua:Nat),∀H':zn,Grow H H'→OwnS fF H' H.length ta xa ua ((z2o aa oa ga za ba).2.2.1)→K ((z2o aa oa ga za ba).1) ((z2o aa oa ga za ba).2.1) ta xa ua ((z2o aa oa ga za ba).2.2.2) H'))
theorem z11i {s p:Nat} {H:zn} {K:Int→Int→OA→Nat→Nat→Bool→zn→Prop} (h:∃db:OA,∃(jb lb oa:Nat),∃(ga za:Int),∃eb:OA,∃(ib nb:Nat),∃(aa ba:LN),rdN H s 0 2=some [.slice db jb lb,.float .f32 oa]∧rdN H p 0 3=some [.int .i64 ga,.int .i64 za,.slice eb ib nb]∧IsL fF H db jb aa∧IsL fF H eb ib ba∧aa.length<1073741824∧ba.length<1073741824∧1≤ga∧ga≤16∧1≤za∧za≤16∧(ba.length:Int)=ga*za∧((∀(ta:OA) (xa ua:Nat),∀H':zn,Grow H H'→OwnS fF H' H.length ta xa ua ((z2o aa oa ga za ba).2.2.1)→K ((z2o aa oa ga za ba).1) ((z2o aa oa ga za ba).2.1) ta xa ua ((z2o aa oa ga za ba).2.2.2) H'))):zok s p H K:=h

theorem ze2 (ws:LN) (sc:Nat) (W Hi:Int) (l:LN) (h1:1≤W) (hl:(l.length:Int)=W*Hi):∀(μ:Nat) (t5:Bool) (y q1 q2 q4 q5:Int) (q6:LN),0≤y→y≤Hi→(z3x ws sc W Hi l μ t5 y q1 q2 q4 q5 q6).2.2.2=true→
  (z3x ws sc W Hi l μ t5 y q1 q2 q4 q5 q6).1=q4∧(z3x ws sc W Hi l μ t5 y q1 q2 q4 q5 q6).2.1=q5∧((z3x ws sc W Hi l μ t5 y q1 q2 q4 q5 q6).2.2.1.length:Int)=q6.length+(Hi-y)*W:=by
 intro μ
 induction μ with
 | zero=>intro t5 y q1 q2 q4 q5 q6 _ _ h;simp [z3x] at h
 | succ μ ih=>
  intro t5 y q1 q2 q4 q5 q6 h0 hy h
  rw [zam] at h ⊢
  by_cases c:y<Hi
  ·have hr:=zyu (l:=l) h1 hl h0 c
   rw [dct c] at h ⊢
   simp only [cond_true] at h ⊢
   generalize ((((l).drop ((y*W):Int).toNat).take ((((y+1)*W):Int)-(y*W)).toNat))=r at *
   obtain ⟨a1,a2⟩:=zat ws sc r
   cases hg:(z3d ws sc r).2.2 with
   | false=>rw [hg] at h;simp at h
   | true=>
    rw [hg] at h
    simp only [Bool.not_true,cond_false] at h ⊢
    obtain ⟨b1,b2,b3⟩:=ih t5 (y+1) q1 q2 q4 q5 _ ω2 ω2 h
    refine ⟨b1,b2,b3.trans ?_⟩
    simp only [List.length_append]
    have e3:(Hi-(y+1))*W=(Hi-y)*W-W:=by rw [show Hi-(y+1)=(Hi-y)-1 by omega,Int.sub_mul,Int.one_mul]
    omega
  ·rw [dcf c,cond_false]
   refine ⟨rfl,rfl,?_⟩
   rw [show Hi-y=0 by omega,Int.zero_mul];show (q6.length:Int)=_;omega
theorem zku {ws:LN} {sc:Nat} {W Hi:Int} {l:LN} (h1:1≤W) (h3:1≤Hi) (hl:(l.length:Int)=W*Hi) (h:(z2o ws sc W Hi l).2.2.2=true):(z2o ws sc W Hi l).1=W∧(z2o ws sc W Hi l).2.1=Hi∧((z2o ws sc W Hi l).2.2.1.length:Int)=W*Hi:=by
 rw [zeo] at h ⊢
 obtain ⟨a,b,c⟩:=ze2 ws sc W Hi l h1 hl _ _ _ _ _ _ _ _ ω2 ω2 h
 refine ⟨a,b,c.trans ?_⟩
 rw [show Hi-0=Hi by omega,Int.mul_comm];simp
def za8:Env:=envOf [(168,S_ffz)]
def z17t (args:List Value) (H:zn):(Value→zn→Prop)→Prop:=match args with
 | [.pointer (some ⟨s,0,none⟩),.pointer (some ⟨p,0,none⟩)]=>fun K=>zok s p H fun (xc:Int) (vc:Int) (ta:OA) (xa:Nat) (ua:Nat) (r2:Bool) (H':zn)=>K (.tuple #[.agg #[.int .i64 xc,.int .i64 vc,.slice ta xa ua],.bool r2]) H'
 | _=>fun _=>False
def z19a:FSpec:={F:=z17t,quiet:=false,tame:=true}
theorem z1di (s p:Nat) (H:zn) (K:KT):zt Tryz.prog za8 Tryz.f152 [.pointer (some ⟨s,0,none⟩),.pointer (some ⟨p,0,none⟩)] H K=
 (Al [.int .i64 0,.int .i64 0,.slice none 0 0] H fun b1 H1=>∃x1:Int,  rdC H1 p 1=some (.int .i64 x1)∧∃x2:Int,  rdC H1 p 0=some (.int .i64 x2)∧Al [] H1 fun b2 H2=>Al [.int .i64 0,.int .i64 0,.slice none 0 0] H2 fun b3 H3=>isOwn H3 b3∧(∃l,rdN H3 b3 0 3=some l)∧Lt (setN H3 b3 0 [.int .i64 x2,.int .i64 x1,.slice (some ⟨b2,0,none⟩) 0 1]) fun H4=>z1j (exL Tryz.prog za8 (cl (cl (cr (cl (cr (cr (zo Tryz.f152))))))) 211 48 [(0,80)]) (.pointer (some ⟨s,0,none⟩)::.pointer (some ⟨p,0,none⟩)::ud2 (.pointer (some ⟨b1,0,none⟩)::ud::.pointer (some ⟨b3,0,none⟩)::.int .i64 0::ud59 [])) H4 (zu 0 (seqQ (exL Tryz.prog za8 (cr (cr (cr (zo Tryz.f152)))) 48 48 []) (retK Tryz.prog Tryz.f152 K)))):=by kernel_rfl
abbrev zdr (b1 b3 p s:Nat) (y:Int)  :List Value:=(.pointer (some ⟨s,0,none⟩)::.pointer (some ⟨p,0,none⟩)::ud2 (.pointer (some ⟨b1,0,none⟩)::ud::.pointer (some ⟨b3,0,none⟩)::.int .i64 y::ud59 []))
theorem z1dh (b1 b3 p s:Nat) (y:Int)  (H:zn) (R:Post):exL Tryz.prog za8 (cl (cl (cr (cl (cr (cr (zo Tryz.f152))))))) 211 48 [(0,80)] (zdr b1 b3 p s y) H R=
 (∃x3:Int,  rdC H p 1=some (.int .i64 x3)∧Br (decide ((y:Int)<x3)) (∃x4:Int,  rdC H p 0=some (.int .i64 x4)∧∃x5:Int,  rdC H p 0=some (.int .i64 x5)∧∃ii:OA,∃(ai ni:Nat),  rdC H p 2=some (.slice ii ai ni)∧(0:Int)≤IntKind.wrap .i64 (y*x5)∧IntKind.wrap .i64 (y*x5)≤IntKind.wrap .i64 ((IntKind.wrap .i64 (y+1))*x4)∧IntKind.wrap .i64 ((IntKind.wrap .i64 (y+1))*x4)≤(ai:Int)∧T_ffz s ((ii:OA).map fun a=>⟨a.block,a.off+(IntKind.wrap .i64 (y*x5):Int).toNat*1,none⟩) (((IntKind.wrap .i64 ((IntKind.wrap .i64 (y+1))*x4):Int)-IntKind.wrap .i64 (y*x5)).toNat) 0 H fun (a1:OA) (r1:Nat) (r2:Nat) (a2:OA) (r3:Nat) (r4:Nat) (r5:Bool) (H5:zn)=>Br (!r5) (isOwn H5 b1∧(∃l,rdN H5 b1 0 3=some l)∧Lt (setN H5 b1 0 [.int .i64 0,.int .i64 0,.slice none 0 0]) fun H6=>R .ret (ud4 (.pointer (some ⟨b1,0,none⟩)::.bool false::ud61 [])) H6) (∃uj:OA,∃(zi tk:Nat),  rdC H5 b3 2=some (.slice uj zi tk)∧∃o1 w1:List Value,ownB H5 uj zi tk 1=some o1∧rdS H5 a1 (r1*1)=some w1∧((uj:OA)=none→0<(r1:Nat))∧(zi:Nat)+r1<most∧Ap H5 (z2s H5 uj++[some ⟨o1++w1,true⟩]) fun b4 H7=>isOwn H7 b3∧(∃l,rdN H7 b3 2 1=some l)∧Lt (setC H7 b3 2 (.slice (some ⟨b4,0,none⟩) (zi+r1) 1)) fun H8=>∃vj:OA,∃(wj vk:Nat),  rdC H8 b3 2=some (.slice vj wj vk)∧∃o2 w2:List Value,ownB H8 vj wj vk 1=some o2∧rdS H8 a2 (r3*1)=some w2∧((vj:OA)=none→0<(r3:Nat))∧(wj:Nat)+r3<most∧Ap H8 (z2s H8 vj++[some ⟨o2++w2,true⟩]) fun b5 H9=>isOwn H9 b3∧(∃l,rdN H9 b3 2 1=some l)∧Lt (setC H9 b3 2 (.slice (some ⟨b5,0,none⟩) (wj+r3) 1)) fun H10=>R .normal (.pointer (some ⟨s,0,none⟩)::.pointer (some ⟨p,0,none⟩)::ud2 (.pointer (some ⟨b1,0,none⟩)::ud::.pointer (some ⟨b3,0,none⟩)::.int .i64 (IntKind.wrap .i64 (y+1))::ud59 [])) H10)) (R (.exit 0) (ud4 (.pointer (some ⟨b1,0,none⟩)::ud::.pointer (some ⟨b3,0,none⟩)::ud60 [])) H)):=by kernel_rfl
def zn1 (b1 b3 p s:Nat) (Inv:Nat→Int→zn→Prop):Nat→List Value→zn→Prop:=fun μ tm H=>∃y:Int,tm=(zdr b1 b3 p s y)∧Inv μ y H
theorem z1de (b1 b3 p s:Nat) {Q:Post} (Inv:Nat→Int→zn→Prop) (ν:Nat) (y:Int)  (H:zn) (h0:Inv ν y H)
  (hs:∀(μ:Nat) (y:Int)  (H:zn),Inv μ y H→exL Tryz.prog za8 (cl (cl (cr (cl (cr (cr (zo Tryz.f152))))))) 211 48 [(0,80)] (zdr b1 b3 p s y) H (zx (zn1 b1 b3 p s Inv) μ Q)):z1j (exL Tryz.prog za8 (cl (cl (cr (cl (cr (cr (zo Tryz.f152))))))) 211 48 [(0,80)]) (zdr b1 b3 p s y) H Q:=
 ⟨zn1 b1 b3 p s Inv,ν,⟨y,rfl,h0⟩,fun μ tm H h=>by obtain ⟨y,rfl,hI⟩:=h;exact hs μ y  H hI⟩
theorem z1df {b1 b3 p s:Nat} {Q:Post} {Inv:Nat→Int→zn→Prop} {μ:Nat} (μ':Nat) {y:Int}  {H:zn} (hm:μ'<μ) (hI:Inv μ' y H):zx (zn1 b1 b3 p s Inv) μ Q .normal (zdr b1 b3 p s y) H:=⟨μ',hm,y,rfl,hI⟩
theorem zwg (b1 b3:Nat) (H:zn) (K:KT)  {I:Nat→List Value→zn→Prop} {μ:Nat}:zx I μ (zu 0 (seqQ (exL Tryz.prog za8 (cr (cr (cr (zo Tryz.f152)))) 48 48 []) (retK Tryz.prog Tryz.f152 K))) (.exit 0) (ud4 (.pointer (some ⟨b1,0,none⟩)::ud::.pointer (some ⟨b3,0,none⟩)::ud60 [])) H=
 (∃(c1 c2:Int),∃dh:OA,∃(fh eh:Nat),  rdN H b3 0 3=some [.int .i64 c1,.int .i64 c2,.slice dh fh eh]∧isOwn H b1∧(∃l,rdN H b1 0 3=some l)∧Lt (setN H b1 0 [.int .i64 c1,.int .i64 c2,.slice dh fh eh]) fun H11=>∃(c4 c5:Int),∃qh:OA,∃(th sh:Nat),  rdN H11 b1 0 3=some [.int .i64 c4,.int .i64 c5,.slice qh th sh]∧K (.tuple #[.agg #[.int .i64 c4,.int .i64 c5,.slice qh th sh],.bool true]) H11):=by kernel_rfl
theorem zn2 (b1:Nat) (t5:Bool) (H:zn) (K:KT)  {I:Nat→List Value→zn→Prop} {μ:Nat}:zx I μ (zu 0 (seqQ (exL Tryz.prog za8 (cr (cr (cr (zo Tryz.f152)))) 48 48 []) (retK Tryz.prog Tryz.f152 K))) .ret (ud4 (.pointer (some ⟨b1,0,none⟩)::.bool t5::ud61 [])) H=
 (∃(c7 c8:Int),∃ei:OA,∃(gi fi:Nat),  rdN H b1 0 3=some [.int .i64 c7,.int .i64 c8,.slice ei gi fi]∧K (.tuple #[.agg #[.int .i64 c7,.int .i64 c8,.slice ei gi fi],.bool t5]) H):=by kernel_rfl
theorem ztt:∀g,FnOk Tryz.prog g (za8 g):=FnOk.envOf (by
 intro x hx
 simp only [List.mem_cons,List.not_mem_nil,or_false] at hx
 subst hx;exact z1i7)
theorem zwf (s p:Nat) (H:zn) (K:KT) (h:zok s p H fun (xc:Int) (vc:Int) (ta:OA) (xa:Nat) (ua:Nat) (r2:Bool) (H':zn)=>K (.tuple #[.agg #[.int .i64 xc,.int .i64 vc,.slice ta xa ua],.bool r2]) H'):zt Tryz.prog za8 Tryz.f152 [.pointer (some ⟨s,0,none⟩),.pointer (some ⟨p,0,none⟩)] H K:=by
 rw [z1di]
 obtain ⟨db,jb,lb,oa,ga,za,eb,ib,nb,aa,ba,i_s,i_p,yb,wb,bd_175,bd_176,pr0,pr1,pr2,pr3,pr4,hk⟩:=h
 obtain rfl:=yb.eqn
 obtain rfl:=wb.eqn
 have e:(z2o aa oa ga za ba)=_:=rfl
 have e:=e.trans (zeo aa oa ga za ba)
 have g0:=Grow.refl H
 refine Al.intro (fun b_1 H_1 hb_2 hl_3 g_4 o_5=>?_)
 have l_7:=g_4.1
 have g_8:=g0.trans g_4
 have l_9:=g_8.1
 have w174:=o_5.lt
 refine ⟨za,(z1g (zq g_8 i_p) 1 (nbl rfl)).trans rfl,?_⟩
 refine ⟨ga,(z1g (zq g_8 i_p) 0 (nbl rfl)).trans rfl,?_⟩
 refine Al.intro (fun b_10 H_2 hb_11 hl_12 g_13 o_14=>?_)
 have o_14:Own H_2 b_10 ((([]:LN)).map fF):=o_14
 have l_16:=g_13.1
 have g_17:=g_8.trans g_13
 have l_18:=g_17.1
 have o_19:=o_5.grow g_13
 have w20:=o_19.lt
 have w173:=o_14.lt
 refine Al.intro (fun b_21 H_3 hb_22 hl_23 g24 o25=>?_)
 have l27:=g24.1
 have g28:=g_17.trans g24
 have l29:=g28.1
 have o30:=o_19.grow g24
 have w31:=o30.lt
 have o32:=o_14.grow g24
 have w33:=o32.lt
 have w172:=o25.lt
 refine Lt.setN (n:=3) o25 (nbl rfl) rfl (fun H_4 hl_34 o36 k35=>?_)
 have o36:Own H_4 b_21 [.int .i64 ga,.int .i64 za,.slice (some ⟨b_10,0,none⟩) 0 1]:=o36
 have l37:=k35.1
 have g38:=g28.keep (b:=b_21) ω2 k35
 have l39:=g38.1
 have o40:=o30.keep ω2 k35
 have w41:=o40.lt
 have o42:=o32.keep ω2 k35
 have w43:=o42.lt
 have w171:=o36.lt
 refine z1de _ _ _ _ (fun (μ:Nat) (y:Int) (H_5:zn)=>∃t5:Bool,∃(q1_1 q1_2 q1_4 q1_5:Int),∃q1_6:LN,∃b46:Nat,Own H_5 b_1 [.int .i64 q1_1,.int .i64 q1_2,.slice none 0 0]∧Own H_5 b46 (q1_6.map fF)∧Own H_5 b_21 [.int .i64 q1_4,.int .i64 q1_5,.slice (some ⟨b46,0,none⟩) q1_6.length 1]∧(b_21≠b_1)∧(b46≠b_1)∧(b46≠b_21)∧Grow H H_5∧H.length≤b46∧(0:Int)≤y∧((y≤za∨y≤(0:Int)))∧(q1_6.length:Int)≤16*y∧za-y≤(μ:Int)∧z2o aa oa ga za ba=z3x aa oa ga za ba (μ+1) t5 y q1_1 q1_2 q1_4 q1_5 q1_6) (Int.toNat (za-(0:Int))) _ H_4 ?_ ?_
 ·exact ⟨_,_,_,_,_,_,_,ω18,o42,ω19,ω2,ω2,ω2,g38,ω2,ω7,ω7,ω7,ω2,e⟩
 ·intro μ y  H_5 hI
  obtain ⟨t5,q1_1,q1_2,q1_4,q1_5,q1_6,b46,o44,o47,o45,n48,n49,n50,g51,l52,v_53,v_54,v_55,hμ,e⟩:=hI
  rw [z1dh]
  have e:=e.trans (zam aa oa ga za ba μ t5 y q1_1 q1_2 q1_4 q1_5 q1_6)
  have zy:=z1ac (W:=ga) (H:=za) (y:=y) ba ω2 ω2 ω2 ω2
  have w56:=o44.lt
  have w57:=o45.lt
  have w58:=o47.lt
  have l59:=g51.1
  refine ⟨za,(z1g (zq g51 i_p) 1 (nbl rfl)).trans rfl,?_⟩
  refine Br.intro (fun c60=>?_) (fun c60=>?_)
  ·have e:=e.trans (zw c60)
   have c_60':=odt c60
   refine ⟨ga,(z1g (zq g51 i_p) 0 (nbl rfl)).trans rfl,?_⟩
   refine ⟨ga,(z1g (zq g51 i_p) 0 (nbl rfl)).trans rfl,?_⟩
   refine ⟨eb,ba.length,nb,(z1g (zq g51 i_p) 2 (nbl rfl)).trans rfl,?_⟩
   rw [show IntKind.wrap .i64 (y*ga)=(y*ga) from zp ω2 ω2]
   rw [show IntKind.wrap .i64 (y+1)=(y+1) from zp ω2 ω2]
   rw [show IntKind.wrap .i64 ((y+1)*ga)=((y+1)*ga) from zp ω2 ω2]
   refine ⟨by omega,by omega,by omega,?_⟩
   have i61:=zc9 wb (lo:=(y*ga)) (hi:=((y+1)*ga)) ω2 ω2 ω2
   refine z1bo ⟨db,aa.length,lb,oa,_,_,(zq g51 i_s),(yb.grow g51),(i61.grow g51),ω0,ω0,fun a62 n63 e_64 a66 n67 e68 H_6 g71 r65 r69 p87=>?_⟩
   have z70:=zat aa oa ((((ba).drop ((y*ga):Int).toNat).take ((((y+1)*ga):Int)-(y*ga)).toNat))
   have l72:=g71.1
   have g73:=g51.trans g71
   have l74:=g73.1
   have o75:=o44.grow g71
   have w76:=o75.lt
   have o77:=o45.grow g71
   have w78:=o77.lt
   have o79:=o47.grow g71
   have w80:=o79.lt
   obtain rfl:=r65.isL.eqn
   have u81:=r65.up
   have u82:=r65.lo
   obtain rfl:=r69.isL.eqn
   have u84:=r69.up
   have u85:=r69.lo
   refine Br.intro (fun c88=>?_) (fun c88=>?_)
   ·have e:=e.trans (zw c88)
    have c_88n:=z1e c88
    refine Lt.setN (n:=3) o75 (nbl rfl) rfl (fun H_7 hl_89 o91 k90=>?_)
    have o91:Own H_7 b_1 [.int .i64 0,.int .i64 0,.slice none 0 0]:=o91
    have l92:=k90.1
    have g93:=g73.keep (b:=b_1) ω2 k90
    have l94:=g93.1
    have o95:=o77.keep ω2 k90
    have w96:=o95.lt
    have o97:=o79.keep ω2 k90
    have w98:=o97.lt
    have r99:=r65.keep u81 ω2 k90
    have r100:=r69.keep u84 ω2 k90
    have w101:=o91.lt
    rw [zn2]
    refine ⟨0,0,none,0,0,(o91.rdN (nbl rfl)).trans rfl,?_⟩
    rw [e] at hk
    exact hk _ _ _ H_7 g93 ω21
   ·have e:=e.trans (zv c88)
    have c_88n:=z1a c88
    refine ⟨some ⟨b46,0,none⟩,q1_6.length,1,(o77.rdC _).trans rfl,?_⟩
    refine ⟨_,_,o79.ownB ω3 rfl,(z2h r65.isL),(fun h=>by cases h),ω25,?_⟩
    refine Ap.app o79 rfl rfl (fun b106 H_8 q158 hl_102 o103 k104=>?_)
    have o103:=z2a o103
    have l107:=k104.1
    have g108:=g73.keep (b:=b46) ω2 k104
    have l109:=g108.1
    have o110:=o75.keep ω2 k104
    have w111:=o110.lt
    have o112:=o77.keep ω2 k104
    have w113:=o112.lt
    have r114:=r65.keep u81 ω2 k104
    have r115:=r69.keep u84 ω2 k104
    have w159:=o103.lt
    refine Lt.set o112 (nbl rfl) (fun H_9 hl_116 o118 k117=>?_)
    have o118:Own H_9 b_21 [.int .i64 q1_4,.int .i64 q1_5,.slice (some ⟨b106,0,none⟩) (q1_6.length+(((z3d aa oa ((((ba).drop ((y*ga):Int).toNat).take ((((y+1)*ga):Int)-(y*ga)).toNat))).1).length)) 1]:=o118
    have l119:=k117.1
    have g120:=g108.keep (b:=b_21) ω2 k117
    have l121:=g120.1
    have o122:=o110.keep ω2 k117
    have w123:=o122.lt
    have o124:=o103.keep ω2 k117
    have w125:=o124.lt
    have r126:=r114.keep u81 ω2 k117
    have r127:=r115.keep u84 ω2 k117
    have w157:=o118.lt
    refine ⟨some ⟨b106,0,none⟩,q1_6.length+(((z3d aa oa ((((ba).drop ((y*ga):Int).toNat).take ((((y+1)*ga):Int)-(y*ga)).toNat))).1).length),1,(o118.rdC _).trans rfl,?_⟩
    refine ⟨_,_,o124.ownB ω3 rfl,(z2h r127.isL),(fun h=>by cases h),ω25,?_⟩
    refine Ap.app o124 rfl rfl (fun b132 H_10 q155 hl_128 o129 k130=>?_)
    have o129:=z2a o129
    have l133:=k130.1
    have g134:=g120.keep (b:=b106) ω2 k130
    have l135:=g134.1
    have o136:=o122.keep ω2 k130
    have w137:=o136.lt
    have o138:=o118.keep ω2 k130
    have w139:=o138.lt
    have r140:=r126.keep u81 ω2 k130
    have r141:=r127.keep u84 ω2 k130
    have w156:=o129.lt
    refine Lt.set o138 (nbl rfl) (fun H_11 hl_142 o144 k143=>?_)
    have o144:Own H_11 b_21 [.int .i64 q1_4,.int .i64 q1_5,.slice (some ⟨b132,0,none⟩) ((q1_6.length+(((z3d aa oa ((((ba).drop ((y*ga):Int).toNat).take ((((y+1)*ga):Int)-(y*ga)).toNat))).1).length))+(((z3d aa oa ((((ba).drop ((y*ga):Int).toNat).take ((((y+1)*ga):Int)-(y*ga)).toNat))).2.1).length)) 1]:=o144
    have l145:=k143.1
    have g146:=g134.keep (b:=b_21) ω2 k143
    have l147:=g146.1
    have o148:=o136.keep ω2 k143
    have w149:=o148.lt
    have o150:=o129.keep ω2 k143
    have w151:=o150.lt
    have r152:=r140.keep u81 ω2 k143
    have r153:=r141.keep u84 ω2 k143
    have w154:=o144.lt
    refine z1df (μ-1) ω16 ⟨_,_,_,_,_,_,_,(by first | exact o148 | (have hbx:=o148;(try simp only [List.length_append,List.length_cons,List.length_nil,Nat.zero_add] at hbx);(try simp only [List.length_append,List.length_cons,List.length_nil,Nat.zero_add]);exact hbx)),o150,(by first | exact o144 | (have hbx:=o144;(try simp only [List.length_append,List.length_cons,List.length_nil,Nat.zero_add] at hbx);(try simp only [List.length_append,List.length_cons,List.length_nil,Nat.zero_add]);exact hbx)),ω2,ω2,ω2,g146,ω2,ω1,ω1,ω1,ω16,ω13⟩
  ·have e:=e.trans (zv c60)
   have c_60':=odf c60
   rw [zwg]
   refine ⟨q1_4,q1_5,some ⟨b46,0,none⟩,q1_6.length,1,(o45.rdN (nbl rfl)).trans rfl,?_⟩
   refine Lt.setN (n:=3) o44 (nbl rfl) rfl (fun H_12 hl_160 o162 k161=>?_)
   have o162:Own H_12 b_1 [.int .i64 q1_4,.int .i64 q1_5,.slice (some ⟨b46,0,none⟩) q1_6.length 1]:=o162
   have l163:=k161.1
   have g164:=g51.keep (b:=b_1) ω2 k161
   have l165:=g164.1
   have o166:=o45.keep ω2 k161
   have w167:=o166.lt
   have o168:=o47.keep ω2 k161
   have w169:=o168.lt
   have w170:=o162.lt
   refine ⟨q1_4,q1_5,some ⟨b46,0,none⟩,q1_6.length,1,(o162.rdN (nbl rfl)).trans rfl,?_⟩
   rw [e] at hk
   exact hk _ _ _ H_12 g164 (o168.ownS ω5 ω2)
theorem z1dg:FnOk Tryz.prog 152 z19a:=FnOk.bodyF mix_ok ztt Tryz.func152 rfl ω9 ω9 fun args H=>by
 unfold z17t
 split
 ·refine ⟨?_,?_,?_,?_,fun K hk=>zwf _ _ H K hk⟩
  ·intro K K' h hk;obtain ⟨db,jb,lb,oa,ga,za,eb,ib,nb,aa,ba,i_s,i_p,yb,wb,bd_175,bd_176,pr0,pr1,pr2,pr3,pr4,k⟩:=hk;exact ⟨db,jb,lb,oa,ga,za,eb,ib,nb,aa,ba,i_s,i_p,yb,wb,bd_175,bd_176,pr0,pr1,pr2,pr3,pr4,(fun ta xa ua H' gg ow0=>h _ _ (k ta xa ua H' gg ow0))⟩
  ·nofun
  ·intro K hk;obtain ⟨db,jb,lb,oa,ga,za,eb,ib,nb,aa,ba,i_s,i_p,yb,wb,bd_175,bd_176,pr0,pr1,pr2,pr3,pr4,k⟩:=hk;exact z5q fun a n e H1 g o=>⟨_,_,k a n e H1 g o⟩
  ·intro _ K hk;obtain ⟨db,jb,lb,oa,ga,za,eb,ib,nb,aa,ba,i_s,i_p,yb,wb,bd_175,bd_176,pr0,pr1,pr2,pr3,pr4,k⟩:=hk;exact ⟨db,jb,lb,oa,ga,za,eb,ib,nb,aa,ba,i_s,i_p,yb,wb,bd_175,bd_176,pr0,pr1,pr2,pr3,pr4,(fun ta xa ua H' gg ow0=>⟨gg,k ta xa ua H' gg ow0⟩)⟩
 ·exact Nice.no

def z2n (aa:LN) (oa:Nat) (ga za:Int) (ba:LN) (back:Bool):Int×Int×LN×Bool:=(bif back then ((z2y aa oa ga za ba).1,(z2y aa oa ga za ba).2.1,(z2y aa oa ga za ba).2.2.1,(z2y aa oa ga za ba).2.2.2) else ((z2o aa oa ga za ba).1,(z2o aa oa ga za ba).2.1,(z2o aa oa ga za ba).2.2.1,(z2o aa oa ga za ba).2.2.2))
def zen:=@z2n.eq_1
def zjd (s p:Nat) (back:Bool) (H:zn) (K:Int→Int→OA→Nat→Nat→Bool→zn→Prop):Prop:=∃db:OA,∃(jb lb oa:Nat),∃(ga za:Int),∃eb:OA,∃(ib nb:Nat),∃(aa ba:LN),rdN H s 0 2=some [.slice db jb lb,.float .f32 oa]∧rdN H p 0 3=some [.int .i64 ga,.int .i64 za,.slice eb ib nb]∧IsL fF H db jb aa∧IsL fF H eb ib ba∧aa.length<1073741824∧ba.length<1073741824∧1≤ga∧ga≤16∧1≤za∧za≤16∧(ba.length:Int)=ga*za∧((∀(ta:OA) (xa ua:Nat),∀H':zn,Grow H H'→OwnS fF H' H.length ta xa ua ((z2n aa oa ga za ba back).2.2.1)→K ((z2n aa oa ga za ba back).1) ((z2n aa oa ga za ba back).2.1) ta xa ua ((z2n aa oa ga za ba back).2.2.2) H'))
theorem zod {s p:Nat} {back:Bool} {H:zn} {K:Int→Int→OA→Nat→Nat→Bool→zn→Prop} (h:∃db:OA,∃(jb lb oa:Nat),∃(ga za:Int),∃eb:OA,∃(ib nb:Nat),∃(aa ba:LN),rdN H s 0 2=some [.slice db jb lb,.float .f32 oa]∧rdN H p 0 3=some [.int .i64 ga,.int .i64 za,.slice eb ib nb]∧IsL fF H db jb aa∧IsL fF H eb ib ba∧aa.length<1073741824∧ba.length<1073741824∧1≤ga∧ga≤16∧1≤za∧za≤16∧(ba.length:Int)=ga*za∧((∀(ta:OA) (xa ua:Nat),∀H':zn,Grow H H'→OwnS fF H' H.length ta xa ua ((z2n aa oa ga za ba back).2.2.1)→K ((z2n aa oa ga za ba back).1) ((z2n aa oa ga za ba back).2.1) ta xa ua ((z2n aa oa ga za ba back).2.2.2) H'))):zjd s p back H K:=h
theorem z8b {ws:LN} {sc:Nat} {W Hi:Int} {l:LN} {back:Bool} (h1:1≤W) (h3:1≤Hi) (hl:(l.length:Int)=W*Hi) (h:(z2n ws sc W Hi l back).2.2.2=true):(z2n ws sc W Hi l back).1=W∧(z2n ws sc W Hi l back).2.1=Hi∧((z2n ws sc W Hi l back).2.2.1.length:Int)=W*Hi:=by
 rw [zen] at h ⊢
 cases back with
 | true=>exact zfq h1 h3 hl h
 | false=>exact zku h1 h3 hl h
def zth:Env:=envOf [(151,z18l),(152,z19a)]
def z17l (args:List Value) (H:zn):(Value→zn→Prop)→Prop:=match args with
 | [.pointer (some ⟨s,0,none⟩),.pointer (some ⟨p,0,none⟩),.bool back]=>fun K=>zjd s p back H fun (xc:Int) (vc:Int) (ta:OA) (xa:Nat) (ua:Nat) (r2:Bool) (H':zn)=>K (.tuple #[.agg #[.int .i64 xc,.int .i64 vc,.slice ta xa ua],.bool r2]) H'
 | _=>fun _=>False
def z18t:FSpec:={F:=z17l,quiet:=false,tame:=true}
theorem z1cq (s p:Nat) (back:Bool) (H:zn) (K:KT):zt Tryz.prog zth Tryz.f127 [.pointer (some ⟨s,0,none⟩),.pointer (some ⟨p,0,none⟩),.bool back] H K=
 (Al [.int .i64 0,.int .i64 0,.slice none 0 0] H fun b1 H1=>Br back (zo5 s p H1 fun (r1:Int) (r2:Int) (a1:OA) (r3:Nat) (r4:Nat) (r5:Bool) (H2:zn)=>isOwn H2 b1∧(∃l,rdN H2 b1 0 3=some l)∧Lt (setN H2 b1 0 [.int .i64 r1,.int .i64 r2,.slice a1 r3 r4]) fun H3=>∃(c1 c2:Int),∃dh:OA,∃(fh eh:Nat),  rdN H3 b1 0 3=some [.int .i64 c1,.int .i64 c2,.slice dh fh eh]∧K (.tuple #[.agg #[.int .i64 c1,.int .i64 c2,.slice dh fh eh],.bool r5]) H3) (zok s p H1 fun (r6:Int) (r7:Int) (a2:OA) (r8:Nat) (r9:Nat) (r10:Bool) (H4:zn)=>isOwn H4 b1∧(∃l,rdN H4 b1 0 3=some l)∧Lt (setN H4 b1 0 [.int .i64 r6,.int .i64 r7,.slice a2 r8 r9]) fun H5=>∃(c4 c5:Int),∃qh:OA,∃(th sh:Nat),  rdN H5 b1 0 3=some [.int .i64 c4,.int .i64 c5,.slice qh th sh]∧K (.tuple #[.agg #[.int .i64 c4,.int .i64 c5,.slice qh th sh],.bool r10]) H5)):=by kernel_rfl
theorem zti:∀g,FnOk Tryz.prog g (zth g):=FnOk.envOf (by
 intro x hx
 simp only [List.mem_cons,List.not_mem_nil,or_false] at hx
 rcases hx with rfl | rfl
 ·exact f12z_ok
 ·exact z1dg)
theorem zw3 (s p:Nat) (back:Bool) (H:zn) (K:KT) (h:zjd s p back H fun (xc:Int) (vc:Int) (ta:OA) (xa:Nat) (ua:Nat) (r2:Bool) (H':zn)=>K (.tuple #[.agg #[.int .i64 xc,.int .i64 vc,.slice ta xa ua],.bool r2]) H'):zt Tryz.prog zth Tryz.f127 [.pointer (some ⟨s,0,none⟩),.pointer (some ⟨p,0,none⟩),.bool back] H K:=by
 rw [z1cq]
 obtain ⟨db,jb,lb,oa,ga,za,eb,ib,nb,aa,ba,i_s,i_p,yb,wb,bd_54,bd_55,pr0,pr1,pr2,pr3,pr4,hk⟩:=h
 obtain rfl:=yb.eqn
 obtain rfl:=wb.eqn
 have e:(z2n aa oa ga za ba back)=_:=rfl
 have e:=e.trans (zen aa oa ga za ba back)
 have g0:=Grow.refl H
 refine Al.intro (fun b_1 H_1 hb_2 hl_3 g_4 o_5=>?_)
 have l_7:=g_4.1
 have g_8:=g0.trans g_4
 have l_9:=g_8.1
 have w53:=o_5.lt
 refine Br.intro (fun c_10=>?_) (fun c_10=>?_)
 ·have e:=e.trans (zw c_10)
  refine z10t ⟨db,aa.length,lb,oa,ga,za,eb,ba.length,nb,_,_,(zq g_8 i_s),(zq g_8 i_p),(yb.grow g_8),(wb.grow g_8),ω0,ω0,ω10,ω10,ω10,ω10,ω10,fun a11 n12 e_13 H_2 g15 r_14=>?_⟩
  have l_16:=g15.1
  have g_17:=g_8.trans g15
  have l_18:=g_17.1
  have o_19:=o_5.grow g15
  have w20:=o_19.lt
  obtain rfl:=r_14.isL.eqn
  have u21:=r_14.up
  have u22:=r_14.lo
  refine Lt.setN (n:=3) o_19 (nbl rfl) rfl (fun H_3 hl_24 o26 k25=>?_)
  have o26:Own H_3 b_1 [.int .i64 ((z2y aa oa ga za ba).1),.int .i64 ((z2y aa oa ga za ba).2.1),.slice a11 (((z2y aa oa ga za ba).2.2.1).length) e_13]:=o26
  have l27:=k25.1
  have g28:=g_17.keep (b:=b_1) ω2 k25
  have l29:=g28.1
  have r30:=r_14.keep u21 ω2 k25
  have w31:=o26.lt
  refine ⟨(z2y aa oa ga za ba).1,(z2y aa oa ga za ba).2.1,a11,((z2y aa oa ga za ba).2.2.1).length,e_13,(o26.rdN (nbl rfl)).trans rfl,?_⟩
  rw [e] at hk
  exact hk _ _ _ H_3 g28 (r30.weak ω2)
 ·have e:=e.trans (zv c_10)
  refine z11i ⟨db,aa.length,lb,oa,ga,za,eb,ba.length,nb,_,_,(zq g_8 i_s),(zq g_8 i_p),(yb.grow g_8),(wb.grow g_8),ω0,ω0,ω10,ω10,ω10,ω10,ω10,fun a32 n33 e34 H_4 g36 r35=>?_⟩
  have l37:=g36.1
  have g38:=g_8.trans g36
  have l39:=g38.1
  have o40:=o_5.grow g36
  have w41:=o40.lt
  obtain rfl:=r35.isL.eqn
  have u42:=r35.up
  have u43:=r35.lo
  refine Lt.setN (n:=3) o40 (nbl rfl) rfl (fun H_5 hl_45 o47 k46=>?_)
  have o47:Own H_5 b_1 [.int .i64 ((z2o aa oa ga za ba).1),.int .i64 ((z2o aa oa ga za ba).2.1),.slice a32 (((z2o aa oa ga za ba).2.2.1).length) e34]:=o47
  have l48:=k46.1
  have g49:=g38.keep (b:=b_1) ω2 k46
  have l50:=g49.1
  have r51:=r35.keep u42 ω2 k46
  have w52:=o47.lt
  refine ⟨(z2o aa oa ga za ba).1,(z2o aa oa ga za ba).2.1,a32,((z2o aa oa ga za ba).2.2.1).length,e34,(o47.rdN (nbl rfl)).trans rfl,?_⟩
  rw [e] at hk
  exact hk _ _ _ H_5 g49 (r51.weak ω2)
theorem z1cp:FnOk Tryz.prog 127 z18t:=FnOk.bodyF mix_ok zti Tryz.func127 rfl ω9 ω9 fun args H=>by
 unfold z17l
 split
 ·refine ⟨?_,?_,?_,?_,fun K hk=>zw3 _ _ _ H K hk⟩
  ·intro K K' h hk;obtain ⟨db,jb,lb,oa,ga,za,eb,ib,nb,aa,ba,i_s,i_p,yb,wb,bd_54,bd_55,pr0,pr1,pr2,pr3,pr4,k⟩:=hk;exact ⟨db,jb,lb,oa,ga,za,eb,ib,nb,aa,ba,i_s,i_p,yb,wb,bd_54,bd_55,pr0,pr1,pr2,pr3,pr4,(fun ta xa ua H' gg ow0=>h _ _ (k ta xa ua H' gg ow0))⟩
  ·nofun
  ·intro K hk;obtain ⟨db,jb,lb,oa,ga,za,eb,ib,nb,aa,ba,i_s,i_p,yb,wb,bd_54,bd_55,pr0,pr1,pr2,pr3,pr4,k⟩:=hk;exact z5q fun a n e H1 g o=>⟨_,_,k a n e H1 g o⟩
  ·intro _ K hk;obtain ⟨db,jb,lb,oa,ga,za,eb,ib,nb,aa,ba,i_s,i_p,yb,wb,bd_54,bd_55,pr0,pr1,pr2,pr3,pr4,k⟩:=hk;exact ⟨db,jb,lb,oa,ga,za,eb,ib,nb,aa,ba,i_s,i_p,yb,wb,bd_54,bd_55,pr0,pr1,pr2,pr3,pr4,(fun ta xa ua H' gg ow0=>⟨gg,k ta xa ua H' gg ow0⟩)⟩
 ·exact Nice.no
theorem Own.putX {H:zn} {c:Nat} {cs:List Value} (h:Own H c cs) (cs':List Value):∃H1,z3j c H H1∧Own H1 c cs':=by
 refine ⟨H.set c (some {cells:=cs',own:=true}),⟨by simp,fun i _ hne=>by rw [List.getElem?_set_ne (Ne.symm hne)]⟩,?_⟩
 show (H.set c _)[c]? =_
 rw [List.getElem?_set_self h.lt]
theorem zi7 {H H':zn} {b c off n:Nat} {l:List Value} (k:z3j c H H') (hne:b≠c) (h:rdN H b off n=some l):rdN H' b off n=some l:=by
 have hb:b<H.length:=by
  unfold rdN rdB at h
  by_cases hb:b<H.length
  ·exact hb
  ·rw [List.getElem?_eq_none ω2] at h;cases h
 unfold rdN rdB at h ⊢
 rw [k.2 b hb hne];exact h
theorem z15e {H H':zn} {c n:Nat} {a:OA} {xs:LN} (k:z3j c H H') (h:IsL fF H a n xs) (hne:∀x,a=some x→x.block≠c):IsL fF H' a n xs:=by
 unfold IsL rdS at h ⊢
 cases n with
 | zero=>exact h
 | succ n=>
  cases a with
  | none=>exact h
  | some x=>
   obtain ⟨b,off,sub⟩:=x
   cases sub with
   | none=>exact zi7 k (hne _ rfl) h
   | some _=>exact h
theorem z3j.trans {c:Nat} {H H1 H2:zn} (h:z3j c H H1) (k:z3j c H1 H2):z3j c H H2:=⟨Nat.le_trans h.1 k.1,fun i hi hne=>(k.2 i (Nat.lt_of_lt_of_le hi h.1) hne).trans (h.2 i hi hne)⟩
theorem z3j.grow {c:Nat} {H H1 H2:zn} (h:z3j c H H1) (k:Grow H1 H2):z3j c H H2:=⟨Nat.le_trans h.1 k.1,fun i hi hne=>(k.2 i (Nat.lt_of_lt_of_le hi h.1)).trans (h.2 i hi hne)⟩
def putS (l q:LN) (W pw x y:Int):Nat→LN
 | 0=>l
 | i+1=>(putS l q W pw x y i).set ((y+Int.tdiv (i:Int) pw)*W+x+Int.tmod (i:Int) pw).toNat (q.getD i 0)
@[simp] theorem z8l (l q:LN) (W pw x y:Int):∀i,(putS l q W pw x y i).length=l.length:=by
 intro i
 induction i with
 | zero=>rfl
 | succ i ih=>exact (List.length_set ..).trans ih
def zor (p part:Nat) (x y:Int) (H:zn) (K:zn→Prop):Prop:=
 ∃(W Hi:Int) (c e:Nat) (l:LN) (pw ph:Int) (qa:OA) (qn qe:Nat) (q:LN),rdN H p 0 3=some [.int .i64 W,.int .i64 Hi,.slice (some ⟨c,0,none⟩) l.length e]∧Own H c (l.map fF)∧rdN H part 0 3=some [.int .i64 pw,.int .i64 ph,.slice qa qn qe]∧IsL fF H qa qn q∧(∀x,qa=some x→x.block≠c)∧p≠c∧part≠c∧(l.length:Int)=W*Hi∧(q.length:Int)=pw*ph∧
  0≤x∧0≤y∧1≤pw∧1≤ph∧x+pw≤W∧y+ph≤Hi∧W≤16∧Hi≤16∧(∀H':zn,z3j c H H'→Own H' c ((putS l q W pw x y (pw*ph).toNat).map fF)→K H')
theorem z11p {p part:Nat} {x y:Int} {H:zn} {K:zn→Prop} (h:∃(W Hi:Int) (c e:Nat) (l:LN) (pw ph:Int) (qa:OA) (qn qe:Nat) (q:LN),rdN H p 0 3=some [.int .i64 W,.int .i64 Hi,.slice (some ⟨c,0,none⟩) l.length e]∧Own H c (l.map fF)∧rdN H part 0 3=some [.int .i64 pw,.int .i64 ph,.slice qa qn qe]∧IsL fF H qa qn q∧(∀x,qa=some x→x.block≠c)∧p≠c∧part≠c∧(l.length:Int)=W*Hi∧(q.length:Int)=pw*ph∧
  0≤x∧0≤y∧1≤pw∧1≤ph∧x+pw≤W∧y+ph≤Hi∧W≤16∧Hi≤16∧(∀H':zn,z3j c H H'→Own H' c ((putS l q W pw x y (pw*ph).toNat).map fF)→K H')):zor p part x y H K:=h
def zdc:Env:=envOf []
def z18d (args:List Value) (H:zn):(Value→zn→Prop)→Prop:=match args with
 | [.pointer (some ⟨p,0,none⟩),.pointer (some ⟨part,0,none⟩),.int .i64 x,.int .i64 y]=>fun K=>zor p part x y H fun  (H':zn)=>K (.tuple #[]) H'
 | _=>fun _=>False
def z19g:FSpec:={F:=z18d,quiet:=false,tame:=false}
theorem f1zz_vc (p part:Nat) (x y:Int) (H:zn) (K:KT):zt Tryz.prog zdc Tryz.f128 [.pointer (some ⟨p,0,none⟩),.pointer (some ⟨part,0,none⟩),.int .i64 x,.int .i64 y] H K=
 (z1j (exL Tryz.prog zdc (cl (cl (cr (zo Tryz.f128)))) 271 0 [(0,0)]) (.pointer (some ⟨p,0,none⟩)::.pointer (some ⟨part,0,none⟩)::.int .i64 x::.int .i64 y::ud4 (.int .i64 0::ud47 [])) H (zu 0 (retK Tryz.prog Tryz.f128 K))):=by kernel_rfl
abbrev f1zz_P1 (p part:Nat) (x y i:Int)  :List Value:=(.pointer (some ⟨p,0,none⟩)::.pointer (some ⟨part,0,none⟩)::.int .i64 x::.int .i64 y::ud4 (.int .i64 i::ud47 []))
theorem f1zz_r1 (p part:Nat) (x y i:Int)  (H:zn) (R:Post):exL Tryz.prog zdc (cl (cl (cr (zo Tryz.f128)))) 271 0 [(0,0)] (f1zz_P1 p part x y i) H R=
 (∃x1:Int,  rdC H part 0=some (.int .i64 x1)∧∃x2:Int,  rdC H part 1=some (.int .i64 x2)∧Br (decide ((i:Int)<IntKind.wrap .i64 (x1*x2))) (∃fj:OA,∃(aj tj:Nat),  rdC H p 2=some (.slice fj aj tj)∧∃x4:Int,  rdC H part 0=some (.int .i64 x4)∧x4≠(0:Int)∧∃x5:Int,  rdC H p 0=some (.int .i64 x5)∧∃x6:Int,  rdC H part 0=some (.int .i64 x6)∧x6≠(0:Int)∧∃uj:OA,∃(zi tk:Nat),  rdC H part 2=some (.slice uj zi tk)∧(0:Int)≤i∧i<(zi:Int)∧∃b1 f1,(uj:OA)=some ⟨b1,f1,none⟩∧∃x8:Nat,  rdC H b1 (f1+(i:Int).toNat*1)=some (.float .f32 x8)∧(0:Int)≤IntKind.wrap .i64 ((IntKind.wrap .i64 ((IntKind.wrap .i64 ((IntKind.wrap .i64 (y+(IntKind.wrap .i64 (Int.tdiv i x4))))*x5))+x))+(Int.tmod i x6))∧IntKind.wrap .i64 ((IntKind.wrap .i64 ((IntKind.wrap .i64 ((IntKind.wrap .i64 (y+(IntKind.wrap .i64 (Int.tdiv i x4))))*x5))+x))+(Int.tmod i x6))<(aj:Int)∧∃b2 f2,(fj:OA)=some ⟨b2,f2,none⟩∧isOwn H b2∧(∃l,rdN H b2 (f2+(IntKind.wrap .i64 ((IntKind.wrap .i64 ((IntKind.wrap .i64 ((IntKind.wrap .i64 (y+(IntKind.wrap .i64 (Int.tdiv i x4))))*x5))+x))+(Int.tmod i x6)):Int).toNat*1) 1=some l)∧Lt (setC H b2 (f2+(IntKind.wrap .i64 ((IntKind.wrap .i64 ((IntKind.wrap .i64 ((IntKind.wrap .i64 (y+(IntKind.wrap .i64 (Int.tdiv i x4))))*x5))+x))+(Int.tmod i x6)):Int).toNat*1) (.float .f32 x8)) fun H1=>R .normal (.pointer (some ⟨p,0,none⟩)::.pointer (some ⟨part,0,none⟩)::.int .i64 x::.int .i64 y::ud4 (.int .i64 (IntKind.wrap .i64 (i+1))::ud47 [])) H1) (R (.exit 0) (ud56 []) H)):=by kernel_rfl
def f1zz_I1 (p part:Nat) (x y:Int) (Inv:Nat→Int→zn→Prop):Nat→List Value→zn→Prop:=fun μ tm H=>∃i:Int,tm=(f1zz_P1 p part x y i)∧Inv μ i H
theorem f1zz_L1 (p part:Nat) (x y:Int) {Q:Post} (Inv:Nat→Int→zn→Prop) (ν:Nat) (i:Int)  (H:zn) (h0:Inv ν i H)
  (hs:∀(μ:Nat) (i:Int)  (H:zn),Inv μ i H→exL Tryz.prog zdc (cl (cl (cr (zo Tryz.f128)))) 271 0 [(0,0)] (f1zz_P1 p part x y i) H (zx (f1zz_I1 p part x y Inv) μ Q)):z1j (exL Tryz.prog zdc (cl (cl (cr (zo Tryz.f128)))) 271 0 [(0,0)]) (f1zz_P1 p part x y i) H Q:=
 ⟨f1zz_I1 p part x y Inv,ν,⟨i,rfl,h0⟩,fun μ tm H h=>by obtain ⟨i,rfl,hI⟩:=h;exact hs μ i  H hI⟩
theorem f1zz_n1 {p part:Nat} {x y:Int} {Q:Post} {Inv:Nat→Int→zn→Prop} {μ:Nat} (μ':Nat) {i:Int}  {H:zn} (hm:μ'<μ) (hI:Inv μ' i H):zx (f1zz_I1 p part x y Inv) μ Q .normal (f1zz_P1 p part x y i) H:=⟨μ',hm,i,rfl,hI⟩
theorem f1zz_x1_0  (H:zn) (K:KT)  {I:Nat→List Value→zn→Prop} {μ:Nat}:zx I μ (zu 0 (retK Tryz.prog Tryz.f128 K)) (.exit 0) (ud56 []) H=
 (K (.tuple #[]) H):=by kernel_rfl
theorem zu9:∀g,FnOk Tryz.prog g (zdc g):=FnOk.envOf (by
 intro x hx;cases hx)
theorem f1zz_main (p part:Nat) (x y:Int) (H:zn) (K:KT) (h:zor p part x y H fun  (H':zn)=>K (.tuple #[]) H'):zt Tryz.prog zdc Tryz.f128 [.pointer (some ⟨p,0,none⟩),.pointer (some ⟨part,0,none⟩),.int .i64 x,.int .i64 y] H K:=by
 rw [f1zz_vc]
 obtain ⟨W,Hi,c,e,l,pw,ph,qa,qn,qe,q,h1,oc,h2,iq,hne,pc,qc,hl,hq,x0,y0,w1,w2,wx,wy,wW,wH,hk⟩:=h
 obtain rfl:=iq.eqn
 have hm:=z4u (W:=pw) (H:=ph) w1 ω2 w2 ω2
 obtain ⟨n,hn⟩:∃n:Nat,pw*ph=(n:Int):=⟨(pw*ph).toNat,by omega⟩
 rw [hn,Int.toNat_natCast] at hk
 have cl:=oc.lt
 refine f1zz_L1 p part x y (fun μ t H'=>∃k:Nat,t=(k:Int)∧k≤n∧μ=n-k∧z3j c H H'∧Own H' c ((putS l q W pw x y k).map fF)) n 0 H
  ⟨0,rfl,Nat.zero_le _,rfl,⟨Nat.le_refl _,fun _ _ _=>rfl⟩,oc⟩ ?_
 intro μ t H' hI
 obtain ⟨k,rfl,hkm,rfl,kp,oc'⟩:=hI
 have r1:=zi7 kp pc h1
 have r2:=zi7 kp qc h2
 have i2:=z15e kp iq hne
 have rp:∀i,i<3→rdC H' p i=[Value.int .i64 W,.int .i64 Hi,.slice (some ⟨c,0,none⟩) l.length e][i]? :=fun i hi=>z1g r1 i hi
 have rq:∀i,i<3→rdC H' part i=[Value.int .i64 pw,.int .i64 ph,.slice qa q.length qe][i]? :=fun i hi=>z1g r2 i hi
 rw [f1zz_r1]
 refine ⟨pw,(rq 0 ω20).trans rfl,ph,(rq 1 ω20).trans rfl,?_⟩
 rw [show IntKind.wrap .i64 (pw*ph)=(n:Int) from (zp ω2 ω2).trans hn]
 refine Br.intro (fun hd=>?_) (fun hd=>?_)
 ·have hd':=odt hd
  obtain ⟨c1,c2,c3,c4,c5,c6,c7⟩:=zhw (x:=x) (y:=y) (W:=W) (H:=Hi) (w:=pw) (h:=ph) (i:=(k:Int)) x0 y0 w1 w2 wx wy wW wH ω2 ω2
  rw [show IntKind.wrap .i64 ((k:Int)+1)=(k:Int)+1 from zp ω2 ω2]
  have hkq:k<q.length:=by omega
  obtain ⟨bq,oq,eq⟩:=i2.pos ω2
  refine ⟨some ⟨c,0,none⟩,l.length,e,(rp 2 ω20).trans rfl,pw,(rq 0 ω20).trans rfl,by omega,W,(rp 0 ω20).trans rfl,pw,(rq 0 ω20).trans rfl,by omega,qa,q.length,qe,(rq 2 ω20).trans rfl,by omega,by omega,bq,oq,eq,q.getD k 0,i2.rd (Grow.refl H') eq (by rw [Int.toNat_natCast];exact hkq) 0,?_⟩
  rw [show IntKind.wrap .i64 (Int.tdiv (k:Int) pw)=Int.tdiv (k:Int) pw from zp ω2 ω2,show IntKind.wrap .i64 (y+Int.tdiv (k:Int) pw)=y+Int.tdiv (k:Int) pw from zp ω2 ω2,show IntKind.wrap .i64 ((y+Int.tdiv (k:Int) pw)*W)=(y+Int.tdiv (k:Int) pw)*W from zp ω2 ω2,show IntKind.wrap .i64 ((y+Int.tdiv (k:Int) pw)*W+x)=(y+Int.tdiv (k:Int) pw)*W+x from zp ω2 ω2,show IntKind.wrap .i64 ((y+Int.tdiv (k:Int) pw)*W+x+Int.tmod (k:Int) pw)=(y+Int.tdiv (k:Int) pw)*W+x+Int.tmod (k:Int) pw from zp ω2 ω2]
  refine ⟨by omega,by omega,c,0,rfl,?_⟩
  have lc:0+((y+Int.tdiv (k:Int) pw)*W+x+Int.tmod (k:Int) pw).toNat*1<((putS l q W pw x y k).map fF).length:=by rw [List.length_map,z8l];omega
  refine Lt.set oc' lc fun H1 l1 o1 k1=>?_
  refine f1zz_n1 (n-(k+1)) ω2 ⟨k+1,by omega,by omega,rfl,kp.trans k1,?_⟩
  have e3:0+((y+Int.tdiv (k:Int) pw)*W+x+Int.tmod (k:Int) pw).toNat*1=((y+Int.tdiv (k:Int) pw)*W+x+Int.tmod (k:Int) pw).toNat:=by omega
  have o2:=o1
  rw [e3,show (Value.float .f32 (q.getD k 0))=fF (q.getD k 0) from rfl,←List.map_set] at o2
  exact o2
 ·have hd':=odf hd
  obtain rfl:k=n:=by omega
  rw [f1zz_x1_0]
  exact hk H' kp oc'
theorem f1zz_ok:FnOk Tryz.prog 128 z19g:=FnOk.bodyF mix_ok zu9 Tryz.func128 rfl ω9 ω9 fun args H=>by
 unfold z18d
 split
 ·refine ⟨?_,?_,?_,?_,fun K hk=>f1zz_main _ _ _ _ H K hk⟩
  ·intro K K' h hk;obtain ⟨W,Hi,c,e,l,pw,ph,qa,qn,qe,q,h1,oc,h2,iq,hne,pc,qc,hl,hq,x0,y0,w1,w2,wx,wy,wW,wH,k⟩:=hk;exact ⟨W,Hi,c,e,l,pw,ph,qa,qn,qe,q,h1,oc,h2,iq,hne,pc,qc,hl,hq,x0,y0,w1,w2,wx,wy,wW,wH,(fun H' kk ow=>h _ _ (k H' kk ow))⟩
  ·nofun
  ·intro K hk;obtain ⟨W,Hi,c,e,l,pw,ph,qa,qn,qe,q,h1,oc,h2,iq,hne,pc,qc,hl,hq,x0,y0,w1,w2,wx,wy,wW,wH,k⟩:=hk;exact (oc.putX _).elim fun H1 h=>⟨_,_,k H1 h.1 h.2⟩
  ·nofun
 ·exact Nice.no
abbrev PicT:=Int×Int×LN×Bool
def z6a (q:PicT) (f:Int→Int→LN→PicT):PicT:=bif q.2.2.2 then f q.1 q.2.1 q.2.2.1 else (0,0,[],false)
def z2e (f:Nat→Int→Int→LN→PicT):Nat→Nat→Int→Int→LN→PicT
 | 0,_,a,b,l=>(a,b,l,true)
 | n+1,k,a,b,l=>z6a (f k a b l) fun a b l=>z2e f n (k+1) a b l
theorem z1u {q:PicT} {f:Int→Int→LN→PicT} (h:q.2.2.2=true):z6a q f=f q.1 q.2.1 q.2.2.1:=by unfold z6a;rw [h,cond_true]
theorem z4e {q:PicT} {f:Int→Int→LN→PicT} (h:q.2.2.2=false):z6a q f=(0,0,[],false):=by unfold z6a;rw [h,cond_false]
theorem z5d {f:Nat→Int→Int→LN→PicT} {n k:Nat} {a b:Int} {l:LN}:z2e f (n+1) k a b l=z6a (f k a b l) fun a b l=>z2e f n (k+1) a b l:=rfl
def z6o (ws:LN) (sc:Nat) (back:Bool) (k:Nat) (W Hi:Int) (l:LN):PicT:=
 bif (back==((k:Int)==0)) then z6a (z2n ws sc (z1v W Hi l).1 (z1v W Hi l).2.1 (z1v W Hi l).2.2 back) fun a b c=>((z1v a b c).1,(z1v a b c).2.1,(z1v a b c).2.2,true)
 else z2n ws sc W Hi l back
theorem z15v (ws:LN) (sc:Nat) (back:Bool) (k:Nat) (W Hi:Int) (l:LN):z6o ws sc back k W Hi l=
 (bif (back==((k:Int)==0)) then z6a (z2n ws sc (z1v W Hi l).1 (z1v W Hi l).2.1 (z1v W Hi l).2.2 back) fun a b c=>((z1v a b c).1,(z1v a b c).2.1,(z1v a b c).2.2,true)
 else z2n ws sc W Hi l back):=rfl
def zgn (ws:LN) (sc:Nat) (pW:Int) (l:LN) (wide high:Int) (back:Bool):Bool×LN:=
 bif (z2e (z6o ws sc back) 2 0 wide high (picL wide.toNat high.toNat (z5p l 0 0 pW))).2.2.2 then (true,putS l (z2e (z6o ws sc back) 2 0 wide high (picL wide.toNat high.toNat (z5p l 0 0 pW))).2.2.1 pW wide 0 0 (wide*high).toNat) else (false,l)
def zoj (s p:Nat) (wide high:Int) (back:Bool) (H:zn) (K:Bool→zn→Prop):Prop:=
 ∃(wa:OA) (wn we sc:Nat) (ws:LN) (pW pH:Int) (c e:Nat) (l:LN),rdN H s 0 2=some [.slice wa wn we,.float .f32 sc]∧IsL fF H wa wn ws∧ws.length<1073741824∧(∀x,wa=some x→x.block≠c)∧rdN H p 0 3=some [.int .i64 pW,.int .i64 pH,.slice (some ⟨c,0,none⟩) l.length e]∧Own H c (l.map fF)∧s≠c∧p≠c∧(l.length:Int)=pW*pH∧pW≤16∧pH≤16∧
  1≤wide∧wide≤pW∧1≤high∧high≤pH∧(∀H':zn,z3j c H H'→Own H' c ((zgn ws sc pW l wide high back).2.map fF)→K ((zgn ws sc pW l wide high back).1) H')
theorem z11h {s p:Nat} {wide high:Int} {back:Bool} {H:zn} {K:Bool→zn→Prop} (h:∃(wa:OA) (wn we sc:Nat) (ws:LN) (pW pH:Int) (c e:Nat) (l:LN),rdN H s 0 2=some [.slice wa wn we,.float .f32 sc]∧IsL fF H wa wn ws∧ws.length<1073741824∧(∀x,wa=some x→x.block≠c)∧rdN H p 0 3=some [.int .i64 pW,.int .i64 pH,.slice (some ⟨c,0,none⟩) l.length e]∧Own H c (l.map fF)∧s≠c∧p≠c∧(l.length:Int)=pW*pH∧pW≤16∧pH≤16∧
  1≤wide∧wide≤pW∧1≤high∧high≤pH∧(∀H':zn,z3j c H H'→Own H' c ((zgn ws sc pW l wide high back).2.map fF)→K ((zgn ws sc pW l wide high back).1) H')):zoj s p wide high back H K:=h
def za7:Env:=envOf [(121,z18w),(126,z19b),(127,z18t),(128,z19g)]
def z17s (args:List Value) (H:zn):(Value→zn→Prop)→Prop:=match args with
 | [.pointer (some ⟨s,0,none⟩),.pointer (some ⟨p,0,none⟩),.int .i64 wide,.int .i64 high,.bool back]=>fun K=>zoj s p wide high back H fun (r1:Bool) (H':zn)=>K (.bool r1) H'
 | _=>fun _=>False
def z18z:FSpec:={F:=z17s,quiet:=false,tame:=false}
theorem z1dd (s p:Nat) (wide high:Int) (back:Bool) (H:zn) (K:KT):zt Tryz.prog za7 Tryz.f103 [.pointer (some ⟨s,0,none⟩),.pointer (some ⟨p,0,none⟩),.int .i64 wide,.int .i64 high,.bool back] H K=
 (zoh p 0 0 wide high H fun (r1:Int) (r2:Int) (a1:OA) (r3:Nat) (r4:Nat) (H1:zn)=>Al [.int .i64 0,.int .i64 0,.slice none 0 0] H1 fun b1 H2=>isOwn H2 b1∧(∃l,rdN H2 b1 0 3=some l)∧Lt (setN H2 b1 0 [.int .i64 r1,.int .i64 r2,.slice a1 r3 r4]) fun H3=>z1j (exL Tryz.prog za7 (cl (cl (cr (cl (cr (cr (zo Tryz.f103))))))) 6163 1024 [(0,2050)]) (.pointer (some ⟨s,0,none⟩)::.pointer (some ⟨p,0,none⟩)::ud2 (.bool back::ud6 (.pointer (some ⟨b1,0,none⟩)::.int .i64 0::ud30 []))) H3 (zu 0 (seqQ (exL Tryz.prog za7 (cr (cr (cr (zo Tryz.f103)))) 1024 1024 []) (retK Tryz.prog Tryz.f103 K)))):=by kernel_rfl
abbrev zdp (b1:Nat) (back:Bool) (p s:Nat) (k:Int)  :List Value:=(.pointer (some ⟨s,0,none⟩)::.pointer (some ⟨p,0,none⟩)::ud2 (.bool back::ud6 (.pointer (some ⟨b1,0,none⟩)::.int .i64 k::ud30 [])))
theorem z1dc (b1:Nat) (back:Bool) (p s:Nat) (k:Int)  (H:zn) (R:Post):exL Tryz.prog za7 (cl (cl (cr (cl (cr (cr (zo Tryz.f103))))))) 6163 1024 [(0,2050)] (zdp b1 back p s k) H R=
 (Br (decide ((k:Int)<2)) (Br (back==((k:Int)==0)) (zg6 b1 H fun (r5:Int) (r6:Int) (a2:OA) (r7:Nat) (r8:Nat) (H4:zn)=>isOwn H4 b1∧(∃l,rdN H4 b1 0 3=some l)∧Lt (setN H4 b1 0 [.int .i64 r5,.int .i64 r6,.slice a2 r7 r8]) fun H5=>zjd s b1 back H5 fun (r9:Int) (r10:Int) (a3:OA) (r11:Nat) (r12:Nat) (r13:Bool) (H6:zn)=>Al [.int .i64 0,.int .i64 0,.slice none 0 0] H6 fun b2 H7=>isOwn H7 b2∧(∃l,rdN H7 b2 0 3=some l)∧Lt (setN H7 b2 0 [.int .i64 r9,.int .i64 r10,.slice a3 r11 r12]) fun H8=>Br (!r13) (R .ret (ud10 (.bool false::ud32 [])) H8) (∃(c1 c2:Int),∃dh:OA,∃(fh eh:Nat),  rdN H8 b2 0 3=some [.int .i64 c1,.int .i64 c2,.slice dh fh eh]∧isOwn H8 b1∧(∃l,rdN H8 b1 0 3=some l)∧Lt (setN H8 b1 0 [.int .i64 c1,.int .i64 c2,.slice dh fh eh]) fun H9=>Br (back==((k:Int)==0)) (zg6 b1 H9 fun (r14:Int) (r15:Int) (a4:OA) (r16:Nat) (r17:Nat) (H10:zn)=>isOwn H10 b1∧(∃l,rdN H10 b1 0 3=some l)∧Lt (setN H10 b1 0 [.int .i64 r14,.int .i64 r15,.slice a4 r16 r17]) fun H11=>R .normal (.pointer (some ⟨s,0,none⟩)::.pointer (some ⟨p,0,none⟩)::ud2 (.bool back::ud6 (.pointer (some ⟨b1,0,none⟩)::.int .i64 (IntKind.wrap .i64 (k+1))::ud30 []))) H11) (R .normal (.pointer (some ⟨s,0,none⟩)::.pointer (some ⟨p,0,none⟩)::ud2 (.bool back::ud6 (.pointer (some ⟨b1,0,none⟩)::.int .i64 (IntKind.wrap .i64 (k+1))::ud30 []))) H9))) (zjd s b1 back H fun (r18:Int) (r19:Int) (a5:OA) (r20:Nat) (r21:Nat) (r22:Bool) (H12:zn)=>Al [.int .i64 0,.int .i64 0,.slice none 0 0] H12 fun b3 H13=>isOwn H13 b3∧(∃l,rdN H13 b3 0 3=some l)∧Lt (setN H13 b3 0 [.int .i64 r18,.int .i64 r19,.slice a5 r20 r21]) fun H14=>Br (!r22) (R .ret (ud10 (.bool false::ud32 [])) H14) (∃(c4 c5:Int),∃qh:OA,∃(th sh:Nat),  rdN H14 b3 0 3=some [.int .i64 c4,.int .i64 c5,.slice qh th sh]∧isOwn H14 b1∧(∃l,rdN H14 b1 0 3=some l)∧Lt (setN H14 b1 0 [.int .i64 c4,.int .i64 c5,.slice qh th sh]) fun H15=>Br (back==((k:Int)==0)) (zg6 b1 H15 fun (r23:Int) (r24:Int) (a6:OA) (r25:Nat) (r26:Nat) (H16:zn)=>isOwn H16 b1∧(∃l,rdN H16 b1 0 3=some l)∧Lt (setN H16 b1 0 [.int .i64 r23,.int .i64 r24,.slice a6 r25 r26]) fun H17=>R .normal (.pointer (some ⟨s,0,none⟩)::.pointer (some ⟨p,0,none⟩)::ud2 (.bool back::ud6 (.pointer (some ⟨b1,0,none⟩)::.int .i64 (IntKind.wrap .i64 (k+1))::ud30 []))) H17) (R .normal (.pointer (some ⟨s,0,none⟩)::.pointer (some ⟨p,0,none⟩)::ud2 (.bool back::ud6 (.pointer (some ⟨b1,0,none⟩)::.int .i64 (IntKind.wrap .i64 (k+1))::ud30 []))) H15)))) (R (.exit 0) (ud::.pointer (some ⟨p,0,none⟩)::ud9 (.pointer (some ⟨b1,0,none⟩)::ud31 [])) H)):=by kernel_rfl
def zn0 (b1:Nat) (back:Bool) (p s:Nat) (Inv:Nat→Int→zn→Prop):Nat→List Value→zn→Prop:=fun μ tm H=>∃k:Int,tm=(zdp b1 back p s k)∧Inv μ k H
theorem z1da (b1:Nat) (back:Bool) (p s:Nat) {Q:Post} (Inv:Nat→Int→zn→Prop) (ν:Nat) (k:Int)  (H:zn) (h0:Inv ν k H)
  (hs:∀(μ:Nat) (k:Int)  (H:zn),Inv μ k H→exL Tryz.prog za7 (cl (cl (cr (cl (cr (cr (zo Tryz.f103))))))) 6163 1024 [(0,2050)] (zdp b1 back p s k) H (zx (zn0 b1 back p s Inv) μ Q)):z1j (exL Tryz.prog za7 (cl (cl (cr (cl (cr (cr (zo Tryz.f103))))))) 6163 1024 [(0,2050)]) (zdp b1 back p s k) H Q:=
 ⟨zn0 b1 back p s Inv,ν,⟨k,rfl,h0⟩,fun μ tm H h=>by obtain ⟨k,rfl,hI⟩:=h;exact hs μ k  H hI⟩
theorem zwd {b1:Nat} {back:Bool} {p s:Nat} {Q:Post} {Inv:Nat→Int→zn→Prop} {μ:Nat} (μ':Nat) {k:Int}  {H:zn} (hm:μ'<μ) (hI:Inv μ' k H):zx (zn0 b1 back p s Inv) μ Q .normal (zdp b1 back p s k) H:=⟨μ',hm,k,rfl,hI⟩
theorem zwe (b1 p:Nat) (H:zn) (K:KT)  {I:Nat→List Value→zn→Prop} {μ:Nat}:zx I μ (zu 0 (seqQ (exL Tryz.prog za7 (cr (cr (cr (zo Tryz.f103)))) 1024 1024 []) (retK Tryz.prog Tryz.f103 K))) (.exit 0) (ud::.pointer (some ⟨p,0,none⟩)::ud9 (.pointer (some ⟨b1,0,none⟩)::ud31 [])) H=
 (zor p b1 0 0 H fun  (H18:zn)=>K (.bool true) H18):=by kernel_rfl
theorem zdq (t10:Bool) (H:zn) (K:KT)  {I:Nat→List Value→zn→Prop} {μ:Nat}:zx I μ (zu 0 (seqQ (exL Tryz.prog za7 (cr (cr (cr (zo Tryz.f103)))) 1024 1024 []) (retK Tryz.prog Tryz.f103 K))) .ret (ud10 (.bool t10::ud32 [])) H=
 (K (.bool t10) H):=by kernel_rfl
theorem zts:∀g,FnOk Tryz.prog g (za7 g):=FnOk.envOf (by
 intro x hx
 simp only [List.mem_cons,List.not_mem_nil,or_false] at hx
 rcases hx with rfl | rfl | rfl | rfl
 ·exact z1d0
 ·exact z1dl
 ·exact z1cp
 ·exact f1zz_ok)
theorem zwc (s p:Nat) (wide high:Int) (back:Bool) (H:zn) (K:KT) (h:zoj s p wide high back H fun (r1:Bool) (H':zn)=>K (.bool r1) H'):zt Tryz.prog za7 Tryz.f103 [.pointer (some ⟨s,0,none⟩),.pointer (some ⟨p,0,none⟩),.int .i64 wide,.int .i64 high,.bool back] H K:=by
 rw [z1dd]
 obtain ⟨wa,wn,we,sc,ws,pW,pH,c,e,l,h1,iw,bw,hwc,h2,oc,hsc,hpc,hl,hW,hH,w1,w2,w3,w4,hk⟩:=h
 obtain rfl:=iw.eqn
 have ep:zgn ws sc pW l wide high back=(bif (z2e (z6o ws sc back) 2 0 wide high (picL wide.toNat high.toNat (z5p l 0 0 pW))).2.2.2 then (true,putS l (z2e (z6o ws sc back) 2 0 wide high (picL wide.toNat high.toNat (z5p l 0 0 pW))).2.2.1 pW wide 0 0 (wide*high).toNat) else (false,l)):=rfl
 rw [ep] at hk
 have cl:=oc.lt
 have hll:=z4u (W:=pW) (H:=pH) ω2 hW ω2 hH
 have hwh:=z4u (W:=wide) (H:=high) w1 ω2 w3 ω2
 have il:IsL fF H (some ⟨c,0,none⟩) l.length l:=(oc.ownS rfl (Nat.zero_le c)).isL
 refine z11e ⟨pW,pH,_,_,e,l,h2,il,by omega,by omega,by omega,w1,w3,by omega,by omega,hW,hH,hl,fun a n ne H1 g1 wc=>?_⟩
 rw [zra pW pH l 0 0 wide high w1 w3] at wc ⊢
 dsimp only at wc ⊢
 have hC:((picL wide.toNat high.toNat (z5p l 0 0 pW)).length:Int)=wide*high:=by rw [z2u,Int.natCast_mul,Int.toNat_of_nonneg ω2,Int.toNat_of_nonneg ω2,Int.mul_comm]
 generalize picL wide.toNat high.toNat (z5p l 0 0 pW)=C at *
 refine Al.intro fun b1 H2 e2 l2 g2 o2=>Lt.setN o2 (n:=3) ω20 rfl fun H3 l3 o3 k3=>?_
 have upc:=wc.up
 have loc:=wc.lo
 have gg1:=g1.1
 have G3:Grow H H3:=(g1.trans g2).keep ω2 k3
 have wc3:=(wc.grow g2).keepA (fun x y hx hy=>by cases hx;have:=upc y hy;show b1≠_;omega) (OwnS.keep1 k3)
 refine z1da b1 back p s (fun μ t H'=>∃(k:Nat) (nl:LN),t=(k:Int)∧k≤2∧μ=2-k∧(nl.length:Int)=wide*high∧z2e (z6o ws sc back) (2-k) k wide high nl=z2e (z6o ws sc back) 2 0 wide high C∧z3j b1 H3 H'∧∃(na:OA) (nn ne:Nat),Own H' b1 [.int .i64 wide,.int .i64 high,.slice na nn ne]∧OwnS fF H' H.length na nn ne nl) 2 0 H3
  ⟨0,C,rfl,Nat.zero_le _,rfl,hC,rfl,⟨Nat.le_refl _,fun _ _ _=>rfl⟩,a,n,ne,o3,wc3⟩ ?_
 intro μ t H' hI
 obtain ⟨k,nl,rfl,hkm,rfl,hnl,hit,kp,na,nn,ne',ob,os⟩:=hI
 have lkp:=kp.1
 have GG:Grow H H':=G3.keep ω2 kp
 have os2:=os.len
 subst os2
 have lo:=os.lo
 have up:=os.up
 rw [z1dc]
 refine Br.intro (fun hd=>?_) (fun hd=>?_)
 ·have hd':=odt hd
  have hk2:k<2:=by omega
  obtain ⟨j,hj⟩:∃j,2-k=j+1:=⟨2-k-1,by omega⟩
  rw [hj,z5d] at hit
  rw [z15v] at hit
  rw [show IntKind.wrap .i64 ((k:Int)+1)=(k:Int)+1 from zp ω2 ω2]
  refine Br.intro (fun hc=>?_) (fun hc=>?_)
  ·rw [hc,cond_true] at hit
   refine zol ⟨wide,high,na,nl.length,ne',nl,(ob.rdN (nbl rfl)).trans rfl,os.isL,by omega,w1,by omega,w3,by omega,hnl,fun a4 n4 e4 H4 g4 w4=>?_⟩
   obtain ⟨s1,s2,s3⟩:=ze3 wide high nl w1 w3
   generalize z1v wide high nl=q at *
   have gg4:=g4.1
   refine Lt.setN (ob.grow g4) (n:=3) (nbl rfl) rfl fun H5 l5 o5 k5=>?_
   have obl:=ob.lt
   have lo4:=w4.lo
   have w5:=w4.keepA (fun x y hx hy=>by cases hx;have:=lo4 y hy;show b1≠_;omega) (OwnS.keep1 k5)
   have G5:Grow H H5:=(GG.trans g4).keep ω2 k5
   refine zod ⟨wa,ws.length,we,sc,q.1,q.2.1,a4,n4,e4,ws,q.2.2,zq G5 h1,(o5.rdN (nbl rfl)).trans rfl,iw.grow G5,w5.isL,bw,by omega,by omega,by omega,by omega,by omega,by rw [s1,s2,Int.mul_comm];exact s3,fun a6 n6 e6 H6 g6 w6=>?_⟩
   have md:=z8b (ws:=ws) (sc:=sc) (W:=q.1) (Hi:=q.2.1) (l:=q.2.2) (back:=back) ω2 ω2 (by rw [s1,s2,Int.mul_comm];exact s3)
   generalize z2n ws sc q.1 q.2.1 q.2.2 back=r at *
   have gg6:=g6.1
   have lo6:=w6.lo
   have up6:=w6.up
   refine Al.intro fun b2 H7 e7 l7 g7 o7=>Lt.setN o7 (n:=3) ω20 rfl fun H8 l8 o8 k8=>?_
   have w8:=(w6.grow g7).keepA (fun x y hx hy=>by cases hx;have:=up6 y hy;show b2≠_;omega) (OwnS.keep1 k8)
   have ob8:=((o5.grow g6).grow g7).keep (b':=b2) ω2 k8
   have G8:Grow H H8:=((G5.trans g6).trans g7).keep (by have:=G5.1;omega) k8
   refine Br.intro (fun hp=>?_) (fun hp=>?_)
   ·rw [z4e (z1e hp),z4e rfl] at hit
    rw [←hit] at hk
    rw [zdq]
    exact hk H8 ⟨G8.1,fun i hi _=>G8.2 i hi⟩ (oc.grow G8)
   ·rw [z1u (z1a hp),z1u rfl] at hit
    obtain ⟨d1,d2,d3⟩:=md (z1a hp)
    refine ⟨r.1,r.2.1,a6,n6,e6,(o8.rdN (nbl rfl)).trans rfl,?_⟩
    refine Lt.setN ob8 (n:=3) (nbl rfl) rfl fun H9 l9 o9 k9=>?_
    have w9:=w8.keepA (fun x y hx hy=>by cases hx;have:=lo6 y hy;show b1≠_;omega) (OwnS.keep1 k9)
    refine Br.intro (fun hc2=>?_) (fun hc2=>by rw [hc] at hc2;cases hc2)
    have dr:(r.2.2.1.length:Int)=r.1*r.2.1:=by rw [d1,d2];exact d3
    refine zol ⟨r.1,r.2.1,a6,n6,e6,r.2.2.1,(o9.rdN (nbl rfl)).trans rfl,w9.isL,by rw [d1,d2,s1,s2] at dr;rw [Int.mul_comm] at dr;omega,by omega,by omega,by omega,by omega,dr,fun a10 n10 e10 H10 g10 w10=>?_⟩
    obtain ⟨t1,t2,t3⟩:=ze3 r.1 r.2.1 r.2.2.1 ω2 ω2
    generalize z1v r.1 r.2.1 r.2.2.1=v at *
    have gg10:=g10.1
    refine Lt.setN (o9.grow g10) (n:=3) (nbl rfl) rfl fun H11 l11 o11 k11=>?_
    have lo10:=w10.lo
    have e1:v.1=wide:=by omega
    have e2:v.2.1=high:=by omega
    have o11':Own H11 b1 [.int .i64 v.1,.int .i64 v.2.1,.slice a10 n10 e10]:=o11
    rw [e1,e2] at o11' hit
    refine zwd (2-(k+1)) ω2 ⟨k+1,v.2.2,by omega,by omega,rfl,by rw [t3,d1,d2,s1,s2,Int.mul_comm],by rw [show 2-(k+1)=j by omega];exact hit,?_,a10,n10,e10,o11',?_⟩
    ·refine ⟨by omega,fun i hi hne=>?_⟩
     rw [k11.2 i ω2 hne,g10.2 i ω2,k9.2 i ω2 hne,k8.2 i ω2 ω2,g7.2 i ω2,g6.2 i ω2,k5.2 i ω2 hne,g4.2 i ω2,kp.2 i hi hne]
    ·exact (w10.keepA (fun x y hx hy=>by cases hx;have:=lo10 y hy;show b1≠_;omega) (OwnS.keep1 k11)).weak (by have:=GG.1;omega)
  ·rw [hc,cond_false] at hit
   refine zod ⟨wa,ws.length,we,sc,wide,high,na,nl.length,ne',ws,nl,zq GG h1,(ob.rdN (nbl rfl)).trans rfl,iw.grow GG,os.isL,bw,by omega,w1,by omega,w3,by omega,hnl,fun a6 n6 e6 H6 g6 w6=>?_⟩
   have md:=z8b (ws:=ws) (sc:=sc) (W:=wide) (Hi:=high) (l:=nl) (back:=back) w1 w3 hnl
   generalize z2n ws sc wide high nl back=r at *
   have gg6:=g6.1
   have obl:=ob.lt
   have lo6:=w6.lo
   have up6:=w6.up
   refine Al.intro fun b2 H7 e7 l7 g7 o7=>Lt.setN o7 (n:=3) ω20 rfl fun H8 l8 o8 k8=>?_
   have w8:=(w6.grow g7).keepA (fun x y hx hy=>by cases hx;have:=up6 y hy;show b2≠_;omega) (OwnS.keep1 k8)
   have ob8:=((ob.grow g6).grow g7).keep (b':=b2) ω2 k8
   have G8:Grow H H8:=((GG.trans g6).trans g7).keep (by have:=GG.1;omega) k8
   refine Br.intro (fun hp=>?_) (fun hp=>?_)
   ·rw [z4e (z1e hp)] at hit
    rw [←hit] at hk
    rw [zdq]
    exact hk H8 ⟨G8.1,fun i hi _=>G8.2 i hi⟩ (oc.grow G8)
   ·rw [z1u (z1a hp)] at hit
    obtain ⟨d1,d2,d3⟩:=md (z1a hp)
    refine ⟨r.1,r.2.1,a6,n6,e6,(o8.rdN (nbl rfl)).trans rfl,?_⟩
    refine Lt.setN ob8 (n:=3) (nbl rfl) rfl fun H9 l9 o9 k9=>?_
    have w9:=w8.keepA (fun x y hx hy=>by cases hx;have:=lo6 y hy;show b1≠_;omega) (OwnS.keep1 k9)
    refine Br.intro (fun hc2=>by rw [hc] at hc2;cases hc2) (fun hc2=>?_)
    have o9':Own H9 b1 [.int .i64 r.1,.int .i64 r.2.1,.slice a6 n6 e6]:=o9
    rw [d1,d2] at o9' hit
    refine zwd (2-(k+1)) ω2 ⟨k+1,r.2.2.1,by omega,by omega,rfl,d3,by rw [show 2-(k+1)=j by omega];exact hit,?_,a6,n6,e6,o9',?_⟩
    ·refine ⟨by omega,fun i hi hne=>?_⟩
     rw [k9.2 i ω2 hne,k8.2 i ω2 ω2,g7.2 i ω2,g6.2 i ω2,kp.2 i hi hne]
    ·exact w9.weak (by have:=GG.1;omega)
 ·have hd':=odf hd
  obtain rfl:k=2:=by omega
  rw [Nat.sub_self] at hit
  rw [←hit] at hk
  rw [zwe]
  refine z11p ⟨pW,pH,c,e,l,wide,high,na,nl.length,ne',nl,zq GG h2,oc.grow GG,(ob.rdN (nbl rfl)).trans rfl,os.isL,fun x hx=>by have:=lo x hx;omega,hpc,by omega,hl,hnl,by omega,by omega,w1,w3,by omega,by omega,hW,hH,fun H18 k18 o18=>?_⟩
  exact hk H18 ⟨Nat.le_trans GG.1 k18.1,fun i hi hne=>(k18.2 i (by have:=GG.1;omega) hne).trans (GG.2 i hi)⟩ o18
theorem z1db:FnOk Tryz.prog 103 z18z:=FnOk.bodyF mix_ok zts Tryz.func103 rfl ω9 ω9 fun args H=>by
 unfold z17s
 split
 ·refine ⟨?_,?_,?_,?_,fun K hk=>zwc _ _ _ _ _ H K hk⟩
  ·intro K K' h hk;obtain ⟨wa,wn,we,sc,ws,pW,pH,c,e,l,h1,iw,bw,hwc,h2,oc,hsc,hpc,hl,hW,hH,w1,w2,w3,w4,k⟩:=hk;exact ⟨wa,wn,we,sc,ws,pW,pH,c,e,l,h1,iw,bw,hwc,h2,oc,hsc,hpc,hl,hW,hH,w1,w2,w3,w4,(fun H' kk ow=>h _ _ (k H' kk ow))⟩
  ·nofun
  ·intro K hk;obtain ⟨wa,wn,we,sc,ws,pW,pH,c,e,l,h1,iw,bw,hwc,h2,oc,hsc,hpc,hl,hW,hH,w1,w2,w3,w4,k⟩:=hk;exact (oc.putX _).elim fun H1 h=>⟨_,_,k H1 h.1 h.2⟩
  ·nofun
 ·exact Nice.no
def z8k (Q:Int→Int→LN→PicT) (W Hi:Int) (l:LN) (w h:Int):PicT:=bif (Q w h (picL w.toNat h.toNat (z5p l 0 0 W))).2.2.2 then (W,Hi,putS l (Q w h (picL w.toNat h.toNat (z5p l 0 0 W))).2.2.1 W w 0 0 (w*h).toNat,true) else (0,0,[],false)
def zmc (ws:LN) (sc:Nat) (W Hi:Int) (back:Bool) (kk a b:Int) (l:LN):PicT:=z8k (fun W Hi l=>z2e (z6o ws sc back) 2 0 W Hi l) a b l (zr W Hi kk).1 (zr W Hi kk).2
theorem z1aa {H:zn} {b off n:Nat} {l:List Value} (h:rdN H b off n=some l):b<H.length:=by
 unfold rdN rdB at h
 by_cases hb:b<H.length
 ·exact hb
 ·rw [List.getElem?_eq_none ω2] at h;cases h
theorem z1kd {α:Type} {f:α→Value} {H:zn} {a:OA} {n:Nat} {xs:List α} (h:IsL f H a n xs) (hn:1≤n):∀x,a=some x→x.block<H.length:=by
 intro x hx
 obtain ⟨b,off,rfl,hc⟩:=h.cell ω2
 cases hx
 have hl:=h.len
 have hx0:xs[0]? =some (xs[0]'ω2):=List.getElem?_eq_getElem ω2
 have hr:=hc 0 _ hx0
 show b<H.length
 unfold rdC rdB at hr
 by_cases hb:b<H.length
 ·exact hb
 ·rw [List.getElem?_eq_none ω2] at hr;cases hr
def z3i (ws:LN) (sc:Nat) (W Hi:Int) (l:LN) (levels:Int):PicT:=z2e (fun (k:Nat) a b l=>zmc ws sc W Hi false (k:Int) a b l) levels.toNat 0 W Hi l
def zoi (s p:Nat) (levels:Int) (H:zn) (K:Int→Int→OA→Nat→Nat→Bool→zn→Prop):Prop:=
 ∃(wa:OA) (wn we sc:Nat) (ws:LN) (W Hi:Int) (pa:OA) (pn pe:Nat) (l:LN),rdN H s 0 2=some [.slice wa wn we,.float .f32 sc]∧IsL fF H wa wn ws∧ws.length<1073741824∧1≤wn∧rdN H p 0 3=some [.int .i64 W,.int .i64 Hi,.slice pa pn pe]∧IsL fF H pa pn l∧1≤W∧W≤16∧1≤Hi∧Hi≤16∧(l.length:Int)=W*Hi∧1≤levels∧levels≤4∧
  (∀(jd:OA) (pd od:Nat),∀H':zn,Grow H H'→OwnS fF H' H.length jd pd od (z3i ws sc W Hi l levels).2.2.1→K (z3i ws sc W Hi l levels).1 (z3i ws sc W Hi l levels).2.1 jd pd od (z3i ws sc W Hi l levels).2.2.2 H')
theorem z11g {s p:Nat} {levels:Int} {H:zn} {K:Int→Int→OA→Nat→Nat→Bool→zn→Prop} (h:∃(wa:OA) (wn we sc:Nat) (ws:LN) (W Hi:Int) (pa:OA) (pn pe:Nat) (l:LN),rdN H s 0 2=some [.slice wa wn we,.float .f32 sc]∧IsL fF H wa wn ws∧ws.length<1073741824∧1≤wn∧rdN H p 0 3=some [.int .i64 W,.int .i64 Hi,.slice pa pn pe]∧IsL fF H pa pn l∧1≤W∧W≤16∧1≤Hi∧Hi≤16∧(l.length:Int)=W*Hi∧1≤levels∧levels≤4∧
  (∀(jd:OA) (pd od:Nat),∀H':zn,Grow H H'→OwnS fF H' H.length jd pd od (z3i ws sc W Hi l levels).2.2.1→K (z3i ws sc W Hi l levels).1 (z3i ws sc W Hi l levels).2.1 jd pd od (z3i ws sc W Hi l levels).2.2.2 H')):zoi s p levels H K:=h
def za6:Env:=envOf [(101,z19f),(102,zum),(103,z18z)]
def z17r (args:List Value) (H:zn):(Value→zn→Prop)→Prop:=match args with
 | [.pointer (some ⟨s,0,none⟩),.pointer (some ⟨p,0,none⟩),.int .i64 levels]=>fun K=>zoi s p levels H fun (xc:Int) (vc:Int) (ta:OA) (xa:Nat) (ua:Nat) (r2:Bool) (H':zn)=>K (.tuple #[.agg #[.int .i64 xc,.int .i64 vc,.slice ta xa ua],.bool r2]) H'
 | _=>fun _=>False
def z18y:FSpec:={F:=z17r,quiet:=false,tame:=false}
theorem z1d9 (s p:Nat) (levels:Int) (H:zn) (K:KT):zt Tryz.prog za6 Tryz.f62 [.pointer (some ⟨s,0,none⟩),.pointer (some ⟨p,0,none⟩),.int .i64 levels] H K=
 (Al [.int .i64 0,.int .i64 0,.slice none 0 0] H fun b1 H1=>zoq p H1 fun (r1:Int) (r2:Int) (a1:OA) (r3:Nat) (r4:Nat) (H2:zn)=>Al [.int .i64 0,.int .i64 0,.slice none 0 0] H2 fun b2 H3=>isOwn H3 b2∧(∃l,rdN H3 b2 0 3=some l)∧Lt (setN H3 b2 0 [.int .i64 r1,.int .i64 r2,.slice a1 r3 r4]) fun H4=>z1j (exL Tryz.prog za6 (cl (cl (cr (cl (cr (cr (zo Tryz.f62))))))) 839 192 [(0,320)]) (.pointer (some ⟨s,0,none⟩)::.pointer (some ⟨p,0,none⟩)::.int .i64 levels::ud3 (.pointer (some ⟨b1,0,none⟩)::ud::.pointer (some ⟨b2,0,none⟩)::.int .i64 0::ud29 [])) H4 (zu 0 (seqQ (exL Tryz.prog za6 (cr (cr (cr (zo Tryz.f62)))) 192 192 []) (retK Tryz.prog Tryz.f62 K)))):=by kernel_rfl
abbrev zdo (b1 b2:Nat) (levels:Int) (p s:Nat) (k:Int)  :List Value:=(.pointer (some ⟨s,0,none⟩)::.pointer (some ⟨p,0,none⟩)::.int .i64 levels::ud3 (.pointer (some ⟨b1,0,none⟩)::ud::.pointer (some ⟨b2,0,none⟩)::.int .i64 k::ud29 []))
theorem z1d8 (b1 b2:Nat) (levels:Int) (p s:Nat) (k:Int)  (H:zn) (R:Post):exL Tryz.prog za6 (cl (cl (cr (cl (cr (cr (zo Tryz.f62))))))) 839 192 [(0,320)] (zdo b1 b2 levels p s k) H R=
 (Br (decide ((k:Int)<levels)) (∃x1:Int,  rdC H p 1=some (.int .i64 x1)∧∃x2:Int,  rdC H p 0=some (.int .i64 x2)∧zg2 x2 x1 k H fun (r5:Int) (r6:Int) (H5:zn)=>zoj s b2 r5 r6 false H5 fun (r7:Bool) (H6:zn)=>Br (!r7) (isOwn H6 b1∧(∃l,rdN H6 b1 0 3=some l)∧Lt (setN H6 b1 0 [.int .i64 0,.int .i64 0,.slice none 0 0]) fun H7=>R .ret (ud6 (.pointer (some ⟨b1,0,none⟩)::.bool false::ud31 [])) H7) (R .normal (.pointer (some ⟨s,0,none⟩)::.pointer (some ⟨p,0,none⟩)::.int .i64 levels::ud3 (.pointer (some ⟨b1,0,none⟩)::ud::.pointer (some ⟨b2,0,none⟩)::.int .i64 (IntKind.wrap .i64 (k+1))::ud29 [])) H6)) (R (.exit 0) (ud6 (.pointer (some ⟨b1,0,none⟩)::ud::.pointer (some ⟨b2,0,none⟩)::ud30 [])) H)):=by kernel_rfl
def zmy (b1 b2:Nat) (levels:Int) (p s:Nat) (Inv:Nat→Int→zn→Prop):Nat→List Value→zn→Prop:=fun μ tm H=>∃k:Int,tm=(zdo b1 b2 levels p s k)∧Inv μ k H
theorem z1d5 (b1 b2:Nat) (levels:Int) (p s:Nat) {Q:Post} (Inv:Nat→Int→zn→Prop) (ν:Nat) (k:Int)  (H:zn) (h0:Inv ν k H)
  (hs:∀(μ:Nat) (k:Int)  (H:zn),Inv μ k H→exL Tryz.prog za6 (cl (cl (cr (cl (cr (cr (zo Tryz.f62))))))) 839 192 [(0,320)] (zdo b1 b2 levels p s k) H (zx (zmy b1 b2 levels p s Inv) μ Q)):z1j (exL Tryz.prog za6 (cl (cl (cr (cl (cr (cr (zo Tryz.f62))))))) 839 192 [(0,320)]) (zdo b1 b2 levels p s k) H Q:=
 ⟨zmy b1 b2 levels p s Inv,ν,⟨k,rfl,h0⟩,fun μ tm H h=>by obtain ⟨k,rfl,hI⟩:=h;exact hs μ k  H hI⟩
theorem z1d6 {b1 b2:Nat} {levels:Int} {p s:Nat} {Q:Post} {Inv:Nat→Int→zn→Prop} {μ:Nat} (μ':Nat) {k:Int}  {H:zn} (hm:μ'<μ) (hI:Inv μ' k H):zx (zmy b1 b2 levels p s Inv) μ Q .normal (zdo b1 b2 levels p s k) H:=⟨μ',hm,k,rfl,hI⟩
theorem zwb (b1 b2:Nat) (H:zn) (K:KT)  {I:Nat→List Value→zn→Prop} {μ:Nat}:zx I μ (zu 0 (seqQ (exL Tryz.prog za6 (cr (cr (cr (zo Tryz.f62)))) 192 192 []) (retK Tryz.prog Tryz.f62 K))) (.exit 0) (ud6 (.pointer (some ⟨b1,0,none⟩)::ud::.pointer (some ⟨b2,0,none⟩)::ud30 [])) H=
 (∃(c1 c2:Int),∃dh:OA,∃(fh eh:Nat),  rdN H b2 0 3=some [.int .i64 c1,.int .i64 c2,.slice dh fh eh]∧isOwn H b1∧(∃l,rdN H b1 0 3=some l)∧Lt (setN H b1 0 [.int .i64 c1,.int .i64 c2,.slice dh fh eh]) fun H8=>∃(c4 c5:Int),∃qh:OA,∃(th sh:Nat),  rdN H8 b1 0 3=some [.int .i64 c4,.int .i64 c5,.slice qh th sh]∧K (.tuple #[.agg #[.int .i64 c4,.int .i64 c5,.slice qh th sh],.bool true]) H8):=by kernel_rfl
theorem zmz (b1:Nat) (t7:Bool) (H:zn) (K:KT)  {I:Nat→List Value→zn→Prop} {μ:Nat}:zx I μ (zu 0 (seqQ (exL Tryz.prog za6 (cr (cr (cr (zo Tryz.f62)))) 192 192 []) (retK Tryz.prog Tryz.f62 K))) .ret (ud6 (.pointer (some ⟨b1,0,none⟩)::.bool t7::ud31 [])) H=
 (∃(c7 c8:Int),∃ei:OA,∃(gi fi:Nat),  rdN H b1 0 3=some [.int .i64 c7,.int .i64 c8,.slice ei gi fi]∧K (.tuple #[.agg #[.int .i64 c7,.int .i64 c8,.slice ei gi fi],.bool t7]) H):=by kernel_rfl
theorem ztr:∀g,FnOk Tryz.prog g (za6 g):=FnOk.envOf (by
 intro x hx
 simp only [List.mem_cons,List.not_mem_nil,or_false] at hx
 rcases hx with rfl | rfl | rfl
 ·exact z1e8
 ·exact f10z_ok
 ·exact z1db)
theorem zwa (s p:Nat) (levels:Int) (H:zn) (K:KT) (h:zoi s p levels H fun (xc:Int) (vc:Int) (ta:OA) (xa:Nat) (ua:Nat) (r2:Bool) (H':zn)=>K (.tuple #[.agg #[.int .i64 xc,.int .i64 vc,.slice ta xa ua],.bool r2]) H'):zt Tryz.prog za6 Tryz.f62 [.pointer (some ⟨s,0,none⟩),.pointer (some ⟨p,0,none⟩),.int .i64 levels] H K:=by
 rw [z1d9]
 obtain ⟨wa,wn,we,sc,ws,W,Hi,pa,pn,pe,l,h1,iw,bw,w0,h2,il,w1,w2,w3,w4,hl,v1,v2,hk⟩:=h
 obtain rfl:=iw.eqn
 obtain rfl:=il.eqn
 have wlt:=z1kd iw w0
 have slt:=z1aa h1
 have plt:=z1aa h2
 have e:z3i ws sc W Hi l levels=z2e (fun (k:Nat) a b l=>zmc ws sc W Hi false (k:Int) a b l) levels.toNat 0 W Hi l:=rfl
 rw [e] at hk
 obtain ⟨m,rfl⟩:∃m:Nat,levels=(m:Int):=⟨levels.toNat,by omega⟩
 rw [Int.toNat_natCast] at hk
 have hll:=z4u (W:=W) (H:=Hi) w1 w2 w3 w4
 refine Al.intro fun b1 H1 e1 l1 g1 o1=>z11n ⟨W,Hi,pa,l.length,pe,l,zq g1 h2,il.grow g1,by omega,fun a n ne H2 g2 wo=>?_⟩
 have eo:zbl W Hi l=(W,Hi,l):=rfl
 rw [eo] at wo ⊢
 dsimp only at wo ⊢
 obtain ⟨rfl,⟨_,hn⟩ | ⟨c,rfl,oc,rfl,loc⟩⟩:=wo
 ·rw [hn] at hl;simp at hl;omega
 have clt:=oc.lt
 refine Al.intro fun b2 H3 e3 l3 g3 o3=>Lt.setN o3 (n:=3) ω20 rfl fun H4 l4 o4 k4=>?_
 have gg1:=g1.1
 have gg2:=g2.1
 have G4:Grow H H4:=((g1.trans g2).trans g3).keep ω2 k4
 have oc4:=(oc.grow g3).keep (b':=b2) ω2 k4
 have ob4:=((o1.grow g2).grow g3).keep (b':=b2) (by have:=o1.lt;omega) k4
 have hle4:=G4.1
 have hl1:=o1.lt
 refine z1d5 b1 b2 (m:Int) p s (fun μ t H'=>∃(k:Nat) (nl:LN),t=(k:Int)∧k≤m∧μ=m-k∧nl.length=l.length∧z2e (fun (k:Nat) a b l=>zmc ws sc W Hi false (k:Int) a b l) (m-k) k W Hi nl=z2e (fun (k:Nat) a b l=>zmc ws sc W Hi false (k:Int) a b l) m 0 W Hi l∧z3j c H4 H'∧Own H' c (nl.map fF)) m 0 H4
  ⟨0,l,by rfl,Nat.zero_le _,rfl,rfl,rfl,⟨Nat.le_refl _,fun _ _ _=>rfl⟩,oc4⟩ ?_
 intro μ t H' hI
 obtain ⟨k,nl,rfl,hkm,rfl,hnl,hit,kp,oc'⟩:=hI
 have lkp:=kp.1
 have GG:Grow H H':=⟨Nat.le_trans G4.1 kp.1,fun i hi=>(kp.2 i ω2 ω2).trans (G4.2 i hi)⟩
 have t1:=ob4.keep (b':=c) ω2 kp
 have t2:=o4.keep (b':=c) ω2 kp
 rw [z1d8]
 refine Br.intro (fun hd=>?_) (fun hd=>?_)
 ·have hd':=odt hd
  have hkm':k<m:=by omega
  obtain ⟨j,hj⟩:∃j,m-k=j+1:=⟨m-k-1,by omega⟩
  rw [hj,z5d] at hit
  have r2:=zq GG h2
  refine ⟨Hi,(z1g r2 1 ω20).trans rfl,W,(z1g r2 0 ω20).trans rfl,w1,w2,w3,w4,by omega,?_⟩
  obtain ⟨v3,v4,v5,v6⟩:=z4n W Hi ((k:Int)) ⟨w1,w2,w3,w4⟩
  refine z11h ⟨wa,ws.length,we,sc,ws,W,Hi,c,1,nl,zq GG h1,iw.grow GG,bw,fun x hx=>by have:=wlt x hx;omega,?_,oc',by omega,by omega,by rw [hnl];exact hl,w2,w4,v3,v4,v5,v6,fun H5 k5 o5=>?_⟩
  ·rw [hnl];exact (t2.rdN (nbl rfl)).trans rfl
  have lk5:=k5.1
  have t1':=t1.keep (b':=c) ω2 k5
  have es:zmc ws sc W Hi false (k:Int) W Hi nl=z8k (fun W Hi l=>z2e (z6o ws sc false) 2 0 W Hi l) W Hi nl (zr W Hi ((k:Int))).1 (zr W Hi ((k:Int))).2:=rfl
  rw [es] at hit
  generalize (zr W Hi ((k:Int))).1=hw at *
  generalize (zr W Hi ((k:Int))).2=hh at *
  have eo1:zgn ws sc W nl hw hh false=(bif (z2e (z6o ws sc false) 2 0 hw hh (picL hw.toNat hh.toNat (z5p nl 0 0 W))).2.2.2 then (true,putS nl (z2e (z6o ws sc false) 2 0 hw hh (picL hw.toNat hh.toNat (z5p nl 0 0 W))).2.2.1 W hw 0 0 (hw*hh).toNat) else (false,nl)):=rfl
  have ep:z8k (fun W Hi l=>z2e (z6o ws sc false) 2 0 W Hi l) W Hi nl hw hh=(bif (z2e (z6o ws sc false) 2 0 hw hh (picL hw.toNat hh.toNat (z5p nl 0 0 W))).2.2.2 then (W,Hi,putS nl (z2e (z6o ws sc false) 2 0 hw hh (picL hw.toNat hh.toNat (z5p nl 0 0 W))).2.2.1 W hw 0 0 (hw*hh).toNat,true) else (0,0,[],false)):=rfl
  rw [eo1] at o5 ⊢
  rw [ep] at hit
  generalize z2e (z6o ws sc false) 2 0 hw hh (picL hw.toNat hh.toNat (z5p nl 0 0 W))=q at *
  refine Br.intro (fun hp=>?_) (fun hp=>?_)
  ·cases hq:q.2.2.2 with
   | true=>rw [hq,cond_true] at hp;cases hp
   | false=>
    rw [hq,cond_false] at hit
    rw [z4e rfl] at hit
    rw [←hit] at hk
    refine Lt.setN t1' (n:=3) ω20 rfl fun H6 l6 q6 k6=>?_
    rw [zmz]
    refine ⟨0,0,none,0,0,(q6.rdN (nbl rfl)).trans rfl,?_⟩
    refine hk none 0 0 H6 ⟨by omega,fun i hi=>?_⟩ (OwnS.nil _ _ _ _)
    rw [k6.2 i ω2 ω2,k5.2 i ω2 ω2,GG.2 i hi]
  ·cases hq:q.2.2.2 with
   | false=>rw [hq,cond_false] at hp;cases hp
   | true=>
    rw [hq,cond_true] at hit o5
    rw [z1u rfl] at hit
    dsimp only at hit o5
    refine z1d6 (m-(k+1)) ω2 ⟨k+1,_,by rw [zp ω2 ω2];omega,by omega,rfl,by rw [z8l];exact hnl,by rw [show m-(k+1)=j by omega];exact hit,⟨Nat.le_trans kp.1 k5.1,fun i hi hne=>(k5.2 i ω2 hne).trans (kp.2 i hi hne)⟩,o5⟩
 ·have hd':=odf hd
  obtain rfl:k=m:=by omega
  rw [Nat.sub_self] at hit
  rw [←hit] at hk
  rw [zwb]
  refine ⟨W,Hi,_,_,_,(t2.rdN (nbl rfl)).trans rfl,Lt.setN t1 (n:=3) (nbl rfl) rfl fun H7 l7 q7 k7=>⟨W,Hi,_,_,_,(q7.rdN (nbl rfl)).trans rfl,?_⟩⟩
  refine hk _ _ _ H7 (GG.keep ω2 k7) ?_
  have oc7:Own H7 c (nl.map fF):=oc'.keep (b':=b1) ω2 k7
  have hf:OwnS fF H7 H.length (some ⟨c,0,none⟩) l.length 1 nl:=oc7.ownS hnl.symm ω2
  exact hf
theorem z1d7:FnOk Tryz.prog 62 z18y:=FnOk.bodyF mix_ok ztr Tryz.func62 rfl ω9 ω9 fun args H=>by
 unfold z17r
 split
 ·refine ⟨?_,?_,?_,?_,fun K hk=>zwa _ _ _ H K hk⟩
  ·intro K K' h hk;obtain ⟨wa,wn,we,sc,ws,W,Hi,pa,pn,pe,l,h1,iw,bw,w0,h2,il,w1,w2,w3,w4,hl,v1,v2,k⟩:=hk;exact ⟨wa,wn,we,sc,ws,W,Hi,pa,pn,pe,l,h1,iw,bw,w0,h2,il,w1,w2,w3,w4,hl,v1,v2,(fun jd pd od H' gg ow0=>h _ _ (k jd pd od H' gg ow0))⟩
  ·nofun
  ·intro K hk;obtain ⟨wa,wn,we,sc,ws,W,Hi,pa,pn,pe,l,h1,iw,bw,w0,h2,il,w1,w2,w3,w4,hl,v1,v2,k⟩:=hk;exact z5q fun a n e H1 g o=>⟨_,_,k a n e H1 g o⟩
  ·nofun
 ·exact Nice.no

def z1p (wide high level band:Int):Int×Int×Int×Int:=((bif (band:Int)==0 then ((0:Int),(0:Int),(zr ((zr wide high (level-1)).1) ((zr wide high (level-1)).2) (1:Int)).1,(zr ((zr wide high (level-1)).1) ((zr wide high (level-1)).2) (1:Int)).2) else (bif (band:Int)==1 then ((zr ((zr wide high (level-1)).1) ((zr wide high (level-1)).2) (1:Int)).1,(0:Int),(((zr wide high (level-1)).1)-((zr ((zr wide high (level-1)).1) ((zr wide high (level-1)).2) (1:Int)).1)),(zr ((zr wide high (level-1)).1) ((zr wide high (level-1)).2) (1:Int)).2) else (bif (band:Int)==2 then ((0:Int),(zr ((zr wide high (level-1)).1) ((zr wide high (level-1)).2) (1:Int)).2,(zr ((zr wide high (level-1)).1) ((zr wide high (level-1)).2) (1:Int)).1,(((zr wide high (level-1)).2)-((zr ((zr wide high (level-1)).1) ((zr wide high (level-1)).2) (1:Int)).2))) else ((zr ((zr wide high (level-1)).1) ((zr wide high (level-1)).2) (1:Int)).1,(zr ((zr wide high (level-1)).1) ((zr wide high (level-1)).2) (1:Int)).2,(((zr wide high (level-1)).1)-((zr ((zr wide high (level-1)).1) ((zr wide high (level-1)).2) (1:Int)).1)),(((zr wide high (level-1)).2)-((zr ((zr wide high (level-1)).1) ((zr wide high (level-1)).2) (1:Int)).2)))))))
def zbh:=@z1p.eq_1
def zuz (wide high level band:Int) (H:zn) (K:Int→Int→Int→Int→zn→Prop):Prop:=1≤wide∧wide≤16∧1≤high∧high≤16∧1≤level∧level≤1000∧K ((z1p wide high level band).1) ((z1p wide high level band).2.1) ((z1p wide high level band).2.2.1) ((z1p wide high level band).2.2.2) H
theorem z8c (w h level band:Int):1≤w∧w≤16∧1≤h∧h≤16→0≤(z1p w h level band).1∧0≤(z1p w h level band).2.1∧0≤(z1p w h level band).2.2.1∧0≤(z1p w h level band).2.2.2∧
  (z1p w h level band).1+(z1p w h level band).2.2.1≤w∧(z1p w h level band).2.1+(z1p w h level band).2.2.2≤h:=fun hh=>by
 have z1:=z4n w h (level-1) hh
 have z2:=z4n (zr w h (level-1)).1 (zr w h (level-1)).2 1 ω2
 rw [zbh]
 generalize (zr w h (level-1))=p at *
 generalize (zr p.1 p.2 1)=q at *
 cases ((band:Int)==0)<;>cases ((band:Int)==1)<;>cases ((band:Int)==2)<;>simp only [cond_true,cond_false]<;>omega
def zsu:Env:=envOf [(102,zum)]
def z16y (args:List Value) (H:zn):(Value→zn→Prop)→Prop:=match args with
 | [.int .i64 wide,.int .i64 high,.int .i64 level,.int .i64 band]=>fun K=>zuz wide high level band H fun (r1:Int) (r2:Int) (r3:Int) (r4:Int) (H':zn)=>K (.tuple #[.int .i64 r1,.int .i64 r2,.int .i64 r3,.int .i64 r4]) H'
 | _=>fun _=>False
def z18k:FSpec:={F:=z16y,quiet:=true,tame:=false}
theorem f11z_vc (wide high level band:Int) (H:zn) (K:KT):zt Tryz.prog zsu Tryz.f88 [.int .i64 wide,.int .i64 high,.int .i64 level,.int .i64 band] H K=
 (zg2 wide high (IntKind.wrap .i64 (level-1)) H fun (r1:Int) (r2:Int) (H1:zn)=>zg2 r1 r2 1 H1 fun (r3:Int) (r4:Int) (H2:zn)=>Br ((band:Int)==0) (K (.tuple #[.int .i64 0,.int .i64 0,.int .i64 r3,.int .i64 r4]) H2) (Br ((band:Int)==1) (K (.tuple #[.int .i64 r3,.int .i64 0,.int .i64 (IntKind.wrap .i64 (r1-r3)),.int .i64 r4]) H2) (Br ((band:Int)==2) (K (.tuple #[.int .i64 0,.int .i64 r4,.int .i64 r3,.int .i64 (IntKind.wrap .i64 (r2-r4))]) H2) (K (.tuple #[.int .i64 r3,.int .i64 r4,.int .i64 (IntKind.wrap .i64 (r1-r3)),.int .i64 (IntKind.wrap .i64 (r2-r4))]) H2)))):=by kernel_rfl
theorem zsv:∀g,FnOk Tryz.prog g (zsu g):=FnOk.envOf (by
 intro x hx
 simp only [List.mem_cons,List.not_mem_nil,or_false] at hx
 subst hx;exact f10z_ok)
theorem f11z_main (wide high level band:Int) (H:zn) (K:KT) (h:zuz wide high level band H fun (r1:Int) (r2:Int) (r3:Int) (r4:Int) (H':zn)=>K (.tuple #[.int .i64 r1,.int .i64 r2,.int .i64 r3,.int .i64 r4]) H'):zt Tryz.prog zsu Tryz.f88 [.int .i64 wide,.int .i64 high,.int .i64 level,.int .i64 band] H K:=by
 rw [f11z_vc]
 obtain ⟨pr0,pr1,pr2,pr3,pr4,pr5,hk⟩:=h
 have e:(z1p wide high level band)=_:=rfl
 have e:=e.trans (zbh wide high level band)
 have g0:=Grow.refl H
 rw [show IntKind.wrap .i64 (level-1)=(level-1) from zp ω2 ω2]
 refine zo4 ⟨ω10,ω10,ω10,ω10,ω10,?_⟩
 have z_1:=z4n wide high (level-1)
 refine zo4 ⟨ω10,ω10,ω10,ω10,ω10,?_⟩
 have z_2:=z4n ((zr wide high (level-1)).1) ((zr wide high (level-1)).2) (1:Int)
 refine Br.intro (fun c_3=>?_) (fun c_3=>?_)
 ·have e:=e.trans (zw c_3)
  have c_3':=zbc c_3
  rw [e] at hk
  exact hk
 ·have e:=e.trans (zv c_3)
  have c_3':=zbb c_3
  refine Br.intro (fun c_4=>?_) (fun c_4=>?_)
  ·have e:=e.trans (zw c_4)
   have c_4':=zbc c_4
   rw [show IntKind.wrap .i64 (((zr wide high (level-1)).1)-((zr ((zr wide high (level-1)).1) ((zr wide high (level-1)).2) (1:Int)).1))=(((zr wide high (level-1)).1)-((zr ((zr wide high (level-1)).1) ((zr wide high (level-1)).2) (1:Int)).1)) from zp ω2 ω2]
   rw [e] at hk
   exact hk
  ·have e:=e.trans (zv c_4)
   have c_4':=zbb c_4
   refine Br.intro (fun c_5=>?_) (fun c_5=>?_)
   ·have e:=e.trans (zw c_5)
    have c_5':=zbc c_5
    rw [show IntKind.wrap .i64 (((zr wide high (level-1)).2)-((zr ((zr wide high (level-1)).1) ((zr wide high (level-1)).2) (1:Int)).2))=(((zr wide high (level-1)).2)-((zr ((zr wide high (level-1)).1) ((zr wide high (level-1)).2) (1:Int)).2)) from zp ω2 ω2]
    rw [e] at hk
    exact hk
   ·have e:=e.trans (zv c_5)
    have c_5':=zbb c_5
    rw [show IntKind.wrap .i64 (((zr wide high (level-1)).1)-((zr ((zr wide high (level-1)).1) ((zr wide high (level-1)).2) (1:Int)).1))=(((zr wide high (level-1)).1)-((zr ((zr wide high (level-1)).1) ((zr wide high (level-1)).2) (1:Int)).1)) from zp ω2 ω2]
    rw [show IntKind.wrap .i64 (((zr wide high (level-1)).2)-((zr ((zr wide high (level-1)).1) ((zr wide high (level-1)).2) (1:Int)).2))=(((zr wide high (level-1)).2)-((zr ((zr wide high (level-1)).1) ((zr wide high (level-1)).2) (1:Int)).2)) from zp ω2 ω2]
    rw [e] at hk
    exact hk
theorem f11z_ok:FnOk Tryz.prog 88 z18k:=FnOk.bodyF mix_ok zsv Tryz.func88 rfl ω9 ω9 fun args H=>by
 unfold z16y
 split
 ·refine ⟨?_,?_,?_,?_,fun K hk=>f11z_main _ _ _ _ H K hk⟩
  ·intro K K' h hk;obtain ⟨pr0,pr1,pr2,pr3,pr4,pr5,k⟩:=hk;exact ⟨pr0,pr1,pr2,pr3,pr4,pr5,h _ _ k⟩
  ·intro _ K hk;obtain ⟨pr0,pr1,pr2,pr3,pr4,pr5,k⟩:=hk;exact ⟨_,k,fun K' k'=>⟨pr0,pr1,pr2,pr3,pr4,pr5,k'⟩⟩
  ·intro K hk;obtain ⟨pr0,pr1,pr2,pr3,pr4,pr5,k⟩:=hk;exact ⟨_,_,k⟩
  ·nofun
 ·exact Nice.no
def z5s (x:Nat):Nat:=fint .down x
def z5o (x:Nat) (H:zn) (K:Nat→zn→Prop):Prop:=K (z5s x) H
def z8p:List Value→zn→(Value→zn→Prop)→Prop
 | [.float .f64 x],H,K=>z5o x H fun r1 H'=>K (.float .f64 r1) H'
 | _,_,_=>False
def z5n:FSpec:={F:=z8p,quiet:=true}
theorem zc2:FnOk Tryz.prog 149 z5n:=by
 refine FnOk.ext1 (f:=z5s) (e:=Extern.MathFloor.toIntegral "math.archFloor" .down) rfl ?_ (fun x H K h=>h) Tryz.func149 ω9 ω9 ω9 ω9 (fun b w=>z1c8 _ _ b w)
 intro args H K h
 simp only [z5n] at h
 unfold z8p at h
 split at h
 ·exact ⟨_,rfl,h⟩
 ·exact h.elim

def zgo (x:Nat):Nat:=(z5s x)
def zg8 (x:Nat) (H:zn) (K:Nat→zn→Prop):Prop:=K (zgo x) H

theorem zot {x:Nat} {H:zn} {K:Nat→zn→Prop} (h:K (zgo x) H):zg8 x H K:=h
def zud:Env:=envOf [(149,z5n)]
def z18g (args:List Value) (H:zn):(Value→zn→Prop)→Prop:=match args with
 | [.float .f64 x]=>fun K=>zg8 x H fun (r1:Nat) (H':zn)=>K (.float .f64 r1) H'
 | _=>fun _=>False
def zuv:FSpec:={F:=z18g,quiet:=true,tame:=false}
theorem f22z_vc (x:Nat) (H:zn) (K:KT):zt Tryz.prog zud Tryz.f123 [.float .f64 x] H K=
 (z5o x H fun (r1:Nat) (H1:zn)=>K (.float .f64 r1) H1):=by kernel_rfl
theorem zue:∀g,FnOk Tryz.prog g (zud g):=FnOk.envOf (by
 intro x hx
 simp only [List.mem_cons,List.not_mem_nil,or_false] at hx
 subst hx;exact zc2)
theorem f22z_main (x:Nat) (H:zn) (K:KT) (h:zg8 x H fun (r1:Nat) (H':zn)=>K (.float .f64 r1) H'):zt Tryz.prog zud Tryz.f123 [.float .f64 x] H K:=by
 rw [f22z_vc]
 simp only [z5o]
 unfold zg8 zgo at h
 repeat' (first | exact h | (exfalso;simp_all;done) | (refine ⟨by decide,?_⟩) | (refine Br.intro (fun hb=>?_) (fun hb=>?_)<;>(try simp only [hb,cond_true,cond_false,Bool.not_true,Bool.not_false] at h)))
theorem f22z_ok:FnOk Tryz.prog 123 zuv:=FnOk.bodyF mix_ok zue Tryz.func123 rfl ω9 ω9 fun args H=>by
 unfold z18g
 split
 ·refine ⟨?_,?_,?_,?_,fun K hk=>f22z_main _ H K hk⟩
  ·intro K K' h hk;have k:=hk;exact h _ _ k
  ·intro _ K hk;have k:=hk;exact ⟨_,k,fun K' k'=>k'⟩
  ·intro K hk;have k:=hk;exact ⟨_,_,k⟩
  ·nofun
 ·exact Nice.no
theorem z14m {k:FloatKind} {x:Nat} (h:fin k x=true) {W:Nat} (hW:W≤62) (hb:(sv k x).natAbs≤2 ^ (W+lp k)):∃n:Int,ftoi k x .i64=some n:=by
 obtain ⟨s,m,e,hr⟩:=z3c h
 have hp:=z2p hr
 have hd:k.decode x=.number s m e:=hr
 unfold sv at hb
 rw [hr] at hb
 simp only [] at hb
 rw [z2v,Nat.shiftLeft_eq,lp_eq] at hb
 have hc:Ieee.Toward.zero.cut s (m <<< e.toNat) (-e).toNat≤2 ^ W:=by
  refine Nat.le_trans (z12n _ _ _) ?_
  rw [Nat.shiftLeft_eq]
  by_cases he:0≤e
  ·rw [show (-e).toNat=0 by omega,Nat.pow_zero,Nat.div_one]
   rw [show (e- -(lp k:Int)).toNat=e.toNat+lp k by omega,Nat.pow_add,←Nat.mul_assoc,Nat.pow_add] at hb
   exact Nat.le_of_mul_le_mul_right hb (Nat.two_pow_pos _)
  ·rw [show e.toNat=0 by omega,Nat.pow_zero,Nat.mul_one]
   rw [lp_eq] at hp
   obtain ⟨q,hq⟩:∃q:Nat,e=-(lp k:Int)+q:=⟨(e+lp k).toNat,by omega⟩
   have e1:lp k=(-e).toNat+q:=by omega
   rw [show (e- -(lp k:Int)).toNat=q by omega] at hb
   generalize lp k=L at *
   subst e1
   rw [←Nat.add_assoc,Nat.pow_add 2 (W+(-e).toNat) q,Nat.pow_add] at hb
   have:=Nat.le_of_mul_le_mul_right hb (Nat.two_pow_pos q)
   exact Nat.div_le_of_le_mul (by rw [Nat.mul_comm];exact this)
 have hW2:2 ^ W≤2 ^ 62:=Nat.pow_le_pow_right ω20 hW
 rw [show (2:Nat) ^ 62=4611686018427387904 by decide] at hW2
 have hs:(Ieee.signed s (Ieee.Toward.zero.cut s (m <<< e.toNat) (-e).toNat) 0).natAbs≤2 ^ W:=by
  rw [z2v,Nat.shiftLeft_zero];exact hc
 refine ⟨Ieee.signed s (Ieee.Toward.zero.cut s (m <<< e.toNat) (-e).toNat) 0,?_⟩
 unfold ftoi
 rw [hd]
 show (if _ then _ else _)=_
 rw [if_pos]
 have e1:IntKind.min .i64=-9223372036854775808:=by decide
 have e2:IntKind.max .i64=9223372036854775807:=by decide
 rw [e1,e2]
 omega
theorem zfa {E m:Nat} {s:Bool} {i:Int} (hr:FloatKind.f32.format.read E=.number s m i) (hm:m≠0):∃d:Nat,i≤104∧m<16777216∧FloatKind.f64.format.read (z2m E)=.number s (m*2 ^ d) (i-d):=by
 have hd:FloatKind.f32.decode E=.number s m i:=hr
 have hlt:=zlz hr
 have hpl:=z2p hr
 have e32:FloatKind.f32.format.binade=2 ^ 23:=rfl
 have e64:FloatKind.f64.format.binade=2 ^ 52:=rfl
 have l32:FloatKind.f32.format.leastPlace=-149:=by decide
 have l64:FloatKind.f64.format.leastPlace=-1074:=by decide
 rw [e32] at hlt
 have hlg:m.log2≤23:=by
  have:=(Nat.log2_lt hm).2 (show m<2 ^ 24 by omega)
  omega
 have hhi:i≤104:=by
  unfold Ieee.Format.read at hr
  simp only [] at hr
  split at hr
  ·obtain ⟨-,-,h9⟩:=Ieee.Datum.number.inj hr
   rw [l32] at h9;omega
  ·split at hr
   ·rename_i h1 h2
    have e3:FloatKind.f32.format.infRung=255*2 ^ 23:=by decide
    rw [e3] at h2
    have h3:E % FloatKind.f32.format.signWeight / FloatKind.f32.format.binade<255:=by
     rw [e32];exact Nat.div_lt_of_lt_mul ω2
    obtain ⟨-,-,h9⟩:=Ieee.Datum.number.inj hr
    rw [l32] at h9
    omega
   ·split at hr<;>cases hr
 obtain ⟨d,hd2⟩:∃d:Nat,52=m.log2+d:=⟨52-m.log2,by omega⟩
 have m1:2 ^ 52≤m <<< d:=by
  rw [hd2,Nat.shiftLeft_eq,Nat.pow_add];exact Nat.mul_le_mul_right _ (Nat.log2_self_le hm)
 have m2:m <<< d<2*2 ^ 52:=by
  have a1:m<2 ^ (m.log2+1):=Nat.lt_log2_self
  rw [hd2,Nat.shiftLeft_eq,Nat.pow_add]
  calc m*2 ^ d<2 ^ (m.log2+1)*2 ^ d:=Nat.mul_lt_mul_of_pos_right a1 (Nat.two_pow_pos d)
   _=2*(2 ^ m.log2*2 ^ d):=by rw [Nat.pow_succ,Nat.mul_comm (2 ^ m.log2) 2,Nat.mul_assoc]
 rw [l32] at hpl
 obtain ⟨q,hq⟩:∃q:Nat,i-d=-1074+q:=⟨(i-d+1074).toNat,by omega⟩
 have e3:FloatKind.f64.format.infRung=2047*2 ^ 52:=by decide
 refine ⟨d,hhi,by omega,?_⟩
 unfold z2m
 rw [hd]
 show FloatKind.f64.format.read (FloatKind.f64.format.nearest s m i)=_
 have e:FloatKind.f64.format.nearest s m i=FloatKind.f64.format.nearest s (m <<< d) (FloatKind.f64.format.leastPlace+(q:Int)):=by
  rw [z4r];congr 1;omega
 have hq2:(q+2)*2 ^ 52≤2047*2 ^ 52:=Nat.mul_le_mul_right _ ω2
 rw [Nat.add_mul] at hq2
 rw [e,z9a _ _ _ _ (by rw [e64];exact m1) (by rw [e64];exact m2) (by rw [e64,e3];omega),zez .f64 s _ q (by rw [e64];exact m1) (by rw [e64];exact m2) (by rw [e64,e3];omega),Nat.shiftLeft_eq,l64,←hq]
theorem z1ew {s:Bool} {m M T:Nat} {e:Int} (hM1:8388608≤M) (hM2:M<2*8388608) (hT:T≤253)
  (h:m*2 ^ (e-(-149+(T:Int))).toNat≤M*2 ^ (-149+(T:Int)-e).toNat):(FloatKind.f32.decode (FloatKind.f32.encode (.number s m e))).isInfinity=false:=by
 have l32:FloatKind.f32.format.leastPlace=-149:=by decide
 obtain ⟨r,h1,h2,h3⟩:=zy0 .f32 s (m:=m) (M:=M) (T:=T) (e:=e) (.inl hM1) hM2 (by rw [l32];exact h)
 have e2:FloatKind.f32.format.infRung=255*8388608:=by decide
 have e3:FloatKind.f32.format.binade=8388608:=by decide
 rw [e3] at h2
 have h4:r<FloatKind.f32.format.infRung:=by
  rw [e2]
  have:T*8388608≤253*8388608:=Nat.mul_le_mul_right _ hT
  omega
 show (FloatKind.f32.format.read (FloatKind.f32.format.nearest s m e)).isInfinity=false
 rw [h1]
 obtain ⟨t,m',e',h5⟩:=z3c (zz5 .f32 s h4).1
 rw [h5];rfl
theorem ze7 {y:Nat} {s:Bool} {m:Nat} {e:Int} (hr:FloatKind.f64.format.read y=.number s m e) (h:(FloatKind.f32.decode (FloatKind.f32.encode (.number s m e))).isInfinity=false):z1x y=some (FloatKind.f32.format.nearest s m e):=by
 have hd:FloatKind.f64.decode y=.number s m e:=hr
 unfold z1x
 rw [hd]
 simp only [h]
 rfl
theorem zp4 {y:Nat} {s:Bool} {m:Nat} {e:Int} {way:Ieee.Toward} (hr:FloatKind.f64.format.read y=.number s m e):fint way y=FloatKind.f64.format.nearest s (way.cut s (m <<< e.toNat) (-e).toNat) 0:=by
 unfold fint
 rw [hr,if_neg (fun h=>by cases h)]
 rfl
theorem zyz {s:Bool} {c:Nat} (h:c≤2 ^ 53):z1x (FloatKind.f64.format.nearest s c 0)≠none:=by
 have h4:FloatKind.f64.format.leastPlace=-1074:=by decide
 exact zxz ((Bd.near (k:=.f64) (s:=s) (m:=c) (n:=53) (T:=1075) (e:=0) (top64 ω20) h (by rw [h4,fb64];decide)).1.mono ω20)
theorem zkh (x:Nat):z1x (fint .down (z2m x))≠none:=by
 cases hr:FloatKind.f32.format.read x with
 | nan s t=>
  have hd:FloatKind.f32.decode x=.nan s t:=hr
  have e:z2m x=qnan .f64:=by unfold z2m;rw [hd]
  rw [e];decide+kernel
 | infinity s=>
  have hd:FloatKind.f32.decode x=.infinity s:=hr
  have e:z2m x=FloatKind.f64.encode (.infinity s):=by unfold z2m;rw [hd]
  rw [e];cases s<;>decide+kernel
 | number s m i=>
  have hd:FloatKind.f32.decode x=.number s m i:=hr
  by_cases hm:m=0
  ·subst hm
   have e:z2m x=FloatKind.f64.format.nearest s 0 i:=by unfold z2m;rw [hd];rfl
   rw [e,ze8];cases s<;>decide+kernel
  ·obtain ⟨d,hi,hmm,hw⟩:=zfa hr hm
   rw [zp4 hw]
   by_cases he:0≤i-d
   ·have ez:(-(i-(d:Int))).toNat=0:=by omega
    rw [ez,z7y,z4r]
    have e1:(0:Int)+((i-(d:Int)).toNat:Int)=i-d:=by omega
    rw [e1]
    have hy:FloatKind.f64.format.nearest s (m*2 ^ d) (i-d)=z2m x:=by
     rw [←Nat.shiftLeft_eq,z4r,show i-(d:Int)+(d:Int)=i by omega]
     unfold z2m;rw [hd];rfl
    rw [hy,ze7 hw]
    ·intro h;cases h
    ·refine z1ew (M:=16777215) (T:=253) ω20 ω20 (Nat.le_refl _) ?_
     rw [show (i-(d:Int)-(-149+((253:Nat):Int))).toNat=0 by omega,Nat.pow_zero,Nat.mul_one]
     obtain ⟨j,hj⟩:∃j:Nat,(-149+((253:Nat):Int)-(i-(d:Int))).toNat=d+j:=⟨(104-i).toNat,by omega⟩
     rw [hj,Nat.pow_add]
     have hp:=Nat.two_pow_pos j
     generalize 2 ^ j=J at *
     generalize 2 ^ d=D at *
     have a1:m*D≤16777215*D:=Nat.mul_le_mul_right _ ω2
     have a2:16777215*(D*1)≤16777215*(D*J):=Nat.mul_le_mul_left _ (Nat.mul_le_mul_left _ hp)
     rw [Nat.mul_one] at a2
     exact Nat.le_trans a1 a2
   ·have hlt:=zlz hw
    have e64:FloatKind.f64.format.binade=4503599627370496:=by decide
    rw [e64] at hlt
    apply zyz
    refine Nat.le_trans (zoz _ _ _ _) ?_
    rw [show (i-(d:Int)).toNat=0 by omega,Nat.shiftLeft_zero]
    have:=Nat.div_le_self (m*2 ^ d) (2 ^ (-(i-(d:Int))).toNat)
    rw [show (2:Nat) ^ 53=9007199254740992 by decide]
    omega
def zcj (q x:Nat):Nat×Bool:=(bif fle .f32 3379831808 q then (((z1x ((zgo (z2m x)))).getD 0),fle .f32 q 1232348160) else (((z1x ((zgo (z2m x)))).getD 0),false))
def zlh:=@zcj.eq_1
def zjf (q x:Nat) (H:zn) (K:Nat→Bool→zn→Prop):Prop:=K ((zcj q x).1) ((zcj q x).2) H
theorem z11f {q x:Nat} {H:zn} {K:Nat→Bool→zn→Prop} (h:K ((zcj q x).1) ((zcj q x).2) H):zjf q x H K:=h

def ztp:Env:=envOf [(123,zuv)]
def z17q (args:List Value) (H:zn):(Value→zn→Prop)→Prop:=match args with
 | [.float .f32 q,.float .f32 x]=>fun K=>zjf q x H fun (r1:Nat) (r2:Bool) (H':zn)=>K (.tuple #[.float .f32 r1,.bool r2]) H'
 | _=>fun _=>False
def z18x:FSpec:={F:=z17q,quiet:=true,tame:=false}
theorem z1d4 (q x:Nat) (H:zn) (K:KT):zt Tryz.prog ztp Tryz.f89 [.float .f32 q,.float .f32 x] H K=
 (zg8 (z2m x) H fun (r1:Nat) (H1:zn)=>∃x1:Nat,z1x r1=some x1∧Br (fle .f32 3379831808 q) (K (.tuple #[.float .f32 x1,.bool (fle .f32 q 1232348160)]) H1) (K (.tuple #[.float .f32 x1,.bool false]) H1)):=by kernel_rfl
theorem ztq:∀g,FnOk Tryz.prog g (ztp g):=FnOk.envOf (by
 intro x hx
 simp only [List.mem_cons,List.not_mem_nil,or_false] at hx
 subst hx;exact f22z_ok)
theorem zw9 (q x:Nat) (H:zn) (K:KT) (h:zjf q x H fun (r1:Nat) (r2:Bool) (H':zn)=>K (.tuple #[.float .f32 r1,.bool r2]) H'):zt Tryz.prog ztp Tryz.f89 [.float .f32 q,.float .f32 x] H K:=by
 rw [z1d4]
 have hk:=h
 unfold zjf at hk
 have e:(zcj q x)=_:=rfl
 have e:=e.trans (zlh q x)
 have g0:=Grow.refl H
 refine zot ?_
 refine ⟨_,zy9 (d:=0) (by exact zkh _),?_⟩
 refine Br.intro (fun c_1=>?_) (fun c_1=>?_)
 ·have e:=e.trans (zw c_1)
  rw [e] at hk
  exact hk
 ·have e:=e.trans (zv c_1)
  rw [e] at hk
  exact hk
theorem z1d3:FnOk Tryz.prog 89 z18x:=FnOk.bodyF mix_ok ztq Tryz.func89 rfl ω9 ω9 fun args H=>by
 unfold z17q
 split
 ·refine ⟨?_,?_,?_,?_,fun K hk=>zw9 _ _ H K hk⟩
  ·intro K K' h hk;have k:=hk;exact h _ _ k
  ·intro _ K hk;have k:=hk;exact ⟨_,k,fun K' k'=>k'⟩
  ·intro K hk;have k:=hk;exact ⟨_,_,k⟩
  ·nofun
 ·exact Nice.no

theorem z1kk {y:Nat} (h:Bd .f64 1097 y):∃r,z1x y=some r∧Bd .f32 172 r:=by
 obtain ⟨s,m,q,hr,hb⟩:=h.out
 have e1:FloatKind.f64.format.leastPlace=-1074:=by decide
 rw [e1] at hr
 have key:Bd .f32 172 (FloatKind.f32.format.nearest s m (-1074+(q:Int))):=by
  by_cases hq:q≤1097
  ·have hm:=z4o hb hq
   have ep:FloatKind.f32.format.leastPlace+FloatKind.f32.format.fractionBits+(149:Nat)=23:=by decide
   have hT:((1097-q:Nat):Int)+(-1074+(q:Int))≤FloatKind.f32.format.leastPlace+FloatKind.f32.format.fractionBits+(149:Nat):=by clear hm hb;rw [ep];omega
   exact (Bd.near (k:=.f32) (s:=s) (top32 ω20) hm hT).1
  ·have hm:=z3n hb ω2
   subst hm
   obtain ⟨f1,f2⟩:=ziz .f32 s (-1074+(q:Int))
   exact ⟨f1,by rw [f2];exact Nat.zero_le _⟩
 refine ⟨_,ze7 hr ?_,key⟩
 obtain ⟨s',m',e',h3⟩:=z3c key.1
 show (FloatKind.f32.format.read (FloatKind.f32.format.nearest s m _)).isInfinity=false
 rw [h3];rfl
theorem zcz:fin .f32 1232348160=true∧fin .f32 3379831808=true:=by decide+kernel
theorem z1et:sv .f32 1232348160≤((2 ^ 169:Nat):Int)∧-((2 ^ 169:Nat):Int)≤sv .f32 3379831808:=by decide+kernel
theorem zxw:Bd .f32 169 1056964608:=⟨by decide+kernel,by decide+kernel⟩
theorem z1er {q:Nat} (h1:fle .f32 3379831808 q=true) (h2:fle .f32 q 1232348160=true):Bd .f32 170 (fadd .f32 q 1056964608):=by
 have hf:=zn8 zcz.2 zcz.1 h1 h2
 have hq:Bd .f32 169 q:=by
  rw [zah zcz.2 hf] at h1
  rw [zah hf zcz.1] at h2
  have h1:=odt h1
  have h2:=odt h2
  obtain ⟨a,b⟩:=z1et
  refine ⟨hf,?_⟩
  generalize 2 ^ 169=A at *
  omega
 exact Bd.add2 (T:=147) hq zxw (top32 ω20) ω20
theorem z15i {m d:Nat} {i:Int} {s:Bool} (hi:-149≤i) (h:m*2 ^ (i+149).toNat≤2 ^ 170):Ieee.Toward.down.cut s ((m*2 ^ d) <<< (i-(d:Int)).toNat) (-(i-(d:Int))).toNat≤2 ^ 23:=by
 refine Nat.le_trans (zoz _ _ _ _) ?_
 rw [Nat.shiftLeft_eq,show (2:Nat) ^ 23=2 ^ 21+3*2 ^ 21 by decide]
 have hs:m*2 ^ d*2 ^ (i-(d:Int)).toNat / 2 ^ (-(i-(d:Int))).toNat≤2 ^ 21:=by
  by_cases he:0≤i-d
  ·rw [show (-(i-(d:Int))).toNat=0 by omega,Nat.pow_zero,Nat.div_one,Nat.mul_assoc,←Nat.pow_add]
   obtain ⟨j,hj⟩:∃j:Nat,i=(j:Int):=⟨i.toNat,by omega⟩
   subst hj
   rw [show d+((j:Int)-(d:Int)).toNat=j by omega]
   rw [show ((j:Int)+149).toNat=j+149 by omega,Nat.pow_add,←Nat.mul_assoc,show (170:Nat)=21+149 from rfl,Nat.pow_add] at h
   exact Nat.le_of_mul_le_mul_right h (Nat.two_pow_pos 149)
  ·rw [show (i-(d:Int)).toNat=0 by omega,Nat.pow_zero,Nat.mul_one]
   obtain ⟨j,hj⟩:∃j:Nat,(i+149).toNat=j:=⟨_,rfl⟩
   rw [hj] at h
   obtain ⟨c,hc⟩:∃c:Nat,(-(i-(d:Int))).toNat=c:=⟨_,rfl⟩
   rw [hc]
   have ec:c+j=d+149:=by omega
   apply Nat.div_le_of_le_mul
   have h5:m*2 ^ d*2 ^ j≤2 ^ c*2 ^ 21*2 ^ j:=by
    have e1:m*2 ^ d*2 ^ j=(m*2 ^ j)*2 ^ d:=by rw [Nat.mul_assoc,Nat.mul_comm (2 ^ d),←Nat.mul_assoc]
    have e2:2 ^ c*2 ^ 21*2 ^ j=2 ^ 170*2 ^ d:=by
     rw [Nat.mul_assoc,Nat.mul_comm (2 ^ 21),←Nat.mul_assoc,←Nat.pow_add,←Nat.pow_add,←Nat.pow_add,ec]
     congr 1;omega
    rw [e1,e2]
    exact Nat.mul_le_mul_right _ h
   exact Nat.le_of_mul_le_mul_right h5 (Nat.two_pow_pos j)
 have:(1:Nat)≤3*2 ^ 21:=by decide
 omega
theorem z1es {q:Nat} (h1:fle .f32 3379831808 q=true) (h2:fle .f32 q 1232348160=true):∃n:Int,ftoi .f32 ((z1x (fint .down (z2m (fadd .f32 q 1056964608)))).getD 0) .i64=some n:=by
 have hz:=z1er h1 h2
 generalize fadd .f32 q 1056964608=z at *
 obtain ⟨s,m,i,hr⟩:=z3c hz.1
 have hb:Bd .f64 1097 (fint .down (z2m z)):=by
  by_cases hm:m=0
  ·subst hm
   have hd:FloatKind.f32.decode z=.number s 0 i:=hr
   have e:z2m z=FloatKind.f64.format.nearest s 0 i:=by unfold z2m;rw [hd];rfl
   rw [e,ze8]
   have:fint .down (FloatKind.f64.format.nearest s 0 FloatKind.f64.format.leastPlace)=0∨fint .down (FloatKind.f64.format.nearest s 0 FloatKind.f64.format.leastPlace)=9223372036854775808:=by cases s<;>decide+kernel
   rcases this with h | h<;>rw [h]
   ·exact z1c0 _
   ·exact ⟨by decide+kernel,by rw [show sv .f64 9223372036854775808=0 by decide+kernel];exact Nat.zero_le _⟩
  ·obtain ⟨d,hi,hmm,hw⟩:=zfa hr hm
   rw [zp4 hw]
   have hp:=z2p hr
   rw [show FloatKind.f32.format.leastPlace=-149 by decide] at hp
   have hv:=hz.2
   unfold sv at hv
   rw [hr] at hv
   simp only [] at hv
   rw [z2v,Nat.shiftLeft_eq,show FloatKind.f32.format.leastPlace=-149 by decide,show (i- -149)=i+149 by omega] at hv
   have hc:=z15i (d:=d) (s:=s) hp hv
   have h4:FloatKind.f64.format.leastPlace=-1074:=by decide
   exact (Bd.near (k:=.f64) (s:=s) (n:=23) (T:=1045) (e:=0) (top64 ω20) hc (by rw [h4,fb64];decide)).1
 obtain ⟨r,hn,hbr⟩:=z1kk hb
 rw [hn]
 have e:lp .f32=149:=by decide
 exact z14m hbr.1 (W:=23) ω20 (by rw [e];exact hbr.2)
theorem z1h4 (a b:List UInt8):(⟨a.toArray⟩:ByteArray)++(⟨b.toArray⟩:ByteArray)=(⟨(a++b).toArray⟩:ByteArray):=by
 apply ByteArray.ext
 rw [ByteArray.data_append]
 simp
theorem z1bz (a:List UInt8):(⟨a.toArray⟩:ByteArray).size=a.length:=by simp [ByteArray.size]
theorem z16r (n:Int):(Int.tmod n 2 != 0)=(n % 2 != 0):=by
 have:Int.tmod n 2=0↔n % 2=0:=by
  constructor
  ·intro h;exact Int.emod_eq_zero_of_dvd (Int.dvd_of_tmod_eq_zero h)
  ·intro h;exact Int.tmod_eq_zero_of_dvd (Int.dvd_of_emod_eq_zero h)
 by_cases h:n % 2=0
 ·rw [h,this.2 h]
 ·have h2:¬Int.tmod n 2=0:=fun e=>h (this.1 e)
  rw [bne_iff_ne.2 h,bne_iff_ne.2 h2]
theorem z1by (n:Int):(((BitVec.ofInt (IntKind.bits .i64) n &&& BitVec.ofInt (IntKind.bits .i64) 1).toNat:Nat):Int)=n % 2:=by
 show (((BitVec.ofInt 64 n &&& BitVec.ofInt 64 1).toNat:Nat):Int)=n % 2
 rw [BitVec.toNat_and,show (BitVec.ofInt 64 1).toNat=1 by decide,Nat.and_one_is_mod,BitVec.toNat_ofInt]
 omega
def bitS (n:Int):UInt8:=bif n % 2 != 0 then 49 else 48
theorem zvh (n:Int):IntKind.wrap .u8 (IntKind.wrap .i64 (48+(IntKind.wrap .i64 (((BitVec.ofInt (IntKind.bits .i64) n &&& BitVec.ofInt (IntKind.bits .i64) 1).toNat:Int)))))=((bitS n).toNat:Int):=by
 rw [z1by]
 have h:=Int.emod_two_eq n
 unfold bitS
 rcases h with h | h<;>rw [h]<;>decide
def z8z (n:Nat) (ok:Nat→Bool) (b:Nat→UInt8):ByteArray×Bool:=bif (List.range n).all ok then (⟨((List.range n).map b).toArray⟩,true) else (⟨#[]⟩,false)
theorem zgj {n k:Nat} {ok:Nat→Bool} {b:Nat→UInt8} (hk:k<n) (h:ok k=false):z8z n ok b=(⟨#[]⟩,false):=by
 unfold z8z
 have:(List.range n).all ok=false:=by
  rw [List.all_eq_false]
  exact ⟨k,List.mem_range.2 hk,by rw [h];simp⟩
 rw [this];rfl
theorem ze6 {n:Nat} {ok:Nat→Bool} {b:Nat→UInt8} (h:∀k,k<n→ok k=true):z8z n ok b=(⟨((List.range n).map b).toArray⟩,true):=by
 unfold z8z
 have:(List.range n).all ok=true:=List.all_eq_true.2 fun k hk=>h k (List.mem_range.1 hk)
 rw [this];rfl
theorem zvg (b:Nat→UInt8) (k:Nat) {c:UInt8} (h:b k=c):(⟨((List.range k).map b).toArray⟩:ByteArray)++(⟨#[c]⟩:ByteArray)=(⟨((List.range (k+1)).map b).toArray⟩:ByteArray):=by
 have:=z1h4 ((List.range k).map b) [c]
 rw [List.range_succ,List.map_append]
 show _=(⟨((List.range k).map b++[b k]).toArray⟩:ByteArray)
 rw [h];exact this
theorem z19n (b:Nat→UInt8) {k:Nat} (hk:k≤16) (c:UInt8):(⟨((List.range k).map b).toArray⟩:ByteArray).size+(⟨#[c]⟩:ByteArray).size<2 ^ 63:=by
 rw [z1bz,List.length_map,List.length_range]
 show k+1<2 ^ 63
 exact Nat.lt_of_lt_of_le (show k+1<18 by omega) ω20
def z4i (L:LN) (W x y w:Int) (k:Nat):Nat:=L.getD ((y+Int.tdiv (k:Int) w)*W+x+Int.tmod (k:Int) w).toNat 0
def okQ (q:Nat):Bool:=bif fle .f32 3379831808 q then fle .f32 q 1232348160 else false
def numS (q:Nat):Int:=(ftoi .f32 ((z1x (fint .down (z2m (fadd .f32 q 1056964608)))).getD 0) .i64).getD 0
theorem zy4 {q:Nat} (h:okQ q=true):ftoi .f32 ((z1x (fint .down (z2m (fadd .f32 q 1056964608)))).getD 0) .i64=some (numS q):=by
 unfold okQ at h
 cases h1:fle .f32 3379831808 q with
 | false=>rw [h1] at h;cases h
 | true=>
  rw [h1,cond_true] at h
  obtain ⟨n,hn⟩:=z1es h1 h
  unfold numS
  rw [hn];rfl
theorem z1he {ws:LN} {sc:Nat} {w h:Int} {l:LN} (hh:zcl ws sc w h l=true):(1:Int)≤(ws.length:Int):=by
 rw [zbk] at hh
 cases h1:zls ws sc with
 | false=>rw [h1] at hh;cases hh
 | true=>
  rw [zij] at h1
  by_cases hw:(1:Int)≤(ws.length:Int)
  ·exact hw
  ·rw [dcf hw] at h1;simp at h1
theorem zs0 {f:Nat→Int→Int→LN→PicT} {W Hi:Int} {n0:Nat} (hf:∀k l,l.length=n0→(f k W Hi l).2.2.2=true→(f k W Hi l).1=W∧(f k W Hi l).2.1=Hi∧(f k W Hi l).2.2.1.length=n0):∀(n k:Nat) (l:LN),l.length=n0→(z2e f n k W Hi l).2.2.2=true→(z2e f n k W Hi l).1=W∧(z2e f n k W Hi l).2.1=Hi∧(z2e f n k W Hi l).2.2.1.length=n0:=by
 intro n
 induction n with
 | zero=>intro k l h _;exact ⟨rfl,rfl,h⟩
 | succ n ih=>
  intro k l h hh
  rw [z5d] at hh ⊢
  have h1:=hf k l h
  generalize f k W Hi l=q at *
  obtain ⟨q1,q2,q3,q4⟩:=q
  dsimp only at h1
  cases q4 with
  | false=>rw [z4e rfl] at hh;cases hh
  | true=>
   obtain ⟨d1,d2,d3⟩:=h1 rfl
   subst d1 d2
   rw [z1u rfl] at hh ⊢
   exact ih _ _ d3 hh
theorem zry {Q:Int→Int→LN→PicT} {W Hi:Int} {l:LN} {w h:Int} (hh:(z8k Q W Hi l w h).2.2.2=true):(z8k Q W Hi l w h).1=W∧(z8k Q W Hi l w h).2.1=Hi∧(z8k Q W Hi l w h).2.2.1.length=l.length:=by
 unfold z8k at hh ⊢
 cases hq:(Q w h (picL w.toNat h.toNat (z5p l 0 0 W))).2.2.2 with
 | false=>rw [hq] at hh;cases hh
 | true=>rw [cond_true];exact ⟨rfl,rfl,z8l _ _ _ _ _ _ _⟩
def zlr (ma:LN) (bb:Nat) (fa ia:Int) (da:LN) (count:Int) (size:Nat):ByteArray×Bool:=
 bif !(zcl ma bb fa ia da) then ((⟨#[]⟩:ByteArray),false) else (bif !(z6v count 1 16) then ((⟨#[]⟩:ByteArray),false) else (bif !(z9f size) then ((⟨#[]⟩:ByteArray),false) else (bif !((z3i ma bb fa ia da 1).2.2.2) then ((⟨#[]⟩:ByteArray),false) else (bif decide ((z1p fa ia 1 1).2.2.1*(z1p fa ia 1 1).2.2.2<count) then ((⟨#[]⟩:ByteArray),false) else z8z count.toNat (fun k=>okQ (fdiv .f32 (z4i (z3i ma bb fa ia da 1).2.2.1 fa (z1p fa ia 1 1).1 (z1p fa ia 1 1).2.1 (z1p fa ia 1 1).2.2.1 k) size)) (fun k=>bitS (numS (fdiv .f32 (z4i (z3i ma bb fa ia da 1).2.2.1 fa (z1p fa ia 1 1).1 (z1p fa ia 1 1).2.1 (z1p fa ia 1 1).2.2.1 k) size)))))))
theorem zpx (ma:LN) (bb:Nat) (fa ia:Int) (da:LN) (count:Int) (size:Nat):zlr ma bb fa ia da count size=
 (bif !(zcl ma bb fa ia da) then ((⟨#[]⟩:ByteArray),false) else (bif !(z6v count 1 16) then ((⟨#[]⟩:ByteArray),false) else (bif !(z9f size) then ((⟨#[]⟩:ByteArray),false) else (bif !((z3i ma bb fa ia da 1).2.2.2) then ((⟨#[]⟩:ByteArray),false) else (bif decide ((z1p fa ia 1 1).2.2.1*(z1p fa ia 1 1).2.2.2<count) then ((⟨#[]⟩:ByteArray),false) else z8z count.toNat (fun k=>okQ (fdiv .f32 (z4i (z3i ma bb fa ia da 1).2.2.1 fa (z1p fa ia 1 1).1 (z1p fa ia 1 1).2.1 (z1p fa ia 1 1).2.2.1 k) size)) (fun k=>bitS (numS (fdiv .f32 (z4i (z3i ma bb fa ia da 1).2.2.1 fa (z1p fa ia 1 1).1 (z1p fa ia 1 1).2.1 (z1p fa ia 1 1).2.2.1 k) size)))))))):=rfl
def T_fvz (gb:OA) (mb pb bb:Nat) (fa ia:Int) (ja:OA) (sa ya:Nat) (count:Int) (size:Nat) (H:zn) (K:ByteArray→Bool→zn→Prop):Prop:=
 ∃(ma da:LN),IsL fF H gb mb ma∧IsL fF H ja sa da∧ma.length<1073741824∧da.length<1073741824∧
  (∀H':zn,Grow H H'→K (zlr ma bb fa ia da count size).1 (zlr ma bb fa ia da count size).2 H')
theorem z1bv {gb:OA} {mb pb bb:Nat} {fa ia:Int} {ja:OA} {sa ya:Nat} {count:Int} {size:Nat} {H:zn} {K:ByteArray→Bool→zn→Prop} (h:∃(ma da:LN),IsL fF H gb mb ma∧IsL fF H ja sa da∧ma.length<1073741824∧da.length<1073741824∧
  (∀H':zn,Grow H H'→K (zlr ma bb fa ia da count size).1 (zlr ma bb fa ia da count size).2 H')):T_fvz gb mb pb bb fa ia ja sa ya count size H K:=h
theorem z1c6 (q x:Nat):(zcj q x).1=(z1x (fint .down (z2m x))).getD 0∧(zcj q x).2=okQ q:=by
 rw [zlh]
 unfold okQ
 cases fle .f32 3379831808 q<;>exact ⟨rfl,rfl⟩
def zff:Env:=envOf [(45,z19e),(86,zuw),(87,zuq),(62,z18y),(88,z18k),(89,z18x)]
def F_fvz (args:List Value) (H:zn):(Value→zn→Prop)→Prop:=match args with
 | [.agg ⟨[.slice gb mb pb,.float .f32 bb]⟩,.agg ⟨[.int .i64 fa,.int .i64 ia,.slice ja sa ya]⟩,.int .i64 count,.float .f32 size]=>fun K=>T_fvz gb mb pb bb fa ia ja sa ya count size H fun (r1:ByteArray) (r2:Bool) (H':zn)=>K (.tuple #[.string r1,.bool r2]) H'
 | _=>fun _=>False
def S_fvz:FSpec:={F:=F_fvz,quiet:=false,tame:=false}
theorem z1jv (gb:OA) (mb pb bb:Nat) (fa ia:Int) (ja:OA) (sa ya:Nat) (count:Int) (size:Nat) (H:zn) (K:KT):zt Tryz.prog zff Tryz.f40 [.agg #[.slice gb mb pb,.float .f32 bb],.agg #[.int .i64 fa,.int .i64 ia,.slice ja sa ya],.int .i64 count,.float .f32 size] H K=
 (Al [.slice gb mb pb,.float .f32 bb] H fun b1 H1=>Al [.int .i64 fa,.int .i64 ia,.slice ja sa ya] H1 fun b2 H2=>zop b1 b2 H2 fun (r1:Bool) (H3:zn)=>Br (!r1) (K (.tuple #[.string (⟨#[]⟩:ByteArray),.bool false]) H3) (zde count 1 16 H3 fun (r2:Bool) (H4:zn)=>Br (!r2) (K (.tuple #[.string (⟨#[]⟩:ByteArray),.bool false]) H4) (zg4 size H4 fun (r3:Bool) (H5:zn)=>Br (!r3) (K (.tuple #[.string (⟨#[]⟩:ByteArray),.bool false]) H5) (zoi b1 b2 1 H5 fun (r4:Int) (r5:Int) (a1:OA) (r6:Nat) (r7:Nat) (r8:Bool) (H6:zn)=>Al [.int .i64 0,.int .i64 0,.slice none 0 0] H6 fun b3 H7=>isOwn H7 b3∧(∃l,rdN H7 b3 0 3=some l)∧Lt (setN H7 b3 0 [.int .i64 r4,.int .i64 r5,.slice a1 r6 r7]) fun H8=>∃x1:Int,  rdC H8 b2 0=some (.int .i64 x1)∧∃x2:Int,  rdC H8 b2 1=some (.int .i64 x2)∧zuz x1 x2 1 1 H8 fun (r9:Int) (r10:Int) (r11:Int) (r12:Int) (H9:zn)=>Br (!r8) (K (.tuple #[.string (⟨#[]⟩:ByteArray),.bool false]) H9) (Br (decide ((IntKind.wrap .i64 (r11*r12):Int)<count)) (K (.tuple #[.string (⟨#[]⟩:ByteArray),.bool false]) H9) (z1j (exL Tryz.prog zff (cl (cl (cr (cl (cr (cr (cr (cr (cr (cr (zo Tryz.f40))))))))))) 226348 768 [(0,65536)]) (ud2 (.int .i64 count::.float .f32 size::ud::.pointer (some ⟨b2,0,none⟩)::ud4 (.pointer (some ⟨b3,0,none⟩)::ud::.int .i64 r9::.int .i64 r10::.int .i64 r11::ud::.string (⟨#[]⟩:ByteArray)::.int .i64 0::ud81 []))) H9 (zu 0 (seqQ (exL Tryz.prog zff (cr (cr (cr (cr (cr (cr (cr (zo Tryz.f40)))))))) 768 768 []) (retK Tryz.prog Tryz.f40 K))))))))):=by kernel_rfl
abbrev zkn (b2 b3:Nat) (count r10 r11 r9:Int) (size:Nat) (vout:ByteArray) (k:Int)  :List Value:=(ud2 (.int .i64 count::.float .f32 size::ud::.pointer (some ⟨b2,0,none⟩)::ud4 (.pointer (some ⟨b3,0,none⟩)::ud::.int .i64 r9::.int .i64 r10::.int .i64 r11::ud::.string vout::.int .i64 k::ud81 [])))
theorem z1ju (b2 b3:Nat) (count r10 r11 r9:Int) (size:Nat) (vout:ByteArray) (k:Int)  (H:zn) (R:Post):exL Tryz.prog zff (cl (cl (cr (cl (cr (cr (cr (cr (cr (cr (zo Tryz.f40))))))))))) 226348 768 [(0,65536)] (zkn b2 b3 count r10 r11 r9 size vout k) H R=
 (Br (decide ((k:Int)<count)) (∃fj:OA,∃(aj tj:Nat),  rdC H b3 2=some (.slice fj aj tj)∧r11≠(0:Int)∧∃x4:Int,  rdC H b2 0=some (.int .i64 x4)∧r11≠(0:Int)∧(0:Int)≤IntKind.wrap .i64 ((IntKind.wrap .i64 ((IntKind.wrap .i64 ((IntKind.wrap .i64 (r10+(IntKind.wrap .i64 (Int.tdiv k r11))))*x4))+r9))+(Int.tmod k r11))∧IntKind.wrap .i64 ((IntKind.wrap .i64 ((IntKind.wrap .i64 ((IntKind.wrap .i64 (r10+(IntKind.wrap .i64 (Int.tdiv k r11))))*x4))+r9))+(Int.tmod k r11))<(aj:Int)∧∃b4 f1,(fj:OA)=some ⟨b4,f1,none⟩∧∃x5:Nat,  rdC H b4 (f1+(IntKind.wrap .i64 ((IntKind.wrap .i64 ((IntKind.wrap .i64 ((IntKind.wrap .i64 (r10+(IntKind.wrap .i64 (Int.tdiv k r11))))*x4))+r9))+(Int.tmod k r11)):Int).toNat*1)=some (.float .f32 x5)∧zjf (fdiv .f32 x5 size) (fadd .f32 (fdiv .f32 x5 size) 1056964608) H fun (r13:Nat) (r14:Bool) (H10:zn)=>Br (!r14) (R .ret (ud8 (.string (⟨#[]⟩:ByteArray)::.bool false::ud89 [])) H10) (∃n1:Int,ftoi .f32 r13 .i64=some n1∧2≠(0:Int)∧Br ((Int.tmod n1 2:Int) != 0) (vout.size+(⟨#[49]⟩:ByteArray).size<2 ^ 63∧R .normal (ud2 (.int .i64 count::.float .f32 size::ud::.pointer (some ⟨b2,0,none⟩)::ud4 (.pointer (some ⟨b3,0,none⟩)::ud::.int .i64 r9::.int .i64 r10::.int .i64 r11::ud::.string ((vout++(⟨#[49]⟩:ByteArray):ByteArray))::.int .i64 (IntKind.wrap .i64 (k+1))::ud81 []))) H10) (vout.size+(⟨#[48]⟩:ByteArray).size<2 ^ 63∧R .normal (ud2 (.int .i64 count::.float .f32 size::ud::.pointer (some ⟨b2,0,none⟩)::ud4 (.pointer (some ⟨b3,0,none⟩)::ud::.int .i64 r9::.int .i64 r10::.int .i64 r11::ud::.string ((vout++(⟨#[48]⟩:ByteArray):ByteArray))::.int .i64 (IntKind.wrap .i64 (k+1))::ud81 []))) H10))) (R (.exit 0) (ud16 (.string vout::ud82 [])) H)):=by kernel_rfl
def zxk (b2 b3:Nat) (count r10 r11 r9:Int) (size:Nat) (Inv:Nat→ByteArray→Int→zn→Prop):Nat→List Value→zn→Prop:=fun μ tm H=>∃(vout:ByteArray),∃k:Int,tm=(zkn b2 b3 count r10 r11 r9 size vout k)∧Inv μ vout k H
theorem z1js (b2 b3:Nat) (count r10 r11 r9:Int) (size:Nat) {Q:Post} (Inv:Nat→ByteArray→Int→zn→Prop) (ν:Nat) (vout:ByteArray) (k:Int)  (H:zn) (h0:Inv ν vout k H)
  (hs:∀(μ:Nat) (vout:ByteArray) (k:Int)  (H:zn),Inv μ vout k H→exL Tryz.prog zff (cl (cl (cr (cl (cr (cr (cr (cr (cr (cr (zo Tryz.f40))))))))))) 226348 768 [(0,65536)] (zkn b2 b3 count r10 r11 r9 size vout k) H (zx (zxk b2 b3 count r10 r11 r9 size Inv) μ Q)):z1j (exL Tryz.prog zff (cl (cl (cr (cl (cr (cr (cr (cr (cr (cr (zo Tryz.f40))))))))))) 226348 768 [(0,65536)]) (zkn b2 b3 count r10 r11 r9 size vout k) H Q:=
 ⟨zxk b2 b3 count r10 r11 r9 size Inv,ν,⟨vout,k,rfl,h0⟩,fun μ tm H h=>by obtain ⟨vout,k,rfl,hI⟩:=h;exact hs μ vout k  H hI⟩
theorem z1a4 {b2 b3:Nat} {count r10 r11 r9:Int} {size:Nat} {Q:Post} {Inv:Nat→ByteArray→Int→zn→Prop} {μ:Nat} (μ':Nat) {vout:ByteArray} {k:Int}  {H:zn} (hm:μ'<μ) (hI:Inv μ' vout k H):zx (zxk b2 b3 count r10 r11 r9 size Inv) μ Q .normal (zkn b2 b3 count r10 r11 r9 size vout k) H:=⟨μ',hm,vout,k,rfl,hI⟩
theorem z14s (vout:ByteArray) (H:zn) (K:KT)  {I:Nat→List Value→zn→Prop} {μ:Nat}:zx I μ (zu 0 (seqQ (exL Tryz.prog zff (cr (cr (cr (cr (cr (cr (cr (zo Tryz.f40)))))))) 768 768 []) (retK Tryz.prog Tryz.f40 K))) (.exit 0) (ud16 (.string vout::ud82 [])) H=
 (K (.tuple #[.string vout,.bool true]) H):=by kernel_rfl
theorem zqz (t8:ByteArray) (t9:Bool) (H:zn) (K:KT)  {I:Nat→List Value→zn→Prop} {μ:Nat}:zx I μ (zu 0 (seqQ (exL Tryz.prog zff (cr (cr (cr (cr (cr (cr (cr (zo Tryz.f40)))))))) 768 768 []) (retK Tryz.prog Tryz.f40 K))) .ret (ud8 (.string t8::.bool t9::ud89 [])) H=
 (K (.tuple #[.string t8,.bool t9]) H):=by kernel_rfl
theorem z10k:∀g,FnOk Tryz.prog g (zff g):=FnOk.envOf (by
 intro x hx
 simp only [List.mem_cons,List.not_mem_nil,or_false] at hx
 rcases hx with rfl | rfl | rfl | rfl | rfl | rfl
 ·exact z1e6
 ·exact f23z_ok
 ·exact zvy
 ·exact z1d7
 ·exact f11z_ok
 ·exact z1d3)
theorem z14r (gb:OA) (mb pb bb:Nat) (fa ia:Int) (ja:OA) (sa ya:Nat) (count:Int) (size:Nat) (H:zn) (K:KT) (h:T_fvz gb mb pb bb fa ia ja sa ya count size H fun (r1:ByteArray) (r2:Bool) (H':zn)=>K (.tuple #[.string r1,.bool r2]) H'):zt Tryz.prog zff Tryz.f40 [.agg #[.slice gb mb pb,.float .f32 bb],.agg #[.int .i64 fa,.int .i64 ia,.slice ja sa ya],.int .i64 count,.float .f32 size] H K:=by
 rw [z1jv]
 obtain ⟨ws,l,iw,il,bw,bl,hk⟩:=h
 obtain rfl:=iw.eqn
 obtain rfl:=il.eqn
 rw [zpx] at hk
 refine Al.intro fun b1 H1 e1 l1 g1 o1=>Al.intro fun b2 H2 e2 l2 g2 o2=>?_
 have G2:Grow H H2:=g1.trans g2
 have p1:=o1.grow g2
 refine z11m ⟨gb,ws.length,pb,bb,fa,ia,ja,l.length,ya,ws,l,(p1.rdN (nbl rfl)).trans rfl,(o2.rdN (nbl rfl)).trans rfl,iw.grow G2,il.grow G2,bw,bl,?_⟩
 refine Br.intro (fun hc=>?_) (fun hc=>?_)
 ·rw [z1e hc,Bool.not_false,cond_true] at hk
  exact hk H2 G2
 have hcan:=z1a hc
 rw [hcan,Bool.not_true,cond_false] at hk
 obtain ⟨w1,w2,w3,w4,w5,w6,w7⟩:=z1hd hcan
 have hwn:1≤ws.length:=by have:=z1he hcan;omega
 refine (?_:Br _ _ _)
 refine Br.intro (fun hc=>?_) (fun hc=>?_)
 ·rw [z1e hc,Bool.not_false,cond_true] at hk
  exact hk H2 G2
 have hin:=z1a hc
 rw [hin,Bool.not_true,cond_false] at hk
 obtain ⟨v1,v2⟩:1≤count∧count≤16:=f23z_t hin
 refine (?_:Br _ _ _)
 refine Br.intro (fun hc=>?_) (fun hc=>?_)
 ·rw [z1e hc,Bool.not_false,cond_true] at hk
  exact hk H2 G2
 rw [z1a hc,Bool.not_true,cond_false] at hk
 refine z11g ⟨gb,ws.length,pb,bb,ws,fa,ia,ja,l.length,ya,l,(p1.rdN (nbl rfl)).trans rfl,iw.grow G2,bw,hwn,(o2.rdN (nbl rfl)).trans rfl,il.grow G2,w1,w2,w3,w4,w5,by decide,by decide,fun a n ne H6 g6 w6'=>?_⟩
 have hd:=zs0 (f:=fun (k:Nat) a b l=>zmc ws bb fa ia false (k:Int) a b l) (W:=fa) (Hi:=ia) (n0:=l.length) (fun k l' hl' hk=>by obtain ⟨x,y,z⟩:=zry hk;exact ⟨x,y,z.trans hl'⟩) (1:Int).toNat 0 l rfl
 rw [show z2e (fun (k:Nat) a b l=>zmc ws bb fa ia false (k:Int) a b l) (1:Int).toNat 0 fa ia l=z3i ws bb fa ia l 1 from rfl] at hd
 generalize z3i ws bb fa ia l 1=L at *
 have up6:=w6'.up
 refine Al.intro fun b3 H7 e7 l7 g7 o7=>Lt.setN o7 (n:=3) ω20 rfl fun H8 l8 o8 k8=>?_
 have gg2:=G2.1
 have gg6:=g6.1
 have G8:Grow H H8:=((G2.trans g6).trans g7).keep ω2 k8
 have p2:=((o2.grow g6).grow g7).keep (b':=b3) (by have:=o2.lt;omega) k8
 have wL:=(w6'.grow g7).keepA (fun x y hx hy=>by cases hx;have:=up6 y hy;show b3≠_;omega) (OwnS.keep1 k8)
 refine ⟨fa,(p2.rdC 0).trans rfl,ia,(p2.rdC 1).trans rfl,w1,w2,w3,w4,by decide,by decide,?_⟩
 have z:=z8c fa ia 1 1 ⟨w1,w2,w3,w4⟩
 generalize z1p fa ia 1 1=r at *
 obtain ⟨rx,ry,rw_,rh⟩:=r
 dsimp only at z hk ⊢
 refine Br.intro (fun hp=>?_) (fun hp=>?_)
 ·rw [z1e hp,Bool.not_false,cond_true] at hk
  exact hk H8 G8
 rw [z1a hp,Bool.not_true,cond_false] at hk
 obtain ⟨d1,d2,d3⟩:=hd (z1a hp)
 have m1:0≤rw_*rh:=Int.mul_nonneg z.2.2.1 z.2.2.2.1
 have m2:rw_*rh≤16*16:=Int.mul_le_mul ω2 ω2 z.2.2.2.1 ω20
 rw [zp (n:=rw_*rh) ω2 ω2]
 refine Br.intro (fun hp=>?_) (fun hp=>?_)
 ·rw [hp,cond_true] at hk
  exact hk H8 G8
 rw [hp,cond_false] at hk
 have hp':=odf hp
 obtain ⟨n,rfl⟩:∃n:Nat,count=(n:Int):=⟨count.toNat,by omega⟩
 rw [Int.toNat_natCast] at hk
 have hw1:1≤rw_:=by
  by_cases h0:rw_=0
  ·rw [h0,Int.zero_mul] at hp';omega
  ·omega
 have hh1:1≤rh:=by
  by_cases h0:rh=0
  ·rw [h0,Int.mul_zero] at hp';omega
  ·omega
 have hll:=z4u (W:=fa) (H:=ia) w1 w2 w3 w4
 have iL:=wL.isL
 have eL:=wL.len
 subst eL
 refine z1js b2 b3 (n:Int) ry rw_ rx size (fun μ v t H'=>∃k:Nat,t=(k:Int)∧k≤n∧μ=n-k∧H'=H8∧v=(⟨((List.range k).map fun k=>bitS (numS (fdiv .f32 (z4i L.2.2.1 fa rx ry rw_ k) size))).toArray⟩:ByteArray)∧∀j,j<k→okQ (fdiv .f32 (z4i L.2.2.1 fa rx ry rw_ j) size)=true) n _ 0 H8
  ⟨0,rfl,Nat.zero_le _,rfl,rfl,rfl,fun j hj=>absurd hj (Nat.not_lt_zero _)⟩ ?_
 intro μ v t H' hI
 obtain ⟨k,rfl,hkn,rfl,rfl,rfl,hok⟩:=hI
 rw [z1ju]
 refine Br.intro (fun hd=>?_) (fun hd=>?_)
 ·have hd':=odt hd
  obtain ⟨c1,c2,c3,c4,c5,c6,c7⟩:=zhw (x:=rx) (y:=ry) (W:=fa) (H:=ia) (w:=rw_) (h:=rh) (i:=(k:Int)) z.1 z.2.1 hw1 hh1 z.2.2.2.2.1 z.2.2.2.2.2 w2 w4 ω2 ω2
  rw [show IntKind.wrap .i64 ((k:Int)+1)=(k:Int)+1 from zp ω2 ω2]
  obtain ⟨bq,oq,eq⟩:=iL.pos ω2
  refine ⟨_,_,_,(o8.rdC 2).trans rfl,by omega,fa,(p2.rdC 0).trans rfl,by omega,?_⟩
  rw [show IntKind.wrap .i64 (Int.tdiv (k:Int) rw_)=Int.tdiv (k:Int) rw_ from zp ω2 ω2,show IntKind.wrap .i64 (ry+Int.tdiv (k:Int) rw_)=ry+Int.tdiv (k:Int) rw_ from zp ω2 ω2,show IntKind.wrap .i64 ((ry+Int.tdiv (k:Int) rw_)*fa)=(ry+Int.tdiv (k:Int) rw_)*fa from zp ω2 ω2,show IntKind.wrap .i64 ((ry+Int.tdiv (k:Int) rw_)*fa+rx)=(ry+Int.tdiv (k:Int) rw_)*fa+rx from zp ω2 ω2,show IntKind.wrap .i64 ((ry+Int.tdiv (k:Int) rw_)*fa+rx+Int.tmod (k:Int) rw_)=(ry+Int.tdiv (k:Int) rw_)*fa+rx+Int.tmod (k:Int) rw_ from zp ω2 ω2]
  refine ⟨by omega,by omega,bq,oq,eq,z4i L.2.2.1 fa rx ry rw_ k,iL.rd (Grow.refl _) eq ω2 0,?_⟩
  have hdn:=z1c6 (fdiv .f32 (z4i L.2.2.1 fa rx ry rw_ k) size) (fadd .f32 (fdiv .f32 (z4i L.2.2.1 fa rx ry rw_ k) size) 1056964608)
  refine z11f ?_
  rw [hdn.1,hdn.2]
  cases ho:okQ (fdiv .f32 (z4i L.2.2.1 fa rx ry rw_ k) size) with
  | false=>
   refine Br.intro (fun _=>?_) (fun h=>by cases h)
   rw [zqz]
   rw [zgj (k:=k) ω2 ho] at hk
   exact hk _ G8
  | true=>
   refine Br.intro (fun h=>by cases h) (fun _=>?_)
   refine ⟨numS (fdiv .f32 (z4i L.2.2.1 fa rx ry rw_ k) size),zy4 ho,by decide,?_⟩
   have nx:∀j,j<k+1→okQ (fdiv .f32 (z4i L.2.2.1 fa rx ry rw_ j) size)=true:=fun j hj=>by
    rcases Nat.lt_succ_iff_lt_or_eq.1 hj with h | rfl
    ·exact hok j h
    ·exact ho
   rw [z16r]
   refine Br.intro (fun hb=>?_) (fun hb=>?_)
   ·refine ⟨z19n _ ω2 49,z1a4 (n-(k+1)) ω2 ⟨k+1,by omega,by omega,rfl,rfl,zvg (fun k=>bitS (numS (fdiv .f32 (z4i L.2.2.1 fa rx ry rw_ k) size))) k ?_,nx⟩⟩
    show bitS _=49
    unfold bitS;rw [hb];rfl
   ·refine ⟨z19n _ ω2 48,z1a4 (n-(k+1)) ω2 ⟨k+1,by omega,by omega,rfl,rfl,zvg (fun k=>bitS (numS (fdiv .f32 (z4i L.2.2.1 fa rx ry rw_ k) size))) k ?_,nx⟩⟩
    show bitS _=48
    unfold bitS;rw [hb];rfl
 ·have hd':=odf hd
  obtain rfl:k=n:=by omega
  rw [z14s]
  rw [ze6 hok] at hk
  exact hk _ G8
theorem z1jt:FnOk Tryz.prog 40 S_fvz:=FnOk.bodyF mix_ok z10k Tryz.func40 rfl ω9 ω9 fun args H=>by
 unfold F_fvz
 split
 ·refine ⟨?_,?_,?_,?_,fun K hk=>z14r _ _ _ _ _ _ _ _ _ _ _ H K hk⟩
  ·intro K K' h hk;obtain ⟨ws,l,i1,i2,b1,b2,k⟩:=hk;exact ⟨ws,l,i1,i2,b1,b2,(fun H' gg=>h _ _ (k H' gg))⟩
  ·nofun
  ·intro K hk;obtain ⟨ws,l,i1,i2,b1,b2,k⟩:=hk;exact ⟨_,_,k _ (Grow.refl _)⟩
  ·nofun
 ·exact Nice.no
def z2c (n low high:Int):Bool:=(bif decide ((low:Int)≤n) then decide ((n:Int)≤high) else false)
def z3f (n low high:Int) (H:zn) (K:Bool→zn→Prop):Prop:=K (z2c n low high) H
theorem z3g {n a b:Int} (h:z2c n a b=true):a≤n∧n≤b:=by
 unfold z2c at h
 by_cases h1:a≤n
 ·rw [dct h1,cond_true] at h;exact ⟨h1,odt h⟩
 ·rw [dcf h1] at h;cases h
theorem z4b {n low high:Int} {H:zn} {K:Bool→zn→Prop} (h:K (z2c n low high) H):z3f n low high H K:=h
def zu3:Env:=envOf []
def z18a (args:List Value) (H:zn):(Value→zn→Prop)→Prop:=match args with
 | [.int .i64 n,.int .i64 low,.int .i64 high]=>fun K=>z3f n low high H fun (r1:Bool) (H':zn)=>K (.bool r1) H'
 | _=>fun _=>False
def zaa:FSpec:={F:=z18a,quiet:=true,tame:=false}
theorem z1e5 (n low high:Int) (H:zn) (K:KT):zt Tryz.prog zu3 Tryz.f68 [.int .i64 n,.int .i64 low,.int .i64 high] H K=
 (Br (decide ((low:Int)≤n)) (K (.bool (decide ((n:Int)≤high))) H) (K (.bool false) H)):=by kernel_rfl
theorem zu4:∀g,FnOk Tryz.prog g (zu3 g):=FnOk.envOf (by
 intro x hx;cases hx)
theorem zwu (n low high:Int) (H:zn) (K:KT) (h:z3f n low high H fun (r1:Bool) (H':zn)=>K (.bool r1) H'):zt Tryz.prog zu3 Tryz.f68 [.int .i64 n,.int .i64 low,.int .i64 high] H K:=by
 rw [z1e5]
 unfold z3f z2c at h
 repeat' (first | exact h | (exfalso;simp_all;done) | (refine ⟨by decide,?_⟩) | (refine Br.intro (fun hb=>?_) (fun hb=>?_)<;>(try simp only [hb,cond_true,cond_false,Bool.not_true,Bool.not_false] at h)))
theorem z7z:FnOk Tryz.prog 68 zaa:=FnOk.bodyF mix_ok zu4 Tryz.func68 rfl ω9 ω9 fun args H=>by
 unfold z18a
 split
 ·refine ⟨?_,?_,?_,?_,fun K hk=>zwu _ _ _ H K hk⟩
  ·intro K K' h hk;have k:=hk;exact h _ _ k
  ·intro _ K hk;have k:=hk;exact ⟨_,k,fun K' k'=>k'⟩
  ·intro K hk;have k:=hk;exact ⟨_,_,k⟩
  ·nofun
 ·exact Nice.no
def zgl (x:Nat):Bool:=feq .f32 (fsub .f32 x x) 0
def zdd (x:Nat) (H:zn) (K:Bool→zn→Prop):Prop:=K (zgl x) H

theorem z10u {x:Nat} {H:zn} {K:Bool→zn→Prop} (h:K (zgl x) H):zdd x H K:=h
def zsx:Env:=envOf []
def z17a (args:List Value) (H:zn):(Value→zn→Prop)→Prop:=match args with
 | [.float .f32 x]=>fun K=>zdd x H fun (r1:Bool) (H':zn)=>K (.bool r1) H'
 | _=>fun _=>False
def zun:FSpec:={F:=z17a,quiet:=true,tame:=false}
theorem f13z_vc (x:Nat) (H:zn) (K:KT):zt Tryz.prog zsx Tryz.f118 [.float .f32 x] H K=
 (K (.bool (feq .f32 (fsub .f32 x x) 0)) H):=by kernel_rfl
theorem zsy:∀g,FnOk Tryz.prog g (zsx g):=FnOk.envOf (by
 intro x hx;cases hx)
theorem f13z_main (x:Nat) (H:zn) (K:KT) (h:zdd x H fun (r1:Bool) (H':zn)=>K (.bool r1) H'):zt Tryz.prog zsx Tryz.f118 [.float .f32 x] H K:=by
 rw [f13z_vc]
 unfold zdd zgl at h
 repeat' (first | exact h | (exfalso;simp_all;done) | (refine ⟨by decide,?_⟩) | (refine Br.intro (fun hb=>?_) (fun hb=>?_)<;>(try simp only [hb,cond_true,cond_false,Bool.not_true,Bool.not_false] at h)))
theorem f13z_ok:FnOk Tryz.prog 118 zun:=FnOk.bodyF mix_ok zsy Tryz.func118 rfl ω9 ω9 fun args H=>by
 unfold z17a
 split
 ·refine ⟨?_,?_,?_,?_,fun K hk=>f13z_main _ H K hk⟩
  ·intro K K' h hk;have k:=hk;exact h _ _ k
  ·intro _ K hk;have k:=hk;exact ⟨_,k,fun K' k'=>k'⟩
  ·intro K hk;have k:=hk;exact ⟨_,_,k⟩
  ·nofun
 ·exact Nice.no

def zbr (pf:List LN) (t2:Bool) (t9:Int) (k2_2:Bool→Int→Bool):Nat→Bool→Int→Bool
 | 0,_,_=>false
 | μ2+1,t2_2,t15=>(bif decide ((t15:Int)<((((pf).getD (t9:Int).toNat [])).length:Int)) then (bif !((zgl (((((pf).getD (t9:Int).toNat [])).getD (t15:Int).toNat 0)))) then false else (zbr pf t2 t9 k2_2 μ2 t2_2 (t15+1))) else (k2_2 t2_2 t15))
def zh0:=fun pf t2 t9 k2_2 μ2 t2_2 t15=>@zbr.eq_2 pf t2 t9 k2_2 t2_2 t15 μ2
def z6x (pf:List LN):Nat→Bool→Int→Bool
 | 0,_,_=>false
 | μ+1,t2,t9=>(bif decide ((t9:Int)<(pf.length:Int)) then (zbr pf t2 t9 (fun (t2_2:Bool) (t15:Int)=>(z6x pf μ t2_2 (t9+1))) (Int.toNat (((((pf).getD (t9:Int).toNat [])).length:Int)-(0:Int))+1) t2 (0:Int)) else true)
def zgz:=fun pf μ t2 t9=>@z6x.eq_2 pf t2 t9 μ
def z7i (pf:List LN):Bool:=(z6x pf (Int.toNat ((pf.length:Int)-(0:Int))+1) false (0:Int))
def zpu:=@z7i.eq_1
def zmj (sf:OA) (ye zf:Nat) (H:zn) (K:Bool→zn→Prop):Prop:=∃(pf:List LN),IsLL fF H sf ye pf∧pf.length<1073741824∧(∀y ∈ pf,y.length<1073741824)∧K (z7i pf) H
theorem zhu {sf:OA} {ye zf:Nat} {H:zn} {K:Bool→zn→Prop} (h:∃(pf:List LN),IsLL fF H sf ye pf∧pf.length<1073741824∧(∀y ∈ pf,y.length<1073741824)∧K (z7i pf) H):zmj sf ye zf H K:=h

def z8u:Env:=envOf [(118,zun)]
def F_fnz (args:List Value) (H:zn):(Value→zn→Prop)→Prop:=match args with
 | [.slice sf ye zf]=>fun K=>zmj sf ye zf H fun (r1:Bool) (H':zn)=>K (.bool r1) H'
 | _=>fun _=>False
def zux:FSpec:={F:=F_fnz,quiet:=true,tame:=false}
theorem z1ja (sf:OA) (ye zf:Nat) (H:zn) (K:KT):zt Tryz.prog z8u Tryz.f104 [.slice sf ye zf] H K=
 (z1j (exL Tryz.prog z8u (cl (cl (cr (cl (cr (zo Tryz.f104)))))) 896 4 [(0,0)]) (ud7 (.slice sf ye zf::.int .i64 (ye:Int)::.int .i64 0::ud14 [])) H (zu 0 (seqQ (exL Tryz.prog z8u (cr (cr (zo Tryz.f104))) 4 4 []) (retK Tryz.prog Tryz.f104 K)))):=by kernel_rfl
abbrev zkj (sf:OA) (zf ye:Nat) (t9:Int)  :List Value:=(ud7 (.slice sf ye zf::.int .i64 (ye:Int)::.int .i64 t9::ud14 []))
theorem z1j8 (sf:OA) (zf ye:Nat) (t9:Int)  (H:zn) (R:Post):exL Tryz.prog z8u (cl (cl (cr (cl (cr (zo Tryz.f104)))))) 896 4 [(0,0)] (zkj sf zf ye t9) H R=
 (Br (decide ((t9:Int)<(ye:Int))) ((0:Int)≤t9∧t9<(ye:Int)∧∃b1 f1,(sf:OA)=some ⟨b1,f1,none⟩∧∃vg:OA,∃(pg yg:Nat),  rdC H b1 (f1+(t9:Int).toNat*1)=some (.slice vg pg yg)∧z1j (exL Tryz.prog z8u (cl (cl (cr (cr (cl (cl (cr (cr (cl (cl (cr (cl (cr (zo Tryz.f104)))))))))))))) 58240 4 [(2,896),(1,896),(0,0)]) (ud7 (.slice sf ye zf::.int .i64 (ye:Int)::.int .i64 t9::ud3 (.slice vg pg yg::.int .i64 (pg:Int)::.int .i64 0::ud8 []))) H (zu 2 (zu 1 (seqQ (exL Tryz.prog z8u (cr (cr (cr (cl (cl (cr (cl (cr (zo Tryz.f104))))))))) 896 4 [(0,0)]) (R))))) (R (.exit 0) (ud24 []) H)):=by kernel_rfl
def zxe (sf:OA) (zf ye:Nat) (Inv:Nat→Int→zn→Prop):Nat→List Value→zn→Prop:=fun μ tm H=>∃t9:Int,tm=(zkj sf zf ye t9)∧Inv μ t9 H
theorem z1j4 (sf:OA) (zf ye:Nat) {Q:Post} (Inv:Nat→Int→zn→Prop) (ν:Nat) (t9:Int)  (H:zn) (h0:Inv ν t9 H)
  (hs:∀(μ:Nat) (t9:Int)  (H:zn),Inv μ t9 H→exL Tryz.prog z8u (cl (cl (cr (cl (cr (zo Tryz.f104)))))) 896 4 [(0,0)] (zkj sf zf ye t9) H (zx (zxe sf zf ye Inv) μ Q)):z1j (exL Tryz.prog z8u (cl (cl (cr (cl (cr (zo Tryz.f104)))))) 896 4 [(0,0)]) (zkj sf zf ye t9) H Q:=
 ⟨zxe sf zf ye Inv,ν,⟨t9,rfl,h0⟩,fun μ tm H h=>by obtain ⟨t9,rfl,hI⟩:=h;exact hs μ t9  H hI⟩
theorem z1j6 {sf:OA} {zf ye:Nat} {Q:Post} {Inv:Nat→Int→zn→Prop} {μ:Nat} (μ':Nat) {t9:Int}  {H:zn} (hm:μ'<μ) (hI:Inv μ' t9 H):zx (zxe sf zf ye Inv) μ Q .normal (zkj sf zf ye t9) H:=⟨μ',hm,t9,rfl,hI⟩
theorem z14c  (H:zn) (K:KT)  {I:Nat→List Value→zn→Prop} {μ:Nat}:zx I μ (zu 0 (seqQ (exL Tryz.prog z8u (cr (cr (zo Tryz.f104))) 4 4 []) (retK Tryz.prog Tryz.f104 K))) (.exit 0) (ud24 []) H=
 (K (.bool true) H):=by kernel_rfl
theorem zqt (t2:Bool) (H:zn) (K:KT)  {I:Nat→List Value→zn→Prop} {μ:Nat}:zx I μ (zu 0 (seqQ (exL Tryz.prog z8u (cr (cr (zo Tryz.f104))) 4 4 []) (retK Tryz.prog Tryz.f104 K))) .ret (ud2 (.bool t2::ud21 [])) H=
 (K (.bool t2) H):=by kernel_rfl
abbrev zkk (sf:OA) (zf ye:Nat) (t9:Int) (vg:OA) (yg pg:Nat) (t15:Int)  :List Value:=(ud7 (.slice sf ye zf::.int .i64 (ye:Int)::.int .i64 t9::ud3 (.slice vg pg yg::.int .i64 (pg:Int)::.int .i64 t15::ud8 [])))
theorem z1j9 (sf:OA) (zf ye:Nat) (t9:Int) (vg:OA) (yg pg:Nat) (t15:Int)  (H:zn) (R:Post):exL Tryz.prog z8u (cl (cl (cr (cr (cl (cl (cr (cr (cl (cl (cr (cl (cr (zo Tryz.f104)))))))))))))) 58240 4 [(2,896),(1,896),(0,0)] (zkk sf zf ye t9 vg yg pg t15) H R=
 (Br (decide ((t15:Int)<(pg:Int))) ((0:Int)≤t15∧t15<(pg:Int)∧∃b2 f2,(vg:OA)=some ⟨b2,f2,none⟩∧∃x2:Nat,  rdC H b2 (f2+(t15:Int).toNat*1)=some (.float .f32 x2)∧zdd x2 H fun (r1:Bool) (H1:zn)=>Br (!r1) (R .ret (ud2 (.bool false::ud21 [])) H1) (R .normal (ud7 (.slice sf ye zf::.int .i64 (ye:Int)::.int .i64 t9::ud3 (.slice vg pg yg::.int .i64 (pg:Int)::.int .i64 (IntKind.wrap .i64 (t15+1))::ud8 []))) H1)) (R (.exit 2) (ud7 (.slice sf ye zf::.int .i64 (ye:Int)::.int .i64 t9::ud14 [])) H)):=by kernel_rfl
def zxf (sf:OA) (zf ye:Nat) (t9:Int) (vg:OA) (yg pg:Nat) (Inv:Nat→Int→zn→Prop):Nat→List Value→zn→Prop:=fun μ tm H=>∃t15:Int,tm=(zkk sf zf ye t9 vg yg pg t15)∧Inv μ t15 H
theorem z1j5 (sf:OA) (zf ye:Nat) (t9:Int) (vg:OA) (yg pg:Nat) {Q:Post} (Inv:Nat→Int→zn→Prop) (ν:Nat) (t15:Int)  (H:zn) (h0:Inv ν t15 H)
  (hs:∀(μ:Nat) (t15:Int)  (H:zn),Inv μ t15 H→exL Tryz.prog z8u (cl (cl (cr (cr (cl (cl (cr (cr (cl (cl (cr (cl (cr (zo Tryz.f104)))))))))))))) 58240 4 [(2,896),(1,896),(0,0)] (zkk sf zf ye t9 vg yg pg t15) H (zx (zxf sf zf ye t9 vg yg pg Inv) μ Q)):z1j (exL Tryz.prog z8u (cl (cl (cr (cr (cl (cl (cr (cr (cl (cl (cr (cl (cr (zo Tryz.f104)))))))))))))) 58240 4 [(2,896),(1,896),(0,0)]) (zkk sf zf ye t9 vg yg pg t15) H Q:=
 ⟨zxf sf zf ye t9 vg yg pg Inv,ν,⟨t15,rfl,h0⟩,fun μ tm H h=>by obtain ⟨t15,rfl,hI⟩:=h;exact hs μ t15  H hI⟩
theorem z1j7 {sf:OA} {zf ye:Nat} {t9:Int} {vg:OA} {yg pg:Nat} {Q:Post} {Inv:Nat→Int→zn→Prop} {μ:Nat} (μ':Nat) {t15:Int}  {H:zn} (hm:μ'<μ) (hI:Inv μ' t15 H):zx (zxf sf zf ye t9 vg yg pg Inv) μ Q .normal (zkk sf zf ye t9 vg yg pg t15) H:=⟨μ',hm,t15,rfl,hI⟩
theorem z14d (sf:OA) (zf ye:Nat) (t9:Int) (H:zn)  (R:Post) {I:Nat→List Value→zn→Prop} {μ:Nat}:zx I μ (zu 2 (zu 1 (seqQ (exL Tryz.prog z8u (cr (cr (cr (cl (cl (cr (cl (cr (zo Tryz.f104))))))))) 896 4 [(0,0)]) (R)))) (.exit 2) (ud7 (.slice sf ye zf::.int .i64 (ye:Int)::.int .i64 t9::ud14 [])) H=
 (R .normal (ud7 (.slice sf ye zf::.int .i64 (ye:Int)::.int .i64 (IntKind.wrap .i64 (t9+1))::ud14 [])) H):=by kernel_rfl
theorem zqu (t2_2:Bool) (H:zn)  (R:Post) {I:Nat→List Value→zn→Prop} {μ:Nat}:zx I μ (zu 2 (zu 1 (seqQ (exL Tryz.prog z8u (cr (cr (cr (cl (cl (cr (cl (cr (zo Tryz.f104))))))))) 896 4 [(0,0)]) (R)))) .ret (ud2 (.bool t2_2::ud21 [])) H=
 (R .ret (ud2 (.bool t2_2::ud21 [])) H):=by kernel_rfl
theorem z10d:∀g,FnOk Tryz.prog g (z8u g):=FnOk.envOf (by
 intro x hx
 simp only [List.mem_cons,List.not_mem_nil,or_false] at hx
 subst hx;exact f13z_ok)
theorem z14b (sf:OA) (ye zf:Nat) (H:zn) (K:KT) (h:zmj sf ye zf H fun (r1:Bool) (H':zn)=>K (.bool r1) H'):zt Tryz.prog z8u Tryz.f104 [.slice sf ye zf] H K:=by
 rw [z1ja]
 obtain ⟨pf,i_lists,bd_22,bb_l_lists,hk⟩:=h
 obtain rfl:=i_lists.eqn
 have e:(z7i pf)=_:=rfl
 have e:=e.trans (zpu pf)
 have g0:=Grow.refl H
 refine z1j4 _ _ _ (fun (μ:Nat) (t9:Int) (H_1:zn)=>∃t2:Bool,H=H_1∧(0:Int)≤t9∧t9≤(pf.length:Int)∧(pf.length:Int)-t9≤(μ:Int)∧z7i pf=z6x pf (μ+1) t2 t9) (Int.toNat ((pf.length:Int)-(0:Int))) _ H ?_ ?_
 ·exact ⟨_,rfl,ω7,ω7,ω2,e⟩
 ·intro μ t9  H_1 hI
  obtain ⟨t2,rfl,v_1,v_2,hμ,e⟩:=hI
  rw [z1j8]
  have e:=e.trans (zgz pf μ t2 t9)
  have l_3:=g0.1
  refine Br.intro (fun c_4=>?_) (fun c_4=>?_)
  ·have e:=e.trans (zw c_4)
   have c_4':=odt c_4
   obtain ⟨b_5,f_6,q_7⟩:=((i_lists.grow g0)).pos ω0
   refine ⟨by omega,by omega,b_5,f_6,q_7,?_⟩
   obtain ⟨a8,n_9,e_10,r_11,gh⟩:=(i_lists).rd (i:=(t9:Int).toNat) g0 q_7 ω2
   obtain rfl:=gh.eqn
   refine ⟨a8,_,e_10,r_11,?_⟩
   have z13:=z14y bb_l_lists (t9:Int).toNat
   refine z1j5 _ _ _ _ _ _ _ (fun (μ2:Nat) (t15:Int) (H_2:zn)=>∃t2_2:Bool,H=H_2∧(0:Int)≤t15∧t15≤((((pf).getD (t9:Int).toNat [])).length:Int)∧((((pf).getD (t9:Int).toNat [])).length:Int)-t15≤(μ2:Int)∧z7i pf=zbr pf t2 t9 (fun (t2_2:Bool) (t15:Int)=>(z6x pf μ t2_2 (t9+1))) (μ2+1) t2_2 t15) (Int.toNat (((((pf).getD (t9:Int).toNat [])).length:Int)-(0:Int))) _ H ?_ ?_
   ·exact ⟨_,rfl,ω7,ω7,ω2,e⟩
   ·intro μ2 t15  H_2 hI
    obtain ⟨t2_2,rfl,v_14,v_15,hμ,e⟩:=hI
    rw [z1j9]
    have e:=e.trans (zh0 pf t2 t9 (fun (t2_2:Bool) (t15:Int)=>(z6x pf μ t2_2 (t9+1))) μ2 t2_2 t15)
    have l_16:=g0.1
    refine Br.intro (fun c_17=>?_) (fun c_17=>?_)
    ·have e:=e.trans (zw c_17)
     have c_17':=odt c_17
     obtain ⟨b18,f19,q_20⟩:=((gh.grow g0)).pos ω0
     refine ⟨by omega,by omega,b18,f19,q_20,?_⟩
     refine ⟨((((pf).getD (t9:Int).toNat [])).getD (t15:Int).toNat 0),(gh).rd g0 q_20 ω2 _,?_⟩
     refine z10u ?_
     refine Br.intro (fun c_21=>?_) (fun c_21=>?_)
     ·have e:=e.trans (zw c_21)
      have c_21n:=z1e c_21
      rw [zqu]
      rw [zqt]
      rw [e] at hk
      exact hk
     ·have e:=e.trans (zv c_21)
      have c_21n:=z1a c_21
      rw [show IntKind.wrap .i64 (t15+1)=(t15+1) from zp ω2 ω2]
      refine z1j7 (μ2-1) ω16 ⟨_,rfl,ω1,ω1,ω16,ω28⟩
    ·have e:=e.trans (zv c_17)
     have c_17':=odf c_17
     rw [z14d]
     rw [show IntKind.wrap .i64 (t9+1)=(t9+1) from zp ω2 ω2]
     refine z1j6 (μ-1) ω16 ⟨_,rfl,ω1,ω1,ω16,ω13⟩
  ·have e:=e.trans (zv c_4)
   have c_4':=odf c_4
   rw [z14c]
   rw [e] at hk
   exact hk
theorem zp6:FnOk Tryz.prog 104 zux:=FnOk.bodyF mix_ok z10d Tryz.func104 rfl ω9 ω9 fun args H=>by
 unfold F_fnz
 split
 ·refine ⟨?_,?_,?_,?_,fun K hk=>z14b _ _ _ H K hk⟩
  ·intro K K' h hk;obtain ⟨pf,i_lists,bd_22,bb_l_lists,k⟩:=hk;exact ⟨pf,i_lists,bd_22,bb_l_lists,h _ _ k⟩
  ·intro _ K hk;obtain ⟨pf,i_lists,bd_22,bb_l_lists,k⟩:=hk;exact ⟨_,k,fun K' k'=>⟨pf,i_lists,bd_22,bb_l_lists,k'⟩⟩
  ·intro K hk;obtain ⟨pf,i_lists,bd_22,bb_l_lists,k⟩:=hk;exact ⟨_,_,k⟩
  ·nofun
 ·exact Nice.no
def zck (x:Nat):Bool:=(bif (zgl x) then flt .f32 0 x else false)
def zg7 (x:Nat) (H:zn) (K:Bool→zn→Prop):Prop:=K (zck x) H

theorem z11l {x:Nat} {H:zn} {K:Bool→zn→Prop} (h:K (zck x) H):zg7 x H K:=h
def zu1:Env:=envOf [(118,zun)]
def z17z (args:List Value) (H:zn):(Value→zn→Prop)→Prop:=match args with
 | [.float .f32 x]=>fun K=>zg7 x H fun (r1:Bool) (H':zn)=>K (.bool r1) H'
 | _=>fun _=>False
def zuu:FSpec:={F:=z17z,quiet:=true,tame:=false}
theorem z1dz (x:Nat) (H:zn) (K:KT):zt Tryz.prog zu1 Tryz.f91 [.float .f32 x] H K=
 (zdd x H fun (r1:Bool) (H1:zn)=>Br r1 (K (.bool (flt .f32 0 x)) H1) (K (.bool false) H1)):=by kernel_rfl
theorem zu2:∀g,FnOk Tryz.prog g (zu1 g):=FnOk.envOf (by
 intro x hx
 simp only [List.mem_cons,List.not_mem_nil,or_false] at hx
 subst hx;exact f13z_ok)
theorem zwq (x:Nat) (H:zn) (K:KT) (h:zg7 x H fun (r1:Bool) (H':zn)=>K (.bool r1) H'):zt Tryz.prog zu1 Tryz.f91 [.float .f32 x] H K:=by
 rw [z1dz]
 simp only [zdd]
 unfold zg7 zck at h
 repeat' (first | exact h | (exfalso;simp_all;done) | (refine ⟨by decide,?_⟩) | (refine Br.intro (fun hb=>?_) (fun hb=>?_)<;>(try simp only [hb,cond_true,cond_false,Bool.not_true,Bool.not_false] at h)))
theorem zwr:FnOk Tryz.prog 91 zuu:=FnOk.bodyF mix_ok zu2 Tryz.func91 rfl ω9 ω9 fun args H=>by
 unfold z17z
 split
 ·refine ⟨?_,?_,?_,?_,fun K hk=>zwq _ H K hk⟩
  ·intro K K' h hk;have k:=hk;exact h _ _ k
  ·intro _ K hk;have k:=hk;exact ⟨_,k,fun K' k'=>k'⟩
  ·intro K hk;have k:=hk;exact ⟨_,_,k⟩
  ·nofun
 ·exact Nice.no

def z7h (ma:LN) (bb:Nat):Bool:=(bif (z2c (ma.length:Int) (1:Int) (8:Int)) then (bif (z7i ([ma])) then (zck bb) else false) else false)
def zpn:=@z7h.eq_1
def zqa (gb:OA) (mb pb bb:Nat) (H:zn) (K:Bool→zn→Prop):Prop:=∃ma:LN,IsL fF H gb mb ma∧ma.length<1073741824∧((∀H':zn,Grow H H'→K (z7h ma bb) H'))
theorem zmi {gb:OA} {mb pb bb:Nat} {H:zn} {K:Bool→zn→Prop} (h:∃ma:LN,IsL fF H gb mb ma∧ma.length<1073741824∧((∀H':zn,Grow H H'→K (z7h ma bb) H'))):zqa gb mb pb bb H K:=h

def E_fdz:Env:=envOf [(68,zaa),(104,zux),(91,zuu)]
def F_fdz (args:List Value) (H:zn):(Value→zn→Prop)→Prop:=match args with
 | [.agg ⟨[.slice gb mb pb,.float .f32 bb]⟩]=>fun K=>zqa gb mb pb bb H fun (r1:Bool) (H':zn)=>K (.bool r1) H'
 | _=>fun _=>False
def S_fdz:FSpec:={F:=F_fdz,quiet:=false,tame:=true}
theorem z1ho (gb:OA) (mb pb bb:Nat) (H:zn) (K:KT):zt Tryz.prog E_fdz Tryz.f49 [.agg #[.slice gb mb pb,.float .f32 bb]] H K=
 (Al [.slice gb mb pb,.float .f32 bb] H fun b1 H1=>∃vg:OA,∃(pg yg:Nat),  rdC H1 b1 0=some (.slice vg pg yg)∧z3f (pg:Int) 1 8 H1 fun (r1:Bool) (H2:zn)=>Br r1 (∃sk:OA,∃(rk uk:Nat),  rdC H2 b1 0=some (.slice sk rk uk)∧Al [.slice sk rk uk] H2 fun b2 H3=>zmj (some ⟨b2,0,none⟩) 1 1 H3 fun (r2:Bool) (H4:zn)=>Br r2 (∃x3:Nat,  rdC H4 b1 1=some (.float .f32 x3)∧zg7 x3 H4 fun (r3:Bool) (H5:zn)=>K (.bool r3) H5) (K (.bool false) H4)) (K (.bool false) H2)):=by kernel_rfl
theorem zzt:∀g,FnOk Tryz.prog g (E_fdz g):=FnOk.envOf (by
 intro x hx
 simp only [List.mem_cons,List.not_mem_nil,or_false] at hx
 rcases hx with rfl | rfl | rfl
 ·exact z7z
 ·exact zp6
 ·exact zwr)
theorem ω15 {P:Prop} (h:P:=by first | assumption | exact zph (by assumption) (by omega) | exact zph (by assumption:_∧(_∨_)).2 (by omega) | (intro y hy;simp only [List.mem_cons,List.not_mem_nil,or_false] at hy;first | omega | (subst hy;omega) | (rcases hy with rfl | rfl<;>omega) | (rcases hy with rfl | rfl | rfl<;>omega))):P:=h
theorem z13d (gb:OA) (mb pb bb:Nat) (H:zn) (K:KT) (h:zqa gb mb pb bb H fun (r1:Bool) (H':zn)=>K (.bool r1) H'):zt Tryz.prog E_fdz Tryz.f49 [.agg #[.slice gb mb pb,.float .f32 bb]] H K:=by
 rw [z1ho]
 obtain ⟨ma,xf,bd_25,hk⟩:=h
 obtain rfl:=xf.eqn
 have e:(z7h ma bb)=_:=rfl
 have e:=e.trans (zpn ma bb)
 have g0:=Grow.refl H
 refine Al.intro (fun b_1 H_1 hb_2 hl_3 g_4 o_5=>?_)
 have l_7:=g_4.1
 have g_8:=g0.trans g_4
 have l_9:=g_8.1
 have w24:=o_5.lt
 refine ⟨gb,ma.length,pb,(o_5.rdC _).trans rfl,?_⟩
 refine z4b ?_
 refine Br.intro (fun c_10=>?_) (fun c_10=>?_)
 ·have e:=e.trans (zw c_10)
  have c_10':=z3g c_10
  refine ⟨gb,ma.length,pb,(o_5.rdC _).trans rfl,?_⟩
  refine Al.intro (fun b_11 H_2 hb_12 hl_13 g_14 o15=>?_)
  have l_17:=g_14.1
  have g_18:=g_8.trans g_14
  have l_19:=g_18.1
  have o20:=o_5.grow g_14
  have w21:=o20.lt
  have w23:=o15.lt
  refine zhu ⟨[ma],⟨_,o15.rdAll rfl,LLc.cons (xf.grow g_18) (LLc.nil _ _)⟩,ω0,ω15,?_⟩
  refine Br.intro (fun c_22=>?_) (fun c_22=>?_)
  ·have e:=e.trans (zw c_22)
   refine ⟨bb,(o20.rdC _).trans rfl,?_⟩
   refine z11l ?_
   rw [e] at hk
   exact hk  H_2 g_18 
  ·have e:=e.trans (zv c_22)
   rw [e] at hk
   exact hk  H_2 g_18 
 ·have e:=e.trans (zv c_10)
  rw [e] at hk
  exact hk  H_1 g_8 
theorem zwy:FnOk Tryz.prog 49 S_fdz:=FnOk.bodyF mix_ok zzt Tryz.func49 rfl ω9 ω9 fun args H=>by
 unfold F_fdz
 split
 ·refine ⟨?_,?_,?_,?_,fun K hk=>z13d _ _ _ _ H K hk⟩
  ·intro K K' h hk;obtain ⟨ma,xf,bd_25,k⟩:=hk;exact ⟨ma,xf,bd_25,(fun  H' gg  =>h _ _ (k  H' gg))⟩
  ·nofun
  ·intro K hk;obtain ⟨ma,xf,bd_25,k⟩:=hk;exact ⟨_,_,k H (Grow.refl H)⟩
  ·intro _ K hk;obtain ⟨ma,xf,bd_25,k⟩:=hk;exact ⟨ma,xf,bd_25,(fun  H' gg  =>⟨gg,k  H' gg⟩)⟩
 ·exact Nice.no
end Go.Proofs.YthheoefadijhdaaGreat.Ai
