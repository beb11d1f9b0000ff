/- What functions of the program come to on the abstract machine, and that they do so; printed by a program of mine around proofs of mine. -/
import Derived.Test.YthheoefadijhdaaGreatFFnExactLiftPicture1
set_option linter.unusedVariables false
set_option linter.unusedSimpArgs false
set_option linter.defProp false
set_option maxRecDepth 100000
set_option maxHeartbeats 1000000
namespace Go.Proofs.YthheoefadijhdaaGreat.Ai
open Go
attribute [local irreducible] z5v zv
def zgt (env:Env) (x:Value) (H:zp) (wide high:Int) (g:Int→Int→Nat):Prop:=
 ∀(u v:Int),0≤u→u<wide→0≤v→v<high→wide≤16→high≤16→∀(H1:zp),Grow H H1→∀K:Value→zp→Prop,(∀H2:zp,Grow H1 H2→K (.float .f32 (g u v)) H2)→zev env x [.int .i64 u,.int .i64 v] H1 K
def z8z (wide high:Int) (g:Int→Int→Nat):Int×Int×LN×Bool:=bif z3b wide 1 16 then (bif z3b high 1 16 then z9q wide high (picL wide.toNat high.toNat g) else (0,0,[],false)) else (0,0,[],false)
/-! fuz: function 82 -/
def z5t:Env:=envOf [(999999,zed),(68,zc2),(83,S_f4z),(84,S_fez),(113,S_f9z)]
def ztp (wide high:Int) (light_f:Fn) (light_x light_y:Array Value) (H:zp) (K:Int→Int→OA→Nat→Nat→Bool→zp→Prop):Prop:=
 ∃(g:Int→Int→Nat),valQ z5t (.func light_f light_x light_y)=true∧zgt z5t (.func light_f light_x light_y) H wide high g∧
  (∀(sd:OA) (ae zd:Nat),∀H':zp,Grow H H'→OwnS fF H' H.length sd ae zd ((z8z wide high g).2.2.1)→K ((z8z wide high g).1) ((z8z wide high g).2.1) sd ae zd ((z8z wide high g).2.2.2) H')
theorem ztq {wide high:Int} {light_f:Fn} {light_x light_y:Array Value} {H:zp} {K:Int→Int→OA→Nat→Nat→Bool→zp→Prop} (h:∃(g:Int→Int→Nat),valQ z5t (.func light_f light_x light_y)=true∧zgt z5t (.func light_f light_x light_y) H wide high g∧
  (∀(sd:OA) (ae zd:Nat),∀H':zp,Grow H H'→OwnS fF H' H.length sd ae zd ((z8z wide high g).2.2.1)→K ((z8z wide high g).1) ((z8z wide high g).2.1) sd ae zd ((z8z wide high g).2.2.2) H')):ztp wide high light_f light_x light_y H K:=h
theorem zbg (wide high:Int) (g:Int→Int→Nat):((z8z wide high g).2.2.1.length:Int)≤256:=by
 unfold z8z
 cases h1:z3b wide 1 16 with
 | false=>show ((0:Nat):Int)≤256;omega
 | true=>
  cases h2:z3b high 1 16 with
  | false=>show ((0:Nat):Int)≤256;omega
  | true=>
   have w1:=z4h h1
   have w2:=z4h h2
   rw [cond_true,cond_true,z4g]
   cases !(z1q wide high (picL wide.toNat high.toNat g)) with
   | true=>show ((0:Nat):Int)≤256;omega
   | false=>
    show ((picL wide.toNat high.toNat g).length:Int)≤256
    rw [z2r]
    have:high.toNat*wide.toNat≤16*16:=Nat.mul_le_mul ω2 ω2
    omega
theorem zx5 (u:Nat) (F:Int→Nat):rowL (u+1) F=rowL u F++[F (u:Int)]:=by
 unfold rowL
 rw [List.range_succ,List.map_append];rfl
def F_fuz (args:List Value) (H:zp):(Value→zp→Prop)→Prop:=match args with
 | [.int .i64 wide,.int .i64 high,.func light_f light_x light_y]=>fun K=>ztp wide high light_f light_x light_y H fun (ld:Int) (jd:Int) (ia:OA) (ma:Nat) (ja:Nat) (r2:Bool) (H':zp)=>K (.tuple #[.agg #[.int .i64 ld,.int .i64 jd,.slice ia ma ja],.bool r2]) H'
 | _=>fun _=>False
def S_fuz:FSpec:={F:=F_fuz,quiet:=false,tame:=true}
theorem z1hl (wide high:Int) (light_f:Fn) (light_x:Array Value) (light_y:Array Value) (H:zp) (K:KT):zv Tryz.prog z5t Tryz.f82 [.int .i64 wide,.int .i64 high,.func light_f light_x light_y] H K=
 (Al [.int .i64 0,.int .i64 0,.slice none 0 0] H fun b1 H1=>z3y wide 1 16 H1 fun (r1:Bool) (H2:zp)=>Br (!r1) (isOwn H2 b1∧(∃l,rdN H2 b1 0 3=some l)∧Lt (setN H2 b1 0 [.int .i64 0,.int .i64 0,.slice none 0 0]) fun H3=>∃c1:Int,∃c2:Int,∃zg:OA,∃bh:Nat,∃ah:Nat,  rdN H3 b1 0 3=some [.int .i64 c1,.int .i64 c2,.slice zg bh ah]∧K (.tuple #[.agg #[.int .i64 c1,.int .i64 c2,.slice zg bh ah],.bool false]) H3) (z3y high 1 16 H2 fun (r2:Bool) (H4:zp)=>Br (!r2) (isOwn H4 b1∧(∃l,rdN H4 b1 0 3=some l)∧Lt (setN H4 b1 0 [.int .i64 0,.int .i64 0,.slice none 0 0]) fun H5=>∃c4:Int,∃c5:Int,∃kh:OA,∃mh:Nat,∃lh:Nat,  rdN H5 b1 0 3=some [.int .i64 c4,.int .i64 c5,.slice kh mh lh]∧K (.tuple #[.agg #[.int .i64 c4,.int .i64 c5,.slice kh mh lh],.bool false]) H5) (Al [.int .i64 0,.int .i64 0,.slice none 0 0] H4 fun b2 H6=>isOwn H6 b2∧(∃l,rdN H6 b2 0 3=some l)∧Lt (setN H6 b2 0 [.int .i64 wide,.int .i64 high,.slice none 0 0]) fun H7=>z1i (exL Tryz.prog z5t (cl (cl (cr (cl (cr (cr (cr (zq Tryz.f82)))))))) 25166149 192 [(0,320)]) (.int .i64 wide::ud::.func light_f light_x light_y::ud3 (.pointer (some ⟨b1,0,none⟩)::ud::.pointer (some ⟨b2,0,none⟩)::ud14 (.int .i64 high::.int .i64 0::ud21 []))) H7 (zu 0 (seqQ (exL Tryz.prog z5t (cr (cr (cr (cr (zq Tryz.f82))))) 192 192 []) (retK Tryz.prog Tryz.f82 K)))))):=by kernel_rfl
abbrev zjo (b1 b2:Nat) (high:Int) (light_f:Fn) (light_x:Array Value) (light_y:Array Value) (wide t24:Int)  :List Value:=(.int .i64 wide::ud::.func light_f light_x light_y::ud3 (.pointer (some ⟨b1,0,none⟩)::ud::.pointer (some ⟨b2,0,none⟩)::ud14 (.int .i64 high::.int .i64 t24::ud21 [])))
theorem z1hj (b1 b2:Nat) (high:Int) (light_f:Fn) (light_x:Array Value) (light_y:Array Value) (wide t24:Int)  (H:zp) (R:Post):exL Tryz.prog z5t (cl (cl (cr (cl (cr (cr (cr (zq Tryz.f82)))))))) 25166149 192 [(0,320)] (zjo b1 b2 high light_f light_x light_y wide t24) H R=
 (Br (decide ((t24:Int)<high)) (z1i (exL Tryz.prog z5t (cl (cl (cr (cr (cl (cl (cr (cr (cl (cl (cr (cl (cr (cr (cr (zq Tryz.f82)))))))))))))))) 427819845 192 [(2,25166149),(1,25166149),(0,320)]) (.int .i64 wide::ud::.func light_f light_x light_y::ud3 (.pointer (some ⟨b1,0,none⟩)::ud::.pointer (some ⟨b2,0,none⟩)::.int .i64 t24::ud13 (.int .i64 high::.int .i64 t24::ud2 (.int .i64 wide::.int .i64 0::ud17 [])))) H (zu 2 (zu 1 (seqQ (exL Tryz.prog z5t (cr (cr (cr (cl (cl (cr (cl (cr (cr (cr (zq Tryz.f82))))))))))) 25166149 192 [(0,320)]) (R))))) (R (.exit 0) (ud6 (.pointer (some ⟨b1,0,none⟩)::ud::.pointer (some ⟨b2,0,none⟩)::ud37 [])) H)):=by kernel_rfl
def zvx (b1 b2:Nat) (high:Int) (light_f:Fn) (light_x:Array Value) (light_y:Array Value) (wide:Int) (Inv:Nat→Int→zp→Prop):Nat→List Value→zp→Prop:=fun μ tm H=>∃(t24:Int),tm=(zjo b1 b2 high light_f light_x light_y wide t24)∧Inv μ t24 H
theorem z1hf (b1 b2:Nat) (high:Int) (light_f:Fn) (light_x:Array Value) (light_y:Array Value) (wide:Int) {Q:Post} (Inv:Nat→Int→zp→Prop) (ν:Nat) (t24:Int)  (H:zp) (h0:Inv ν t24 H)
  (hs:∀(μ:Nat) (t24:Int)  (H:zp),Inv μ t24 H→exL Tryz.prog z5t (cl (cl (cr (cl (cr (cr (cr (zq Tryz.f82)))))))) 25166149 192 [(0,320)] (zjo b1 b2 high light_f light_x light_y wide t24) H (z1a (zvx b1 b2 high light_f light_x light_y wide Inv) μ Q)):z1i (exL Tryz.prog z5t (cl (cl (cr (cl (cr (cr (cr (zq Tryz.f82)))))))) 25166149 192 [(0,320)]) (zjo b1 b2 high light_f light_x light_y wide t24) H Q:=
 ⟨zvx b1 b2 high light_f light_x light_y wide Inv,ν,⟨t24,rfl,h0⟩,fun μ tm H h=>by obtain ⟨t24,rfl,hI⟩:=h;exact hs μ t24  H hI⟩
theorem z1hh {b1 b2:Nat} {high:Int} {light_f:Fn} {light_x:Array Value} {light_y:Array Value} {wide:Int} {Q:Post} {Inv:Nat→Int→zp→Prop} {μ:Nat} (μ':Nat) {t24:Int}  {H:zp} (hm:μ'<μ) (hI:Inv μ' t24 H):z1a (zvx b1 b2 high light_f light_x light_y wide Inv) μ Q .normal (zjo b1 b2 high light_f light_x light_y wide t24) H:=⟨μ',hm,t24,rfl,hI⟩
theorem z11z (b1 b2:Nat) (H:zp) (K:KT)  {I:Nat→List Value→zp→Prop} {μ:Nat}:z1a I μ (zu 0 (seqQ (exL Tryz.prog z5t (cr (cr (cr (cr (zq Tryz.f82))))) 192 192 []) (retK Tryz.prog Tryz.f82 K))) (.exit 0) (ud6 (.pointer (some ⟨b1,0,none⟩)::ud::.pointer (some ⟨b2,0,none⟩)::ud37 [])) H=
 (∃c7:Int,∃c8:Int,∃wh:OA,∃yh:Nat,∃xh:Nat,  rdN H b2 0 3=some [.int .i64 c7,.int .i64 c8,.slice wh yh xh]∧zt6 c7 c8 wh yh xh H fun (r3:Int) (r4:Int) (a1:OA) (r5:Nat) (r6:Nat) (r7:Bool) (H12:zp)=>isOwn H12 b1∧(∃l,rdN H12 b1 0 3=some l)∧Lt (setN H12 b1 0 [.int .i64 r3,.int .i64 r4,.slice a1 r5 r6]) fun H13=>∃c10:Int,∃c11:Int,∃ni:OA,∃qi:Nat,∃oi:Nat,  rdN H13 b1 0 3=some [.int .i64 c10,.int .i64 c11,.slice ni qi oi]∧K (.tuple #[.agg #[.int .i64 c10,.int .i64 c11,.slice ni qi oi],.bool r7]) H13):=by kernel_rfl
abbrev zjp (b1 b2:Nat) (high:Int) (light_f:Fn) (light_x:Array Value) (light_y:Array Value) (t24 wide t28:Int)  :List Value:=(.int .i64 wide::ud::.func light_f light_x light_y::ud3 (.pointer (some ⟨b1,0,none⟩)::ud::.pointer (some ⟨b2,0,none⟩)::.int .i64 t24::ud13 (.int .i64 high::.int .i64 t24::ud2 (.int .i64 wide::.int .i64 t28::ud17 []))))
theorem z1hk (b1 b2:Nat) (high:Int) (light_f:Fn) (light_x:Array Value) (light_y:Array Value) (t24 wide t28:Int)  (H:zp) (R:Post):exL Tryz.prog z5t (cl (cl (cr (cr (cl (cl (cr (cr (cl (cl (cr (cl (cr (cr (cr (zq Tryz.f82)))))))))))))))) 427819845 192 [(2,25166149),(1,25166149),(0,320)] (zjp b1 b2 high light_f light_x light_y t24 wide t28) H R=
 (Br (decide ((t28:Int)<wide)) (∃og:OA,∃eg:Nat,∃qg:Nat,  rdC H b2 2=some (.slice og eg qg)∧chk (valQ z5t (.func light_f light_x light_y)) (zev z5t (.func light_f light_x light_y) [.int .i64 t28,.int .i64 t24] H fun (w1:Value) (H8:zp)=>bsV (.float .f32 0) w1 H8 fun b3 H9=>∃o1 w2:List Value,ownB H9 og eg qg 1=some o1∧rdS H9 (some ⟨b3,0,none⟩) (1*1)=some w2∧((og:OA)=none→0<(1:Nat))∧(eg:Nat)+1<most∧Ap H9 (z2v H9 og++[some ⟨o1++w2,true⟩]) fun b4 H10=>isOwn H10 b2∧(∃l,rdN H10 b2 2 1=some l)∧Lt (setC H10 b2 2 (.slice (some ⟨b4,0,none⟩) (eg+1) 1)) fun H11=>R .normal (.int .i64 wide::ud::.func light_f light_x light_y::ud3 (.pointer (some ⟨b1,0,none⟩)::ud::.pointer (some ⟨b2,0,none⟩)::.int .i64 t24::ud13 (.int .i64 high::.int .i64 t24::ud2 (.int .i64 wide::.int .i64 (IntKind.wrap .i64 (t28+1))::ud17 [])))) H11)) (R (.exit 2) (.int .i64 wide::ud::.func light_f light_x light_y::ud3 (.pointer (some ⟨b1,0,none⟩)::ud::.pointer (some ⟨b2,0,none⟩)::ud14 (.int .i64 high::.int .i64 t24::ud21 []))) H)):=by kernel_rfl
def zvy (b1 b2:Nat) (high:Int) (light_f:Fn) (light_x:Array Value) (light_y:Array Value) (t24 wide:Int) (Inv:Nat→Int→zp→Prop):Nat→List Value→zp→Prop:=fun μ tm H=>∃(t28:Int),tm=(zjp b1 b2 high light_f light_x light_y t24 wide t28)∧Inv μ t28 H
theorem z1hg (b1 b2:Nat) (high:Int) (light_f:Fn) (light_x:Array Value) (light_y:Array Value) (t24 wide:Int) {Q:Post} (Inv:Nat→Int→zp→Prop) (ν:Nat) (t28:Int)  (H:zp) (h0:Inv ν t28 H)
  (hs:∀(μ:Nat) (t28:Int)  (H:zp),Inv μ t28 H→exL Tryz.prog z5t (cl (cl (cr (cr (cl (cl (cr (cr (cl (cl (cr (cl (cr (cr (cr (zq Tryz.f82)))))))))))))))) 427819845 192 [(2,25166149),(1,25166149),(0,320)] (zjp b1 b2 high light_f light_x light_y t24 wide t28) H (z1a (zvy b1 b2 high light_f light_x light_y t24 wide Inv) μ Q)):z1i (exL Tryz.prog z5t (cl (cl (cr (cr (cl (cl (cr (cr (cl (cl (cr (cl (cr (cr (cr (zq Tryz.f82)))))))))))))))) 427819845 192 [(2,25166149),(1,25166149),(0,320)]) (zjp b1 b2 high light_f light_x light_y t24 wide t28) H Q:=
 ⟨zvy b1 b2 high light_f light_x light_y t24 wide Inv,ν,⟨t28,rfl,h0⟩,fun μ tm H h=>by obtain ⟨t28,rfl,hI⟩:=h;exact hs μ t28  H hI⟩
theorem z1hi {b1 b2:Nat} {high:Int} {light_f:Fn} {light_x:Array Value} {light_y:Array Value} {t24 wide:Int} {Q:Post} {Inv:Nat→Int→zp→Prop} {μ:Nat} (μ':Nat) {t28:Int}  {H:zp} (hm:μ'<μ) (hI:Inv μ' t28 H):z1a (zvy b1 b2 high light_f light_x light_y t24 wide Inv) μ Q .normal (zjp b1 b2 high light_f light_x light_y t24 wide t28) H:=⟨μ',hm,t28,rfl,hI⟩
theorem z12a (b1 b2:Nat) (high:Int) (light_f:Fn) (light_x:Array Value) (light_y:Array Value) (t24 wide:Int) (H:zp)  (R:Post) {I:Nat→List Value→zp→Prop} {μ:Nat}:z1a I μ (zu 2 (zu 1 (seqQ (exL Tryz.prog z5t (cr (cr (cr (cl (cl (cr (cl (cr (cr (cr (zq Tryz.f82))))))))))) 25166149 192 [(0,320)]) (R)))) (.exit 2) (.int .i64 wide::ud::.func light_f light_x light_y::ud3 (.pointer (some ⟨b1,0,none⟩)::ud::.pointer (some ⟨b2,0,none⟩)::ud14 (.int .i64 high::.int .i64 t24::ud21 []))) H=
 (R .normal (.int .i64 wide::ud::.func light_f light_x light_y::ud3 (.pointer (some ⟨b1,0,none⟩)::ud::.pointer (some ⟨b2,0,none⟩)::ud14 (.int .i64 high::.int .i64 (IntKind.wrap .i64 (t24+1))::ud21 []))) H):=by kernel_rfl
theorem zyk:∀g,FnOk Tryz.prog g (z5t g):=FnOk.envOf (by
 intro x hx
 simp only [List.mem_cons,List.not_mem_nil,or_false] at hx
 rcases hx with rfl | rfl | rfl | rfl | rfl
 ·exact zky _
 ·exact za3
 ·exact f4z_ok
 ·exact z1fn
 ·exact f9z_ok)
theorem z11y (wide high:Int) (light_f:Fn) (light_x:Array Value) (light_y:Array Value) (H:zp) (K:KT) (h:ztp wide high light_f light_x light_y H fun (ld:Int) (jd:Int) (ia:OA) (ma:Nat) (ja:Nat) (r2:Bool) (H':zp)=>K (.tuple #[.agg #[.int .i64 ld,.int .i64 jd,.slice ia ma ja],.bool r2]) H'):zv Tryz.prog z5t Tryz.f82 [.int .i64 wide,.int .i64 high,.func light_f light_x light_y] H K:=by
 rw [z1hl]
 obtain ⟨g,hq,hch,hk⟩:=h
 have ep:z8z wide high g=(bif z3b wide 1 16 then (bif z3b high 1 16 then z9q wide high (picL wide.toNat high.toNat g) else (0,0,[],false)) else (0,0,[],false)):=rfl
 rw [ep] at hk
 refine Al.intro fun b1 H1 e1 l1 g1 o1=>?_
 unfold z3y
 refine Br.intro (fun hb=>?_) (fun hb=>?_)
 ·refine Lt.setN o1 (n:=3) ω23 rfl fun H3 l3 q3 k3=>⟨0,0,none,0,0,(q3.rdN (Nat.le_of_ble_eq_true rfl)).trans rfl,?_⟩
  rw [z1e hb,cond_false] at hk
  exact hk none 0 0 H3 (g1.keep ω2 k3) (OwnS.nil _ _ _ _)
 have hw:=z4h (z1d hb)
 rw [z1d hb,cond_true] at hk
 refine Br.intro (fun hb2=>?_) (fun hb2=>?_)
 ·refine Lt.setN o1 (n:=3) ω23 rfl fun H3 l3 q3 k3=>⟨0,0,none,0,0,(q3.rdN (Nat.le_of_ble_eq_true rfl)).trans rfl,?_⟩
  rw [z1e hb2,cond_false] at hk
  exact hk none 0 0 H3 (g1.keep ω2 k3) (OwnS.nil _ _ _ _)
 have hh:=z4h (z1d hb2)
 rw [z1d hb2,cond_true] at hk
 refine Al.intro fun b2 H6 e6 l6 g6 o6=>Lt.setN o6 (n:=3) ω23 rfl fun H7 l7 q7 k7=>?_
 have p1:=(o1.grow g6).keep (b':=b2) ω2 k7
 have G7:Grow H H7:=(g1.trans g6).keep (by have:=g1.1;omega) k7
 obtain ⟨w,rfl⟩:∃w:Nat,wide=(w:Int):=⟨wide.toNat,by omega⟩
 obtain ⟨h,rfl⟩:∃h:Nat,high=(h:Int):=⟨high.toNat,by omega⟩
 simp only [Int.toNat_natCast] at hk
 refine z1hf b1 b2 (h:Int) light_f light_x light_y (w:Int) (fun μ t H'=>∃k:Nat,t=(k:Int)∧k≤h∧μ=h-k∧z3d b2 H7 H'∧∃(a:OA) (n e:Nat),Own H' b2 [.int .i64 (w:Int),.int .i64 (h:Int),.slice a n e]∧OwnS fF H' H7.length a n e (picL w k g)) h 0 H7
  ⟨0,rfl,Nat.zero_le _,rfl,⟨Nat.le_refl _,fun _ _ _=>rfl⟩,none,0,0,q7,OwnS.nil _ _ _ _⟩ ?_
 intro μ t H' hI
 obtain ⟨k,rfl,hkm,rfl,kp,a,n,e,ob,os⟩:=hI
 have hn:=os.len
 rw [z2r] at hn
 have hkw:k*w≤16*16:=Nat.mul_le_mul ω2 ω2
 have lkp:=kp.1
 rw [z1hj]
 refine Br.intro (fun hc=>?_) (fun hc=>?_)
 ·have hc':=of_decide_eq_true hc
  have hkm':k<h:=by omega
  refine z1hg b1 b2 (h:Int) light_f light_x light_y (k:Int) (w:Int) (fun μ t H2=>∃u:Nat,t=(u:Int)∧u≤w∧μ=w-u∧z3d b2 H7 H2∧∃(a:OA) (n e:Nat),Own H2 b2 [.int .i64 (w:Int),.int .i64 (h:Int),.slice a n e]∧OwnS fF H2 H7.length a n e (picL w k g++rowL u fun u=>g u (k:Int))) w 0 H'
   ⟨0,rfl,Nat.zero_le _,rfl,kp,a,n,e,ob,by rw [show rowL 0 (fun u=>g u (k:Int))=[] from rfl,List.append_nil];exact os⟩ ?_
  intro μ2 t2 H2 hI2
  obtain ⟨u,rfl,hum,rfl,kp2,a2,n2,e2,ob2,os2⟩:=hI2
  have hn2:=os2.len
  rw [List.length_append,z2r,zac] at hn2
  have lkp2:=kp2.1
  rw [z1hk]
  refine Br.intro (fun hd=>?_) (fun hd=>?_)
  ·have hd':=of_decide_eq_true hd
   have hum':u<w:=by omega
   refine ⟨a2,n2,e2,(ob2.rdC 2).trans rfl,?_⟩
   rw [hq]
   refine hch (u:Int) (k:Int) ω2 hd' ω2 hc' hw.2 hh.2 H2 (G7.keep (by have:=g1.1;omega) kp2) _ fun H8 g8=>?_
   have os3:=os2.grow g8
   have ob3:=ob2.grow g8
   rw [z19t]
   refine Al.intro fun b3 H9 e9 l9 g9 o9=>?_
   have os4:=os3.grow g9
   have ob4:=ob3.grow g9
   refine ⟨_,_,os4.ownB,o9.rdAll rfl,(fun _=>by omega),ω25,?_⟩
   refine Ap.appS (ys:=[g (u:Int) (k:Int)]) os4 rfl rfl fun b13 H17 e17 l17 o17 k17=>?_
   have lo:=os4.lo
   have:=g8.1
   have:=ob2.lt
   have hup:∀x,a2=some x→x.block≠b2:=fun x hx=>by have:=lo x hx;omega
   have ob5:=ob4.keepA hup k17
   refine Lt.set ob5 (Nat.le_of_ble_eq_true rfl) fun H18 l18 q18 k18=>?_
   refine z1hi (w-(u+1)) ω2 ⟨u+1,by rw [zt ω2 ω2];omega,by omega,rfl,?_,some ⟨b13,0,none⟩,n2+1,1,q18,?_⟩
   ·refine ⟨by omega,fun i hi hne=>?_⟩
    rw [k18.2 i ω2 hne,k17.2 i ω2 (fun x hx=>by have:=lo x hx;omega),g9.2 i ω2,g8.2 i ω2,kp2.2 i hi hne]
   ·rw [zx5,←List.append_assoc]
    exact (o17.keep (b':=b2) ω2 k18).ownS (by simp only [List.length_append,z2r,zac,List.length_cons,List.length_nil];omega) ω2
  ·have hd':=of_decide_eq_false hd
   obtain rfl:u=w:=by omega
   rw [z12a]
   refine z1hh (h-(k+1)) ω2 ⟨k+1,by rw [zt ω2 ω2];omega,by omega,rfl,kp2,a2,n2,e2,ob2,?_⟩
   rw [zec]
   exact os2
 ·have hc':=of_decide_eq_false hc
  obtain rfl:k=h:=by omega
  rw [z11z]
  have c1:=p1.keep (b':=b2) ω2 kp
  have lo:=os.lo
  have G5:Grow H H':=G7.keep (by have:=g1.1;omega) kp
  refine ⟨(w:Int),(k:Int),a,n,e,(ob.rdN (Nat.le_of_ble_eq_true rfl)).trans rfl,zt7 ⟨picL w k g,os.isL,by rw [z2r];omega,fun H19 g19=>?_⟩⟩
  refine Br.intro (fun hb=>?_) (fun hb=>?_)
  ·refine Lt.setN (c1.grow g19) (n:=3) ω23 rfl fun H20 l20 q20 k20=>⟨(w:Int),(k:Int),a,n,e,(q20.rdN (Nat.le_of_ble_eq_true rfl)).trans rfl,?_⟩
   have ev:z9q (w:Int) (k:Int) (picL w k g)=((w:Int),(k:Int),picL w k g,true):=by
    rw [z4g] at hb ⊢
    cases hq:!(z1q (w:Int) (k:Int) (picL w k g)) with
    | true=>rw [hq] at hb;cases hb
    | false=>rfl
   rw [ev] at hk
   exact hk a n e H20 ((G5.trans g19).keep ω2 k20) (((os.grow g19).keepA (fun x y hx hy=>by cases hx;have:=lo y hy;have:=o1.lt;have:=g6.1;show b1≠_;omega) (OwnS.keep1 k20)).weak (by have:=G7.1;omega))
  ·refine Lt.setN (c1.grow g19) (n:=3) ω23 rfl fun H20 l20 q20 k20=>⟨0,0,none,0,0,(q20.rdN (Nat.le_of_ble_eq_true rfl)).trans rfl,?_⟩
   have ev:z9q (w:Int) (k:Int) (picL w k g)=(0,0,[],false):=by
    rw [z4g] at hb ⊢
    cases hq:!(z1q (w:Int) (k:Int) (picL w k g)) with
    | true=>rfl
    | false=>rw [hq] at hb;cases hb
   rw [ev] at hk
   exact hk none 0 0 H20 ((G5.trans g19).keep ω2 k20) (OwnS.nil _ _ _ _)
theorem z17g:FnOk Tryz.prog 82 S_fuz:=FnOk.bodyF mix_ok zyk Tryz.func82 rfl ω9 ω9 fun args H=>by
 unfold F_fuz
 split
 ·refine ⟨?_,?_,?_,?_,fun K hk=>z11y _ _ _ _ _ H K hk⟩
  ·intro K K' h hk;obtain ⟨g,hq,hch,k⟩:=hk;exact ⟨g,hq,hch,(fun sd ae zd H' gg ow0=>h _ _ (k sd ae zd H' gg ow0))⟩
  ·nofun
  ·intro K hk;obtain ⟨g,hq,hch,k⟩:=hk;exact z4v fun a n e H1 g o=>⟨_,_,k a n e H1 g o⟩
  ·intro _ K hk;obtain ⟨g,hq,hch,k⟩:=hk;exact ⟨g,hq,hch,(fun sd ae zd H' gg ow0=>⟨gg,k sd ae zd H' gg ow0⟩)⟩
 ·exact Nice.no
def z8y (ta ua:Int) (fa:LN) (x y wide high:Int):Int×Int×LN×Bool:=bif z8d ta ua fa x y wide high then z8z wide high (z4y fa x y ta) else (0,0,[],false)
def zzk (ta ua:Int) (oa:OA) (xa ya:Nat) (x y wide high:Int) (H:zp) (K:Int→Int→OA→Nat→Nat→Bool→zp→Prop):Prop:=
 ∃(fa:LN),IsL fF H oa xa fa∧fa.length<1073741824∧
  (∀(sd:OA) (ae zd:Nat),∀H':zp,Grow H H'→OwnS fF H' H.length sd ae zd ((z8y ta ua fa x y wide high).2.2.1)→K ((z8y ta ua fa x y wide high).1) ((z8y ta ua fa x y wide high).2.1) sd ae zd ((z8y ta ua fa x y wide high).2.2.2) H')
theorem z19k {ta ua:Int} {oa:OA} {xa ya:Nat} {x y wide high:Int} {H:zp} {K:Int→Int→OA→Nat→Nat→Bool→zp→Prop} (h:∃(fa:LN),IsL fF H oa xa fa∧fa.length<1073741824∧
  (∀(sd:OA) (ae zd:Nat),∀H':zp,Grow H H'→OwnS fF H' H.length sd ae zd ((z8y ta ua fa x y wide high).2.2.1)→K ((z8y ta ua fa x y wide high).1) ((z8y ta ua fa x y wide high).2.1) sd ae zd ((z8y ta ua fa x y wide high).2.2.2) H')):zzk ta ua oa xa ya x y wide high H K:=h
theorem z1c6 (W Hi:Int) (l:LN) (x y wide high:Int):((z8y W Hi l x y wide high).2.2.1.length:Int)≤256:=by
 unfold z8y
 cases z8d W Hi l x y wide high with
 | false=>show ((0:Nat):Int)≤256;omega
 | true=>exact zbg _ _ _
/-! fcz: function 36 -/
def E_fcz:Env:=envOf [(81,zsy),(82,S_fuz)]
def F_fcz (args:List Value) (H:zp):(Value→zp→Prop)→Prop:=match args with
 | [.agg ⟨[.int .i64 ta,.int .i64 ua,.slice oa xa ya]⟩,.int .i64 x,.int .i64 y,.int .i64 wide,.int .i64 high]=>fun K=>zzk ta ua oa xa ya x y wide high H fun (ld:Int) (jd:Int) (ia:OA) (ma:Nat) (ja:Nat) (r2:Bool) (H':zp)=>K (.tuple #[.agg #[.int .i64 ld,.int .i64 jd,.slice ia ma ja],.bool r2]) H'
 | _=>fun _=>False
def S_fcz:FSpec:={F:=F_fcz,quiet:=false,tame:=true}
theorem z1fh (ta ua:Int) (oa:OA) (xa ya:Nat) (x y wide high:Int) (H:zp) (K:KT):zv Tryz.prog E_fcz Tryz.f36 [.agg #[.int .i64 ta,.int .i64 ua,.slice oa xa ya],.int .i64 x,.int .i64 y,.int .i64 wide,.int .i64 high] H K=
 (Al [.int .i64 ta,.int .i64 ua,.slice oa xa ya] H fun b1 H1=>Al [.int .i64 x] H1 fun b2 H2=>Al [.int .i64 y] H2 fun b3 H3=>Al [.int .i64 0,.int .i64 0,.slice none 0 0] H3 fun b4 H4=>∃c1:Int,∃c2:Int,∃zg:OA,∃bh:Nat,∃ah:Nat,  rdN H4 b1 0 3=some [.int .i64 c1,.int .i64 c2,.slice zg bh ah]∧∃x1:Int,  rdC H4 b2 0=some (.int .i64 x1)∧∃x2:Int,  rdC H4 b3 0=some (.int .i64 x2)∧zih c1 c2 zg bh ah x1 x2 wide high H4 fun (r1:Bool) (H5:zp)=>Br (!r1) (isOwn H5 b4∧(∃l,rdN H5 b4 0 3=some l)∧Lt (setN H5 b4 0 [.int .i64 0,.int .i64 0,.slice none 0 0]) fun H6=>∃c4:Int,∃c5:Int,∃kh:OA,∃mh:Nat,∃lh:Nat,  rdN H6 b4 0 3=some [.int .i64 c4,.int .i64 c5,.slice kh mh lh]∧K (.tuple #[.agg #[.int .i64 c4,.int .i64 c5,.slice kh mh lh],.bool false]) H6) (ztp wide high (.func 83) #[] #[.pointer (some ⟨b1,0,none⟩),.pointer (some ⟨b3,0,none⟩),.pointer (some ⟨b2,0,none⟩)] H5 fun (r2:Int) (r3:Int) (a1:OA) (r4:Nat) (r5:Nat) (r6:Bool) (H7:zp)=>isOwn H7 b4∧(∃l,rdN H7 b4 0 3=some l)∧Lt (setN H7 b4 0 [.int .i64 r2,.int .i64 r3,.slice a1 r4 r5]) fun H8=>∃c7:Int,∃c8:Int,∃wh:OA,∃yh:Nat,∃xh:Nat,  rdN H8 b4 0 3=some [.int .i64 c7,.int .i64 c8,.slice wh yh xh]∧K (.tuple #[.agg #[.int .i64 c7,.int .i64 c8,.slice wh yh xh],.bool r6]) H8)):=by kernel_rfl
theorem zy3:∀g,FnOk Tryz.prog g (E_fcz g):=FnOk.envOf (by
 intro x hx
 simp only [List.mem_cons,List.not_mem_nil,or_false] at hx
 rcases hx with rfl | rfl
 ·exact f19z_ok
 ·exact z17g)
theorem zep {H:zp} {b bx bY:Nat} {la:OA} {ln le:Nat} {l:LN} {W Hi x y w h:Int} (o:Own H b [.int .i64 W,.int .i64 Hi,.slice la ln le]) (ox:Own H bx [.int .i64 x]) (oy:Own H bY [.int .i64 y]) (il:IsL fF H la ln l) (bl:l.length<1073741824) (h2:W≤16) (h4:Hi≤16) (hl:(l.length:Int)=W*Hi) (x0:0≤x) (y0:0≤y) (hx:x+w≤W) (hy:y+h≤Hi):
  zgt z5t (.func (.func 83) #[] #[.pointer (some ⟨b,0,none⟩),.pointer (some ⟨bY,0,none⟩),.pointer (some ⟨bx,0,none⟩)]) H w h (z4y l x y W):=by
 intro u v u0 u1 v0 v1 _ _ H1 gg K hK
 refine (?_:T_f4z u v b bY bx H1 fun r H'=>K (.float .f32 r) H')
 exact ⟨W,Hi,la,ln,le,y,x,l,((o.grow gg).rdN (Nat.le_of_ble_eq_true rfl)).trans rfl,((oy.grow gg).rdN (Nat.le_of_ble_eq_true rfl)).trans rfl,((ox.grow gg).rdN (Nat.le_of_ble_eq_true rfl)).trans rfl,il.grow gg,bl,u0,v0,y0,x0,by omega,by omega,h2,h4,hl,hK H1 (Grow.refl H1)⟩
theorem z10n (ta ua:Int) (oa:OA) (xa ya:Nat) (x y wide high:Int) (H:zp) (K:KT) (h:zzk ta ua oa xa ya x y wide high H fun (ld:Int) (jd:Int) (ia:OA) (ma:Nat) (ja:Nat) (r2:Bool) (H':zp)=>K (.tuple #[.agg #[.int .i64 ld,.int .i64 jd,.slice ia ma ja],.bool r2]) H'):zv Tryz.prog E_fcz Tryz.f36 [.agg #[.int .i64 ta,.int .i64 ua,.slice oa xa ya],.int .i64 x,.int .i64 y,.int .i64 wide,.int .i64 high] H K:=by
 rw [z1fh]
 obtain ⟨l,il,bl,hk⟩:=h
 obtain rfl:=il.eqn
 have ep:z8y ta ua l x y wide high=(bif z8d ta ua l x y wide high then z8z wide high (z4y l x y ta) else (0,0,[],false)):=rfl
 rw [ep] at hk
 refine Al.intro fun b1 H1 e1 l1 g1 o1=>Al.intro fun b2 H2 e2 l2 g2 o2=>Al.intro fun b3 H3 e3 l3 g3 o3=>Al.intro fun b4 H4 e4 l4 g4 o4=>?_
 have p1:=((o1.grow g2).grow g3).grow g4
 have p2:=(o2.grow g3).grow g4
 have p3:=o3.grow g4
 have G4:Grow H H4:=((g1.trans g2).trans g3).trans g4
 refine ⟨ta,ua,oa,l.length,ya,(p1.rdN (Nat.le_of_ble_eq_true rfl)).trans rfl,x,(p2.rdC 0).trans rfl,y,(p3.rdC 0).trans rfl,zn4 ⟨l,il.grow G4,bl,fun H5 g5=>?_⟩⟩
 have q4:=o4.grow g5
 refine Br.intro (fun hp=>?_) (fun hp=>?_)
 ·refine Lt.setN q4 (n:=3) ω23 rfl fun H6 l6 q6 k6=>⟨0,0,none,0,0,(q6.rdN (Nat.le_of_ble_eq_true rfl)).trans rfl,?_⟩
  rw [z1e hp,cond_false] at hk
  exact hk none 0 0 H6 ((G4.trans g5).keep ω2 k6) (OwnS.nil _ _ _ _)
 have hpv:=z1d hp
 rw [hpv,cond_true] at hk
 obtain ⟨_,w2,_,w4,w5,_,x0,y0,_,_,hx,hy⟩:=f19z_t hpv
 have G5:Grow H H5:=G4.trans g5
 refine ztq ⟨z4y l x y ta,rfl,zep (p1.grow g5) (p2.grow g5) (p3.grow g5) (il.grow G5) bl w2 w4 w5 x0 y0 hx hy,fun a n e H7 g7 o7=>?_⟩
 have lo:=o7.lo
 have hle:=G5.1
 refine Lt.setN (q4.grow g7) (n:=3) ω23 rfl fun H8 l8 q8 k8=>⟨_,_,a,n,e,(q8.rdN (Nat.le_of_ble_eq_true rfl)).trans rfl,?_⟩
 exact hk a n e H8 ((G5.trans g7).keep ω2 k8) ((o7.keepA (fun x y hx hy=>by cases hx;have:=lo y hy;have:=q4.lt;show b4≠_;omega) (OwnS.keep1 k8)).weak hle)
theorem z1fg:FnOk Tryz.prog 36 S_fcz:=FnOk.bodyF mix_ok zy3 Tryz.func36 rfl ω9 ω9 fun args H=>by
 unfold F_fcz
 split
 ·refine ⟨?_,?_,?_,?_,fun K hk=>z10n _ _ _ _ _ _ _ _ _ H K hk⟩
  ·intro K K' h hk;obtain ⟨l,i,b,k⟩:=hk;exact ⟨l,i,b,(fun sd ae zd H' gg ow0=>h _ _ (k sd ae zd H' gg ow0))⟩
  ·nofun
  ·intro K hk;obtain ⟨l,i,b,k⟩:=hk;exact z4v fun a n e H1 g o=>⟨_,_,k a n e H1 g o⟩
  ·intro _ K hk;obtain ⟨l,i,b,k⟩:=hk;exact ⟨l,i,b,(fun sd ae zd H' gg ow0=>⟨gg,k sd ae zd H' gg ow0⟩)⟩
 ·exact Nice.no

def z9z (za:LN):Bool:=(bif (z3b (za.length:Int) (1:Int) (128:Int)) then (z6t ([za])) else false)
def zkl:=@z9z.eq_1
def znh (yb:OA) (sb jc:Nat) (H:zp) (K:Bool→zp→Prop):Prop:=∃(za:LN),IsL fF H yb sb za∧za.length<1073741824∧((∀H':zp,Grow H H'→K (z9z za) H'))
theorem zz8 {yb:OA} {sb jc:Nat} {H:zp} {K:Bool→zp→Prop} (h:∃(za:LN),IsL fF H yb sb za∧za.length<1073741824∧((∀H':zp,Grow H H'→K (z9z za) H'))):znh yb sb jc H K:=h

/-! f1qz: function 114 -/
def zsc:Env:=envOf [(68,zc2),(104,zt3)]
def z15e (args:List Value) (H:zp):(Value→zp→Prop)→Prop:=match args with
 | [.slice yb sb jc]=>fun K=>znh yb sb jc H fun (r1:Bool) (H':zp)=>K (.bool r1) H'
 | _=>fun _=>False
def z16j:FSpec:={F:=z15e,quiet:=false,tame:=true}
theorem z1bh (yb:OA) (sb jc:Nat) (H:zp) (K:KT):zv Tryz.prog zsc Tryz.f114 [.slice yb sb jc] H K=
 (z3y (sb:Int) 1 128 H fun (r1:Bool) (H1:zp)=>Br r1 (Al [.slice yb sb jc] H1 fun b1 H2=>zlg (some ⟨b1,0,none⟩) 1 1 H2 fun (r2:Bool) (H3:zp)=>K (.bool r2) H3) (K (.bool false) H1)):=by kernel_rfl
theorem zsd:∀g,FnOk Tryz.prog g (zsc g):=FnOk.envOf (by
 intro x hx
 simp only [List.mem_cons,List.not_mem_nil,or_false] at hx
 rcases hx with rfl | rfl
 ·exact za3
 ·exact znz)
theorem zuv (yb:OA) (sb jc:Nat) (H:zp) (K:KT) (h:znh yb sb jc H fun (r1:Bool) (H':zp)=>K (.bool r1) H'):zv Tryz.prog zsc Tryz.f114 [.slice yb sb jc] H K:=by
 rw [z1bh]
 obtain ⟨za,i_list,bd_12,hk⟩:=h
 obtain rfl:=i_list.eqn
 have e:(z9z za)=_:=rfl
 have e:=e.trans (zkl za)
 have g0:=Grow.refl H
 refine z6e ?_
 refine Br.intro (fun c_1=>?_) (fun c_1=>?_)
 ·have e:=e.trans (zx c_1)
  have c_1':=z4h c_1
  refine Al.intro (fun b_2 H_1 hb_3 hl_4 g_5 o_6=>?_)
  have l_8:=g_5.1
  have g_9:=g0.trans g_5
  have l_10:=g_9.1
  have w11:=o_6.lt
  refine zh0 ⟨[za],⟨_,o_6.rdAll rfl,LLc.cons (i_list.grow g_9) (LLc.nil _ _)⟩,ω0,ω16,?_⟩
  rw [e] at hk
  exact hk  H_1 g_9 
 ·have e:=e.trans (zw c_1)
  rw [e] at hk
  exact hk  H g0 
theorem z1bg:FnOk Tryz.prog 114 z16j:=FnOk.bodyF mix_ok zsd Tryz.func114 rfl ω9 ω9 fun args H=>by
 unfold z15e
 split
 ·refine ⟨?_,?_,?_,?_,fun K hk=>zuv _ _ _ H K hk⟩
  ·intro K K' h hk;obtain ⟨za,i_list,bd_12,k⟩:=hk;exact ⟨za,i_list,bd_12,(fun  H' gg  =>h _ _ (k  H' gg))⟩
  ·nofun
  ·intro K hk;obtain ⟨za,i_list,bd_12,k⟩:=hk;exact ⟨_,_,k H (Grow.refl H)⟩
  ·intro _ K hk;obtain ⟨za,i_list,bd_12,k⟩:=hk;exact ⟨za,i_list,bd_12,(fun  H' gg  =>⟨gg,k  H' gg⟩)⟩
 ·exact Nice.no

def z9l (za:LN):Nat→LN→LN→Int→LN×LN
 | 0,_,_,_=>([],[])
 | μ+1,vc,td,t12=>(bif decide ((t12:Int)<(za.length:Int)) then (bif (Int.tmod t12 2:Int)==0 then (z9l za μ ((vc++[(((za).getD (t12:Int).toNat 0))])) td (t12+1)) else (z9l za μ vc ((td++[(((za).getD (t12:Int).toNat 0))])) (t12+1))) else (vc,td))
def zft:=fun za μ vc td t12=>@z9l.eq_2 za vc td t12 μ
def zqb (za:LN):LN×LN:=(z9l za (Int.toNat ((za.length:Int)-(0:Int))+1) ([]:LN) ([]:LN) (0:Int))
def zoc:=@zqb.eq_1
def zzi (yb:OA) (sb jc:Nat) (H:zp) (K:OA→Nat→Nat→OA→Nat→Nat→zp→Prop):Prop:=∃(za:LN),IsL fF H yb sb za∧za.length<1073741824∧((∀(sd:OA) (ae zd:Nat),∀(nh:OA) (th sh:Nat),∀H':zp,Grow H H'→OwnS fF H' H.length sd ae zd (evs za)→OwnS fF H' H.length nh th sh (ods za)→SepA sd nh→K sd ae zd nh th sh H'))
theorem z19i {yb:OA} {sb jc:Nat} {H:zp} {K:OA→Nat→Nat→OA→Nat→Nat→zp→Prop} (h:∃(za:LN),IsL fF H yb sb za∧za.length<1073741824∧((∀(sd:OA) (ae zd:Nat),∀(nh:OA) (th sh:Nat),∀H':zp,Grow H H'→OwnS fF H' H.length sd ae zd (evs za)→OwnS fF H' H.length nh th sh (ods za)→SepA sd nh→K sd ae zd nh th sh H'))):zzi yb sb jc H K:=h
theorem zhd (l:LN):∀(μ i:Nat),i≤l.length→l.length-i<μ→z9l l μ (evs (l.take i)) (ods (l.take i)) (i:Int)=(evs l,ods l):=by
 intro μ
 induction μ with
 | zero=>intro i _ h;omega
 | succ μ ih=>
  intro i hi hm
  rw [zft]
  by_cases h:i<l.length
  ·rw [decide_eq_true (show (i:Int)<(l.length:Int) by omega),cond_true,Int.toNat_natCast]
   have:=ih (i+1) ω2 ω2
   have hl:(l.take i).length=i:=by simp;omega
   rw [zem l i h,zh6,zho,hl] at this
   have ht:(Int.tmod (i:Int) 2==0)=decide (i % 2=0):=by
    have:Int.tmod (i:Int) 2=((i % 2:Nat):Int):=by rw [Int.tmod_eq_emod_of_nonneg ω2];omega
    rw [this]
    by_cases hk:i % 2=0
    ·simp [hk]
    ·have:i % 2=1:=by omega
     simp [this]
   rw [ht]
   by_cases hk:i % 2=0
   ·rw [if_pos hk,if_pos hk] at this
    rw [decide_eq_true hk,cond_true];exact this
   ·rw [if_neg hk,if_neg hk] at this
    rw [decide_eq_false hk,cond_false];exact this
  ·have e:i=l.length:=by omega
   rw [decide_eq_false (show ¬(i:Int)<(l.length:Int) by omega),cond_false,e,List.take_of_length_le (Nat.le_refl _)]
theorem zf0 (l:LN):zqb l=(evs l,ods l):=by
 rw [zoc]
 have:=zhd l (Int.toNat ((l.length:Int)-0)+1) 0 ω2 ω2
 simpa [evs,ods] using this
/-! f7z: function 115 -/
def zgu:Env:=envOf []
def F_f7z (args:List Value) (H:zp):(Value→zp→Prop)→Prop:=match args with
 | [.slice yb sb jc]=>fun K=>zzi yb sb jc H fun (sd:OA) (ae:Nat) (zd:Nat) (nh:OA) (th:Nat) (sh:Nat) (H':zp)=>K (.tuple #[.slice sd ae zd,.slice nh th sh]) H'
 | _=>fun _=>False
def S_f7z:FSpec:={F:=F_f7z,quiet:=false,tame:=true}
theorem f7z_vc (yb:OA) (sb jc:Nat) (H:zp) (K:KT):zv Tryz.prog zgu Tryz.f115 [.slice yb sb jc] H K=
 (Al [] H fun b1 H1=>Al [] H1 fun b2 H2=>z1i (exL Tryz.prog zgu (cl (cl (cr (cl (cr (cr (zq Tryz.f115))))))) 7216 12 [(0,48)]) (ud4 (.slice (some ⟨b1,0,none⟩) 0 1::.slice (some ⟨b2,0,none⟩) 0 1::ud4 (.slice yb sb jc::.int .i64 (sb:Int)::.int .i64 0::ud18 []))) H2 (zu 0 (seqQ (exL Tryz.prog zgu (cr (cr (cr (zq Tryz.f115)))) 12 12 []) (retK Tryz.prog Tryz.f115 K)))):=by kernel_rfl
abbrev f7z_P1 (yb:OA) (jc sb:Nat) (tc:OA) (uc nd:Nat) (xd:OA) (yd te:Nat) (t12:Int)  :List Value:=(ud4 (.slice tc uc nd::.slice xd yd te::ud4 (.slice yb sb jc::.int .i64 (sb:Int)::.int .i64 t12::ud18 [])))
theorem f7z_r1 (yb:OA) (jc sb:Nat) (tc:OA) (uc nd:Nat) (xd:OA) (yd te:Nat) (t12:Int)  (H:zp) (R:Post):exL Tryz.prog zgu (cl (cl (cr (cl (cr (cr (zq Tryz.f115))))))) 7216 12 [(0,48)] (f7z_P1 yb jc sb tc uc nd xd yd te t12) H R=
 (Br (decide ((t12:Int)<(sb:Int))) ((0:Int)≤t12∧t12<(sb:Int)∧∃b3 f1,(yb:OA)=some ⟨b3,f1,none⟩∧∃x1:Nat,  rdC H b3 (f1+(t12:Int).toNat*1)=some (.float .f32 x1)∧2≠(0:Int)∧Br ((Int.tmod t12 2:Int)==0) (Al [.float .f32 x1] H fun b4 H3=>∃o1 w1:List Value,ownB H3 tc uc nd 1=some o1∧rdS H3 (some ⟨b4,0,none⟩) (1*1)=some w1∧((tc:OA)=none→0<(1:Nat))∧(uc:Nat)+1<most∧Ap H3 (z2v H3 tc++[some ⟨o1++w1,true⟩]) fun b5 H4=>R .normal (ud4 (.slice (some ⟨b5,0,none⟩) (uc+1) 1::.slice xd yd te::ud4 (.slice yb sb jc::.int .i64 (sb:Int)::.int .i64 (IntKind.wrap .i64 (t12+1))::ud18 []))) H4) (Al [.float .f32 x1] H fun b6 H5=>∃o2 w2:List Value,ownB H5 xd yd te 1=some o2∧rdS H5 (some ⟨b6,0,none⟩) (1*1)=some w2∧((xd:OA)=none→0<(1:Nat))∧(yd:Nat)+1<most∧Ap H5 (z2v H5 xd++[some ⟨o2++w2,true⟩]) fun b7 H6=>R .normal (ud4 (.slice tc uc nd::.slice (some ⟨b7,0,none⟩) (yd+1) 1::ud4 (.slice yb sb jc::.int .i64 (sb:Int)::.int .i64 (IntKind.wrap .i64 (t12+1))::ud18 []))) H6)) (R (.exit 0) (ud4 (.slice tc uc nd::.slice xd yd te::ud25 [])) H)):=by kernel_rfl
def f7z_I1 (yb:OA) (jc sb:Nat) (Inv:Nat→OA→Nat→Nat→OA→Nat→Nat→Int→zp→Prop):Nat→List Value→zp→Prop:=fun μ tm H=>∃(tc:OA),∃(uc nd:Nat),∃(xd:OA),∃(yd te:Nat),∃(t12:Int),tm=(f7z_P1 yb jc sb tc uc nd xd yd te t12)∧Inv μ tc uc nd xd yd te t12 H
theorem f7z_L1 (yb:OA) (jc sb:Nat) {Q:Post} (Inv:Nat→OA→Nat→Nat→OA→Nat→Nat→Int→zp→Prop) (ν:Nat) (tc:OA) (uc nd:Nat) (xd:OA) (yd te:Nat) (t12:Int)  (H:zp) (h0:Inv ν tc uc nd xd yd te t12 H)
  (hs:∀(μ:Nat) (tc:OA) (uc:Nat) (nd:Nat) (xd:OA) (yd:Nat) (te:Nat) (t12:Int)  (H:zp),Inv μ tc uc nd xd yd te t12 H→exL Tryz.prog zgu (cl (cl (cr (cl (cr (cr (zq Tryz.f115))))))) 7216 12 [(0,48)] (f7z_P1 yb jc sb tc uc nd xd yd te t12) H (z1a (f7z_I1 yb jc sb Inv) μ Q)):z1i (exL Tryz.prog zgu (cl (cl (cr (cl (cr (cr (zq Tryz.f115))))))) 7216 12 [(0,48)]) (f7z_P1 yb jc sb tc uc nd xd yd te t12) H Q:=
 ⟨f7z_I1 yb jc sb Inv,ν,⟨tc,uc,nd,xd,yd,te,t12,rfl,h0⟩,fun μ tm H h=>by obtain ⟨tc,uc,nd,xd,yd,te,t12,rfl,hI⟩:=h;exact hs μ tc uc nd xd yd te t12  H hI⟩
theorem f7z_n1 {yb:OA} {jc sb:Nat} {Q:Post} {Inv:Nat→OA→Nat→Nat→OA→Nat→Nat→Int→zp→Prop} {μ:Nat} (μ':Nat) {tc:OA} {uc nd:Nat} {xd:OA} {yd te:Nat} {t12:Int}  {H:zp} (hm:μ'<μ) (hI:Inv μ' tc uc nd xd yd te t12 H):z1a (f7z_I1 yb jc sb Inv) μ Q .normal (f7z_P1 yb jc sb tc uc nd xd yd te t12) H:=⟨μ',hm,tc,uc,nd,xd,yd,te,t12,rfl,hI⟩
theorem f7z_x1_0 (tc:OA) (uc nd:Nat) (xd:OA) (yd te:Nat) (H:zp) (K:KT)  {I:Nat→List Value→zp→Prop} {μ:Nat}:z1a I μ (zu 0 (seqQ (exL Tryz.prog zgu (cr (cr (cr (zq Tryz.f115)))) 12 12 []) (retK Tryz.prog Tryz.f115 K))) (.exit 0) (ud4 (.slice tc uc nd::.slice xd yd te::ud25 [])) H=
 (K (.tuple #[.slice tc uc nd,.slice xd yd te]) H):=by kernel_rfl
theorem zxy:∀g,FnOk Tryz.prog g (zgu g):=FnOk.envOf (by
 intro x hx;cases hx)
theorem f7z_main (yb:OA) (sb jc:Nat) (H:zp) (K:KT) (h:zzi yb sb jc H fun (sd:OA) (ae:Nat) (zd:Nat) (nh:OA) (th:Nat) (sh:Nat) (H':zp)=>K (.tuple #[.slice sd ae zd,.slice nh th sh]) H'):zv Tryz.prog zgu Tryz.f115 [.slice yb sb jc] H K:=by
 rw [f7z_vc]
 obtain ⟨za,i_list,bd_101,hk⟩:=h
 have hk:(∀(sd:OA) (ae zd:Nat),∀(nh:OA) (th sh:Nat),∀H':zp,Grow H H'→OwnS fF H' H.length sd ae zd ((zqb za).1)→OwnS fF H' H.length nh th sh ((zqb za).2)→SepA sd nh→(fun (sd:OA) (ae:Nat) (zd:Nat) (nh:OA) (th:Nat) (sh:Nat) (H':zp)=>K (.tuple #[.slice sd ae zd,.slice nh th sh]) H') sd ae zd nh th sh H'):=by rw [zf0 za];exact hk
 obtain rfl:=i_list.eqn
 have e:(zqb za)=_:=rfl
 have e:=e.trans (zoc za)
 have g0:=Grow.refl H
 refine Al.intro (fun b_1 H_1 hb_2 hl_3 g_4 o_5=>?_)
 have o_5:Own H_1 b_1 ((([]:LN)).map fF):=o_5
 have l_7:=g_4.1
 have g_8:=g0.trans g_4
 have l_9:=g_8.1
 have w100:=o_5.lt
 refine Al.intro (fun b_10 H_2 hb_11 hl_12 g_13 o_14=>?_)
 have o_14:Own H_2 b_10 ((([]:LN)).map fF):=o_14
 have l_16:=g_13.1
 have g_17:=g_8.trans g_13
 have l_18:=g_17.1
 have o_19:=o_5.grow g_13
 have w20:=o_19.lt
 have w99:=o_14.lt
 refine f7z_L1 _ _ _ (fun (μ:Nat) (tc:OA) (uc:Nat) (nd:Nat) (xd:OA) (yd:Nat) (te:Nat) (t12:Int) (H_3:zp)=>∃(vc:LN),∃(b_21:Nat),∃(td:LN),∃(b_23:Nat),tc=some ⟨b_21,0,none⟩∧uc=vc.length∧nd=1∧Own H_3 b_21 (vc.map fF)∧xd=some ⟨b_23,0,none⟩∧yd=td.length∧te=1∧Own H_3 b_23 (td.map fF)∧(b_23≠b_21)∧Grow H H_3∧H.length≤b_21∧H.length≤b_23∧(0:Int)≤t12∧t12≤(za.length:Int)∧(vc.length:Int)≤t12-(0:Int)+0∧(td.length:Int)≤t12-(0:Int)+0∧(za.length:Int)-t12≤(μ:Int)∧zqb za=z9l za (μ+1) vc td t12) (Int.toNat ((za.length:Int)-(0:Int))) _ _ _ _ _ _ _ H_2 ?_ ?_
 ·exact ⟨_,_,_,_,rfl,ω5,rfl,o_19,rfl,ω5,rfl,o_14,ω2,g_17,ω2,ω2,ω7,ω7,ω7,ω7,ω2,e⟩
 ·intro μ tc uc nd xd yd te t12  H_3 hI
  obtain ⟨vc,b_21,td,b_23,rfl,rfl,rfl,o22,rfl,rfl,rfl,o24,n25,g26,l27,l28,v_29,v_30,v_31,v_32,hμ,e⟩:=hI
  rw [f7z_r1]
  have e:=e.trans (zft za μ vc td t12)
  have w33:=o22.lt
  have w34:=o24.lt
  have l35:=g26.1
  refine Br.intro (fun c36=>?_) (fun c36=>?_)
  ·have e:=e.trans (zx c36)
   have c_36':=of_decide_eq_true c36
   obtain ⟨b37,f_38,q39⟩:=((i_list.grow g26)).pos ω0
   refine ⟨by omega,by omega,b37,f_38,q39,?_⟩
   refine ⟨((za).getD (t12:Int).toNat 0),(i_list).rd g26 q39 ω2 _,?_⟩
   refine ⟨ω22,?_⟩
   have z40:=z9o t12 2
   have z41:=zbx t12 2
   refine Br.intro (fun c_42=>?_) (fun c_42=>?_)
   ·have e:=e.trans (zx c_42)
    have c_42':=zjr c_42
    refine Al.intro (fun b43 H_4 hb_44 hl_45 g46 o47=>?_)
    have o47:Own H_4 b43 (([(((za).getD (t12:Int).toNat 0))]).map fF):=o47
    have l49:=g46.1
    have g50:=g26.trans g46
    have l51:=g50.1
    have o52:=o22.grow g46
    have w53:=o52.lt
    have o54:=o24.grow g46
    have w55:=o54.lt
    have w70:=o47.lt
    refine ⟨_,_,o52.ownB ω3 rfl,(z2m (o47.isL ω5)),(fun h=>by cases h),ω25,?_⟩
    refine Ap.app o52 rfl rfl (fun b60 H_5 q68 hl_56 o57 k58=>?_)
    have o57:=z2c o57
    have l61:=k58.1
    have g62:=g50.keep (b:=b_21) ω2 k58
    have l63:=g62.1
    have o64:=o54.keep ω2 k58
    have w65:=o64.lt
    have o66:=o47.keep ω2 k58
    have w67:=o66.lt
    have w69:=o57.lt
    rw [show IntKind.wrap .i64 (t12+1)=(t12+1) from zt ω2 ω2]
    refine f7z_n1 (μ-1) ω15 ⟨_,_,_,_,rfl,ω8,rfl,o57,rfl,ω5,rfl,o64,ω2,g62,ω2,ω2,ω1,ω1,ω1,ω1,ω15,ω12⟩
   ·have e:=e.trans (zw c_42)
    have c_42':=zjq c_42
    refine Al.intro (fun b71 H_6 hb_72 hl_73 g74 o75=>?_)
    have o75:Own H_6 b71 (([(((za).getD (t12:Int).toNat 0))]).map fF):=o75
    have l77:=g74.1
    have g78:=g26.trans g74
    have l79:=g78.1
    have o80:=o22.grow g74
    have w81:=o80.lt
    have o82:=o24.grow g74
    have w83:=o82.lt
    have w98:=o75.lt
    refine ⟨_,_,o82.ownB ω3 rfl,(z2m (o75.isL ω5)),(fun h=>by cases h),ω25,?_⟩
    refine Ap.app o82 rfl rfl (fun b88 H_7 q96 hl_84 o85 k86=>?_)
    have o85:=z2c o85
    have l89:=k86.1
    have g90:=g78.keep (b:=b_23) ω2 k86
    have l91:=g90.1
    have o92:=o80.keep ω2 k86
    have w93:=o92.lt
    have o94:=o75.keep ω2 k86
    have w95:=o94.lt
    have w97:=o85.lt
    rw [show IntKind.wrap .i64 (t12+1)=(t12+1) from zt ω2 ω2]
    refine f7z_n1 (μ-1) ω15 ⟨_,_,_,_,rfl,ω5,rfl,o92,rfl,ω8,rfl,o85,ω2,g90,ω2,ω2,ω1,ω1,ω1,ω1,ω15,ω12⟩
  ·have e:=e.trans (zw c36)
   have c_36':=of_decide_eq_false c36
   rw [f7z_x1_0]
   rw [e] at hk
   exact hk _ _ _ _ _ _ H_3 g26 (o22.ownS ω5 ω2) (o24.ownS ω5 ω2) (fun x y hx hy=>by cases hx;cases hy;intro hh;dsimp only at hh;omega)
theorem f7z_ok:FnOk Tryz.prog 115 S_f7z:=FnOk.bodyF mix_ok zxy Tryz.func115 rfl ω9 ω9 fun args H=>by
 unfold F_f7z
 split
 ·refine ⟨?_,?_,?_,?_,fun K hk=>f7z_main _ _ _ H K hk⟩
  ·intro K K' h hk;obtain ⟨za,i_list,bd_101,k⟩:=hk;exact ⟨za,i_list,bd_101,(fun sd ae zd nh th sh H' gg ow0 ow1 sp0_1=>h _ _ (k sd ae zd nh th sh H' gg ow0 ow1 sp0_1))⟩
  ·nofun
  ·intro K hk;obtain ⟨za,i_list,bd_101,k⟩:=hk;exact zw7 fun a n e a2 n2 e2 H1 g o o2 sp=>⟨_,_,k a n e a2 n2 e2 H1 g o o2 sp⟩
  ·intro _ K hk;obtain ⟨za,i_list,bd_101,k⟩:=hk;exact ⟨za,i_list,bd_101,(fun sd ae zd nh th sh H' gg ow0 ow1 sp0_1=>⟨gg,k sd ae zd nh th sh H' gg ow0 ow1 sp0_1⟩)⟩
 ·exact Nice.no

def z8x (vc:LN) (j:Int):Nat×Nat:=(((vc).getD (j:Int).toNat 0),((vc).getD ((if (((vc.length:Int)-1):Int)<(j+1) then ((vc.length:Int)-1) else (j+1)):Int).toNat 0))
def zob:=@z8x.eq_1
def zzd (tc:OA) (uc nd:Nat) (j:Int) (H:zp) (K:Nat→Nat→zp→Prop):Prop:=∃(vc:LN),IsL fF H tc uc vc∧vc.length<1073741824∧0≤j∧j<vc.length∧K ((z8x vc j).1) ((z8x vc j).2) H
theorem z19c {tc:OA} {uc nd:Nat} {j:Int} {H:zp} {K:Nat→Nat→zp→Prop} (h:∃(vc:LN),IsL fF H tc uc vc∧vc.length<1073741824∧0≤j∧j<vc.length∧K ((z8x vc j).1) ((z8x vc j).2) H):zzd tc uc nd j H K:=h

/-! f1z: function 145 -/
def E_f1z:Env:=envOf []
def F_f1z (args:List Value) (H:zp):(Value→zp→Prop)→Prop:=match args with
 | [.slice tc uc nd,.int .i64 j]=>fun K=>zzd tc uc nd j H fun (r1:Nat) (r2:Nat) (H':zp)=>K (.tuple #[.float .f32 r1,.float .f32 r2]) H'
 | _=>fun _=>False
def S_f1z:FSpec:={F:=F_f1z,quiet:=true,tame:=false}
theorem f1z_vc (tc:OA) (uc nd:Nat) (j:Int) (H:zp) (K:KT):zv Tryz.prog E_f1z Tryz.f145 [.slice tc uc nd,.int .i64 j] H K=
 ((0:Int)≤j∧j<(uc:Int)∧∃b1 f1,(tc:OA)=some ⟨b1,f1,none⟩∧∃x1:Nat,  rdC H b1 (f1+(j:Int).toNat*1)=some (.float .f32 x1)∧(0:Int)≤(if (IntKind.wrap .i64 ((uc:Int)-1):Int)<IntKind.wrap .i64 (j+1) then IntKind.wrap .i64 ((uc:Int)-1) else IntKind.wrap .i64 (j+1))∧(if (IntKind.wrap .i64 ((uc:Int)-1):Int)<IntKind.wrap .i64 (j+1) then IntKind.wrap .i64 ((uc:Int)-1) else IntKind.wrap .i64 (j+1))<(uc:Int)∧∃b2 f2,(tc:OA)=some ⟨b2,f2,none⟩∧∃x2:Nat,  rdC H b2 (f2+((if (IntKind.wrap .i64 ((uc:Int)-1):Int)<IntKind.wrap .i64 (j+1) then IntKind.wrap .i64 ((uc:Int)-1) else IntKind.wrap .i64 (j+1)):Int).toNat*1)=some (.float .f32 x2)∧K (.tuple #[.float .f32 x1,.float .f32 x2]) H):=by kernel_rfl
theorem zxs:∀g,FnOk Tryz.prog g (E_f1z g):=FnOk.envOf (by
 intro x hx;cases hx)
theorem f1z_main (tc:OA) (uc nd:Nat) (j:Int) (H:zp) (K:KT) (h:zzd tc uc nd j H fun (r1:Nat) (r2:Nat) (H':zp)=>K (.tuple #[.float .f32 r1,.float .f32 r2]) H'):zv Tryz.prog E_f1z Tryz.f145 [.slice tc uc nd,.int .i64 j] H K:=by
 rw [f1z_vc]
 obtain ⟨vc,i_evens,bd_7,pr0,pr1,hk⟩:=h
 obtain rfl:=i_evens.eqn
 have e:(z8x vc j)=_:=rfl
 have e:=e.trans (zob vc j)
 have g0:=Grow.refl H
 obtain ⟨b_1,f_2,q_3⟩:=((i_evens.grow g0)).pos ω0
 refine ⟨by omega,by omega,b_1,f_2,q_3,?_⟩
 refine ⟨((vc).getD (j:Int).toNat 0),(i_evens).rd g0 q_3 ω2 _,?_⟩
 rw [show IntKind.wrap .i64 (j+1)=(j+1) from zt ω2 ω2]
 rw [show IntKind.wrap .i64 ((vc.length:Int)-1)=((vc.length:Int)-1) from zt ω2 ω2]
 obtain ⟨b_4,f_5,q_6⟩:=((i_evens.grow g0)).pos ω0
 refine ⟨by omega,by omega,b_4,f_5,q_6,?_⟩
 refine ⟨((vc).getD ((if (((vc.length:Int)-1):Int)<(j+1) then ((vc.length:Int)-1) else (j+1)):Int).toNat 0),(i_evens).rd g0 q_6 ω2 _,?_⟩
 rw [e] at hk
 exact hk
theorem f1z_ok:FnOk Tryz.prog 145 S_f1z:=FnOk.bodyF mix_ok zxs Tryz.func145 rfl ω9 ω9 fun args H=>by
 unfold F_f1z
 split
 ·refine ⟨?_,?_,?_,?_,fun K hk=>f1z_main _ _ _ _ H K hk⟩
  ·intro K K' h hk;obtain ⟨vc,i_evens,bd_7,pr0,pr1,k⟩:=hk;exact ⟨vc,i_evens,bd_7,pr0,pr1,h _ _ k⟩
  ·intro _ K hk;obtain ⟨vc,i_evens,bd_7,pr0,pr1,k⟩:=hk;exact ⟨_,k,fun K' k'=>⟨vc,i_evens,bd_7,pr0,pr1,k'⟩⟩
  ·intro K hk;obtain ⟨vc,i_evens,bd_7,pr0,pr1,k⟩:=hk;exact ⟨_,_,k⟩
  ·nofun
 ·exact Nice.no
def zfd (x x_o a b cap0 cap1:Nat) (H:zp) (K:zp→Prop):Prop:=∃x1:Nat,  rdC H cap0 0=some (.float .f32 x1)∧∃x2:Bool,  rdC H cap1 0=some (.bool x2)∧Br x2 (∃x3:Nat,  rdC H x x_o=some (.float .f32 x3)∧isOwn H x∧(∃l,rdN H x x_o 1=some l)∧Lt (setC H x x_o (.float .f32 (fsub .f32 x3 (fmul .f32 x1 (fadd .f32 a b))))) fun H1=>K  H1) (∃x4:Nat,  rdC H x x_o=some (.float .f32 x4)∧isOwn H x∧(∃l,rdN H x x_o 1=some l)∧Lt (setC H x x_o (.float .f32 (fadd .f32 x4 (fmul .f32 x1 (fadd .f32 a b))))) fun H2=>K  H2)
/-! f1jz: function 144 -/
def z14f:Env:=envOf []
def zmw:List Value→zp→(Value→zp→Prop)→Prop
 | [.pointer (some ⟨x,x_o,none⟩),.float .f32 a,.float .f32 b,.pointer (some ⟨cap0,0,none⟩),.pointer (some ⟨cap1,0,none⟩)],H,K=>zfd x x_o a b cap0 cap1 H fun  (H':zp)=>K (.tuple #[]) H'
 | _,_,_=>False
def zie:FSpec:={F:=zmw,quiet:=false,tame:=false}
theorem zct:∀g,FnOk Tryz.prog g (z14f g):=FnOk.envOf (by
 intro x hx;cases hx)
theorem zls (x x_o a b cap0 cap1:Nat) (H:zp) (K:KT):z5v Tryz.prog z14f Tryz.f144 [.pointer (some ⟨x,x_o,none⟩),.float .f32 a,.float .f32 b,.pointer (some ⟨cap0,0,none⟩),.pointer (some ⟨cap1,0,none⟩)] H K=zfd x x_o a b cap0 cap1 H (fun  (H':zp)=>K (.tuple #[]) H'):=by kernel_rfl
theorem z1ap:FnOk Tryz.prog 144 zie:=by
 refine FnOk.body mix_ok zct Tryz.func144 rfl ω9 ω9 ?_ ?_ ?_ ?_ ?_
 ·intro args H K K' h hk
  simp only [zie] at *
  unfold zmw at *
  split at hk
  ·rw [←zls] at hk ⊢;exact zfh zct h hk
  ·exact hk.elim
 ·intro hq;cases hq
 ·intro args H K hk
  simp only [zie] at *
  unfold zmw at *
  split at hk
  ·rw [←zls] at hk;exact zfg zct hk
  ·exact hk.elim
 ·intro hq;cases hq
 ·intro args H K hk
  simp only [zie] at *
  unfold zmw at *
  split at hk
  ·rw [←zls] at hk;exact hk
  ·exact hk.elim

def z8o (td:LN) (j:Int):Nat×Nat:=(((td).getD ((if (0:Int) > (j-1) then 0 else (j-1)):Int).toNat 0),((td).getD ((if (((td.length:Int)-1):Int)<j then ((td.length:Int)-1) else j):Int).toNat 0))
def zo9:=@z8o.eq_1
def zyt (xd:OA) (yd te:Nat) (j:Int) (H:zp) (K:Nat→Nat→zp→Prop):Prop:=∃(td:LN),IsL fF H xd yd td∧td.length<1073741824∧0≤j∧j≤td.length∧1≤td.length∧K ((z8o td j).1) ((z8o td j).2) H
theorem z19b {xd:OA} {yd te:Nat} {j:Int} {H:zp} {K:Nat→Nat→zp→Prop} (h:∃(td:LN),IsL fF H xd yd td∧td.length<1073741824∧0≤j∧j≤td.length∧1≤td.length∧K ((z8o td j).1) ((z8o td j).2) H):zyt xd yd te j H K:=h

/-! f0z: function 146 -/
def E_f0z:Env:=envOf []
def F_f0z (args:List Value) (H:zp):(Value→zp→Prop)→Prop:=match args with
 | [.slice xd yd te,.int .i64 j]=>fun K=>zyt xd yd te j H fun (r1:Nat) (r2:Nat) (H':zp)=>K (.tuple #[.float .f32 r1,.float .f32 r2]) H'
 | _=>fun _=>False
def S_f0z:FSpec:={F:=F_f0z,quiet:=true,tame:=false}
theorem f0z_vc (xd:OA) (yd te:Nat) (j:Int) (H:zp) (K:KT):zv Tryz.prog E_f0z Tryz.f146 [.slice xd yd te,.int .i64 j] H K=
 ((0:Int)≤(if (0:Int) > IntKind.wrap .i64 (j-1) then 0 else IntKind.wrap .i64 (j-1))∧(if (0:Int) > IntKind.wrap .i64 (j-1) then 0 else IntKind.wrap .i64 (j-1))<(yd:Int)∧∃b1 f1,(xd:OA)=some ⟨b1,f1,none⟩∧∃x1:Nat,  rdC H b1 (f1+((if (0:Int) > IntKind.wrap .i64 (j-1) then 0 else IntKind.wrap .i64 (j-1)):Int).toNat*1)=some (.float .f32 x1)∧(0:Int)≤(if (IntKind.wrap .i64 ((yd:Int)-1):Int)<j then IntKind.wrap .i64 ((yd:Int)-1) else j)∧(if (IntKind.wrap .i64 ((yd:Int)-1):Int)<j then IntKind.wrap .i64 ((yd:Int)-1) else j)<(yd:Int)∧∃b2 f2,(xd:OA)=some ⟨b2,f2,none⟩∧∃x2:Nat,  rdC H b2 (f2+((if (IntKind.wrap .i64 ((yd:Int)-1):Int)<j then IntKind.wrap .i64 ((yd:Int)-1) else j):Int).toNat*1)=some (.float .f32 x2)∧K (.tuple #[.float .f32 x1,.float .f32 x2]) H):=by kernel_rfl
theorem zxr:∀g,FnOk Tryz.prog g (E_f0z g):=FnOk.envOf (by
 intro x hx;cases hx)
theorem f0z_main (xd:OA) (yd te:Nat) (j:Int) (H:zp) (K:KT) (h:zyt xd yd te j H fun (r1:Nat) (r2:Nat) (H':zp)=>K (.tuple #[.float .f32 r1,.float .f32 r2]) H'):zv Tryz.prog E_f0z Tryz.f146 [.slice xd yd te,.int .i64 j] H K:=by
 rw [f0z_vc]
 obtain ⟨td,i_odds,bd_7,pr0,pr1,pr2,hk⟩:=h
 obtain rfl:=i_odds.eqn
 have e:(z8o td j)=_:=rfl
 have e:=e.trans (zo9 td j)
 have g0:=Grow.refl H
 rw [show IntKind.wrap .i64 (j-1)=(j-1) from zt ω2 ω2]
 obtain ⟨b_1,f_2,q_3⟩:=((i_odds.grow g0)).pos ω0
 refine ⟨by omega,by omega,b_1,f_2,q_3,?_⟩
 refine ⟨((td).getD ((if (0:Int) > (j-1) then 0 else (j-1)):Int).toNat 0),(i_odds).rd g0 q_3 ω2 _,?_⟩
 rw [show IntKind.wrap .i64 ((td.length:Int)-1)=((td.length:Int)-1) from zt ω2 ω2]
 obtain ⟨b_4,f_5,q_6⟩:=((i_odds.grow g0)).pos ω0
 refine ⟨by omega,by omega,b_4,f_5,q_6,?_⟩
 refine ⟨((td).getD ((if (((td.length:Int)-1):Int)<j then ((td.length:Int)-1) else j):Int).toNat 0),(i_odds).rd g0 q_6 ω2 _,?_⟩
 rw [e] at hk
 exact hk
theorem f0z_ok:FnOk Tryz.prog 146 S_f0z:=FnOk.bodyF mix_ok zxr Tryz.func146 rfl ω9 ω9 fun args H=>by
 unfold F_f0z
 split
 ·refine ⟨?_,?_,?_,?_,fun K hk=>f0z_main _ _ _ _ H K hk⟩
  ·intro K K' h hk;obtain ⟨td,i_odds,bd_7,pr0,pr1,pr2,k⟩:=hk;exact ⟨td,i_odds,bd_7,pr0,pr1,pr2,h _ _ k⟩
  ·intro _ K hk;obtain ⟨td,i_odds,bd_7,pr0,pr1,pr2,k⟩:=hk;exact ⟨_,k,fun K' k'=>⟨td,i_odds,bd_7,pr0,pr1,pr2,k'⟩⟩
  ·intro K hk;obtain ⟨td,i_odds,bd_7,pr0,pr1,pr2,k⟩:=hk;exact ⟨_,_,k⟩
  ·nofun
 ·exact Nice.no
def zfb (back:Bool) (x y:Nat):Nat:=bif back then fsub .f32 x y else fadd .f32 x y
def z7i (k:Int) (w:Nat) (back:Bool) (low high:LN):LN:=bif Int.tmod k 2==0 then high.mapIdx (fun i x=>zfb back x (fmul .f32 w (fadd .f32 ((z8x low (i:Int)).1) ((z8x low (i:Int)).2)))) else high
def zby (k:Int) (w:Nat) (back:Bool) (low high:LN):LN:=bif Int.tmod k 2==0 then low else low.mapIdx (fun i x=>zfb back x (fmul .f32 w (fadd .f32 ((z8o high (i:Int)).1) ((z8o high (i:Int)).2))))
@[simp] theorem z8a (k:Int) (w:Nat) (back:Bool) (low high:LN):(z7i k w back low high).length=high.length:=by
 unfold z7i;cases (Int.tmod k 2==0)<;>simp
@[simp] theorem z9f (k:Int) (w:Nat) (back:Bool) (low high:LN):(zby k w back low high).length=low.length:=by
 unfold zby;cases (Int.tmod k 2==0)<;>simp
def z7c (vc td:LN) (i:Int) (w:Nat) (back:Bool):Nat→Int→LN→LN×LN
 | 0,_,_=>([],[])
 | μ+1,t23,y1_1=>(bif decide ((t23:Int)<(td.length:Int)) then (bif back then (z7c vc td i w back μ (t23+1) (((y1_1).set (t23:Int).toNat ((fsub .f32 (((y1_1).getD (t23:Int).toNat 0)) (fmul .f32 w (fadd .f32 ((z8x vc t23).1) ((z8x vc t23).2)))))))) else (z7c vc td i w back μ (t23+1) (((y1_1).set (t23:Int).toNat ((fadd .f32 (((y1_1).getD (t23:Int).toNat 0)) (fmul .f32 w (fadd .f32 ((z8x vc t23).1) ((z8x vc t23).2))))))))) else (vc,y1_1))
def ze6:=fun vc td i w back μ t23 y1_1=>@z7c.eq_2 vc td i w back t23 y1_1 μ
def z7d (vc td:LN) (i:Int) (w:Nat) (back:Bool):Nat→Int→LN→LN×LN
 | 0,_,_=>([],[])
 | μ+1,t42,y2_1=>(bif decide ((t42:Int)<(vc.length:Int)) then (bif back then (z7d vc td i w back μ (t42+1) (((y2_1).set (t42:Int).toNat ((fsub .f32 (((y2_1).getD (t42:Int).toNat 0)) (fmul .f32 w (fadd .f32 ((z8o td t42).1) ((z8o td t42).2)))))))) else (z7d vc td i w back μ (t42+1) (((y2_1).set (t42:Int).toNat ((fadd .f32 (((y2_1).getD (t42:Int).toNat 0)) (fmul .f32 w (fadd .f32 ((z8o td t42).1) ((z8o td t42).2))))))))) else (y2_1,td))
def ze7:=fun vc td i w back μ t42 y2_1=>@z7d.eq_2 vc td i w back t42 y2_1 μ
def ze5 (vc td:LN) (i:Int) (w:Nat) (back:Bool):LN×LN:=((bif (Int.tmod i 2:Int)==0 then (z7c vc td i w back (Int.toNat ((td.length:Int)-(0:Int))+1) (0:Int) td) else (z7d vc td i w back (Int.toNat ((vc.length:Int)-(0:Int))+1) (0:Int) vc)))
def zkp:=@ze5.eq_1
def zno (tc:OA) (uc nd:Nat) (xd:OA) (yd te:Nat) (i:Int) (w:Nat) (back:Bool) (H:zp) (K:zp→Prop):Prop:=∃lo:Nat,∃lob:Nat,∃(vc td:LN),OwnS fF H lo tc uc nd vc∧OwnS fF H lob xd yd te td∧SepA tc xd∧vc.length<1073741824∧td.length<1073741824∧td.length≤vc.length∧vc.length≤td.length+1∧1≤td.length∧((∀H':zp,z2u tc xd H H'→OwnS fF H' lo tc uc nd (zby i w back vc td)→OwnS fF H' lob xd yd te (z7i i w back vc td)→K  H'))
theorem zzf {tc:OA} {uc nd:Nat} {xd:OA} {yd te:Nat} {i:Int} {w:Nat} {back:Bool} {H:zp} {K:zp→Prop} (h:∃lo:Nat,∃lob:Nat,∃(vc td:LN),OwnS fF H lo tc uc nd vc∧OwnS fF H lob xd yd te td∧SepA tc xd∧vc.length<1073741824∧td.length<1073741824∧td.length≤vc.length∧vc.length≤td.length+1∧1≤td.length∧((∀H':zp,z2u tc xd H H'→OwnS fF H' lo tc uc nd (zby i w back vc td)→OwnS fF H' lob xd yd te (z7i i w back vc td)→K  H'))):zno tc uc nd xd yd te i w back H K:=h
theorem zfk (W ys:LN) (i:Nat) (hi:i<ys.length) (hl:W.length=ys.length):(W.take i++ys.drop i).getD i 0=ys.getD i 0:=by
 rw [List.getD_eq_getElem?_getD,List.getD_eq_getElem?_getD,List.getElem?_append_right (by simp;omega)]
 have:(W.take i).length=i:=by simp;omega
 rw [this,Nat.sub_self,List.getElem?_drop,Nat.add_zero]
theorem f20z_go1 (low high:LN) (k:Int) (w:Nat) (back:Bool) (W:LN) (hW:W=high.mapIdx (fun i x=>zfb back x (fmul .f32 w (fadd .f32 ((z8x low (i:Int)).1) ((z8x low (i:Int)).2))))):
  ∀(μ i:Nat),i≤high.length→high.length-i<μ→z7c low high k w back μ (i:Int) (W.take i++high.drop i)=(low,W):=by
 have hl:W.length=high.length:=by rw [hW];simp
 intro μ
 induction μ with
 | zero=>intro i _ h;omega
 | succ μ ih=>
  intro i hi hm
  rw [ze6]
  by_cases h:i<high.length
  ·rw [decide_eq_true (show (i:Int)<(high.length:Int) by omega),cond_true,Int.toNat_natCast]
   have:=ih (i+1) ω2 ω2
   have key:∀x,W[i]? =some x→(W.take i++high.drop i).set i x=W.take (i+1)++high.drop (i+1):=fun x hx=>z3g W high i h hl x hx
   have hx:W[i]? =some (zfb back (high.getD i 0) (fmul .f32 w (fadd .f32 ((z8x low (i:Int)).1) ((z8x low (i:Int)).2)))):=by
    rw [hW];simp [List.getD_eq_getElem?_getD,h]
   rw [zfk W high i h hl]
   have k2:=key _ hx
   cases back
   ·rw [cond_false];simp only [zfb,cond_false] at k2;rw [k2];exact this
   ·rw [cond_true];simp only [zfb,cond_true] at k2;rw [k2];exact this
  ·have e:i=high.length:=by omega
   rw [decide_eq_false (show ¬(i:Int)<(high.length:Int) by omega),cond_false,e]
   simp [←hl]
theorem f20z_go2 (low high:LN) (k:Int) (w:Nat) (back:Bool) (W:LN) (hW:W=low.mapIdx (fun i x=>zfb back x (fmul .f32 w (fadd .f32 ((z8o high (i:Int)).1) ((z8o high (i:Int)).2))))):
  ∀(μ i:Nat),i≤low.length→low.length-i<μ→z7d low high k w back μ (i:Int) (W.take i++low.drop i)=(W,high):=by
 have hl:W.length=low.length:=by rw [hW];simp
 intro μ
 induction μ with
 | zero=>intro i _ h;omega
 | succ μ ih=>
  intro i hi hm
  rw [ze7]
  by_cases h:i<low.length
  ·rw [decide_eq_true (show (i:Int)<(low.length:Int) by omega),cond_true,Int.toNat_natCast]
   have:=ih (i+1) ω2 ω2
   have key:∀x,W[i]? =some x→(W.take i++low.drop i).set i x=W.take (i+1)++low.drop (i+1):=fun x hx=>z3g W low i h hl x hx
   have hx:W[i]? =some (zfb back (low.getD i 0) (fmul .f32 w (fadd .f32 ((z8o high (i:Int)).1) ((z8o high (i:Int)).2)))):=by
    rw [hW];simp [List.getD_eq_getElem?_getD,h]
   rw [zfk W low i h hl]
   have k2:=key _ hx
   cases back
   ·rw [cond_false];simp only [zfb,cond_false] at k2;rw [k2];exact this
   ·rw [cond_true];simp only [zfb,cond_true] at k2;rw [k2];exact this
  ·have e:i=low.length:=by omega
   rw [decide_eq_false (show ¬(i:Int)<(low.length:Int) by omega),cond_false,e]
   simp [←hl]
theorem f20z_val (low high:LN) (k:Int) (w:Nat) (back:Bool):ze5 low high k w back=(zby k w back low high,z7i k w back low high):=by
 rw [zkp]
 unfold zby z7i
 cases h:(Int.tmod k 2==0)
 ·rw [cond_false,cond_false,cond_false]
  have:=f20z_go2 low high k w back _ rfl (Int.toNat ((low.length:Int)-0)+1) 0 ω2 ω2
  simpa using this
 ·rw [cond_true,cond_true,cond_true]
  have:=f20z_go1 low high k w back _ rfl (Int.toNat ((high.length:Int)-0)+1) 0 ω2 ω2
  simpa using this
/-! f20z: function 116 -/
def z5s:Env:=envOf [(145,S_f1z),(144,zie),(146,S_f0z)]
def z15n (args:List Value) (H:zp):(Value→zp→Prop)→Prop:=match args with
 | [.slice tc uc nd,.slice xd yd te,.int .i64 i,.float .f32 w,.bool back]=>fun K=>zno tc uc nd xd yd te i w back H fun  (H':zp)=>K (.tuple #[]) H'
 | _=>fun _=>False
def z16q:FSpec:={F:=z15n,quiet:=false,tame:=false}
theorem f20z_vc (tc:OA) (uc nd:Nat) (xd:OA) (yd te:Nat) (i:Int) (w:Nat) (back:Bool) (H:zp) (K:KT):zv Tryz.prog z5s Tryz.f116 [.slice tc uc nd,.slice xd yd te,.int .i64 i,.float .f32 w,.bool back] H K=
 (Al [.float .f32 w] H fun b1 H1=>Al [.bool back] H1 fun b2 H2=>2≠(0:Int)∧Br ((Int.tmod i 2:Int)==0) (z1i (exL Tryz.prog z5s (cl (cl (cr (cl (cl (cr (cl (cr (cr (zq Tryz.f116)))))))))) 12583939 0 [(0,0)]) (.slice tc uc nd::.slice xd yd te::ud8 (.func (.func 144) #[] #[.pointer (some ⟨b1,0,none⟩),.pointer (some ⟨b2,0,none⟩)]::ud11 (.int .i64 (yd:Int)::.int .i64 0::ud35 []))) H2 (zu 0 (seqQ (exL Tryz.prog z5s (cr (cl (cr (cl (cr (cr (zq Tryz.f116))))))) 1027 0 []) (seqQ (exL Tryz.prog z5s (cr (cr (cr (zq Tryz.f116)))) 0 0 []) (retK Tryz.prog Tryz.f116 K))))) (z1i (exL Tryz.prog z5s (cl (cl (cr (cr (cr (cr (zq Tryz.f116))))))) 6597069767683 0 [(2,0)]) (.slice tc uc nd::.slice xd yd te::ud8 (.func (.func 144) #[] #[.pointer (some ⟨b1,0,none⟩),.pointer (some ⟨b2,0,none⟩)]::ud30 (.int .i64 (uc:Int)::.int .i64 0::ud16 []))) H2 (zu 2 (retK Tryz.prog Tryz.f116 K)))):=by kernel_rfl
abbrev f20z_P1 (b1 b2:Nat) (tc:OA) (nd uc:Nat) (xd:OA) (te yd:Nat) (t23:Int)  :List Value:=(.slice tc uc nd::.slice xd yd te::ud8 (.func (.func 144) #[] #[.pointer (some ⟨b1,0,none⟩),.pointer (some ⟨b2,0,none⟩)]::ud11 (.int .i64 (yd:Int)::.int .i64 t23::ud35 [])))
theorem f20z_r1 (b1 b2:Nat) (tc:OA) (nd uc:Nat) (xd:OA) (te yd:Nat) (t23:Int)  (H:zp) (R:Post):exL Tryz.prog z5s (cl (cl (cr (cl (cl (cr (cl (cr (cr (zq Tryz.f116)))))))))) 12583939 0 [(0,0)] (f20z_P1 b1 b2 tc nd uc xd te yd t23) H R=
 (Br (decide ((t23:Int)<(yd:Int))) (zzd tc uc nd t23 H fun (r1:Nat) (r2:Nat) (H3:zp)=>(0:Int)≤t23∧t23<(yd:Int)∧∃b3 f1,(xd:OA)=some ⟨b3,f1,none⟩∧zfd b3 (f1+(t23:Int).toNat*1) r1 r2 b1 b2 H3 fun  (H4:zp)=>R .normal (.slice tc uc nd::.slice xd yd te::ud8 (.func (.func 144) #[] #[.pointer (some ⟨b1,0,none⟩),.pointer (some ⟨b2,0,none⟩)]::ud11 (.int .i64 (yd:Int)::.int .i64 (IntKind.wrap .i64 (t23+1))::ud35 []))) H4) (R (.exit 0) (ud59 []) H)):=by kernel_rfl
def f20z_I1 (b1 b2:Nat) (tc:OA) (nd uc:Nat) (xd:OA) (te yd:Nat) (Inv:Nat→Int→zp→Prop):Nat→List Value→zp→Prop:=fun μ tm H=>∃(t23:Int),tm=(f20z_P1 b1 b2 tc nd uc xd te yd t23)∧Inv μ t23 H
theorem f20z_L1 (b1 b2:Nat) (tc:OA) (nd uc:Nat) (xd:OA) (te yd:Nat) {Q:Post} (Inv:Nat→Int→zp→Prop) (ν:Nat) (t23:Int)  (H:zp) (h0:Inv ν t23 H)
  (hs:∀(μ:Nat) (t23:Int)  (H:zp),Inv μ t23 H→exL Tryz.prog z5s (cl (cl (cr (cl (cl (cr (cl (cr (cr (zq Tryz.f116)))))))))) 12583939 0 [(0,0)] (f20z_P1 b1 b2 tc nd uc xd te yd t23) H (z1a (f20z_I1 b1 b2 tc nd uc xd te yd Inv) μ Q)):z1i (exL Tryz.prog z5s (cl (cl (cr (cl (cl (cr (cl (cr (cr (zq Tryz.f116)))))))))) 12583939 0 [(0,0)]) (f20z_P1 b1 b2 tc nd uc xd te yd t23) H Q:=
 ⟨f20z_I1 b1 b2 tc nd uc xd te yd Inv,ν,⟨t23,rfl,h0⟩,fun μ tm H h=>by obtain ⟨t23,rfl,hI⟩:=h;exact hs μ t23  H hI⟩
theorem f20z_n1 {b1 b2:Nat} {tc:OA} {nd uc:Nat} {xd:OA} {te yd:Nat} {Q:Post} {Inv:Nat→Int→zp→Prop} {μ:Nat} (μ':Nat) {t23:Int}  {H:zp} (hm:μ'<μ) (hI:Inv μ' t23 H):z1a (f20z_I1 b1 b2 tc nd uc xd te yd Inv) μ Q .normal (f20z_P1 b1 b2 tc nd uc xd te yd t23) H:=⟨μ',hm,t23,rfl,hI⟩
theorem f20z_x1_0  (H:zp) (K:KT)  {I:Nat→List Value→zp→Prop} {μ:Nat}:z1a I μ (zu 0 (seqQ (exL Tryz.prog z5s (cr (cl (cr (cl (cr (cr (zq Tryz.f116))))))) 1027 0 []) (seqQ (exL Tryz.prog z5s (cr (cr (cr (zq Tryz.f116)))) 0 0 []) (retK Tryz.prog Tryz.f116 K)))) (.exit 0) (ud59 []) H=
 (K (.tuple #[]) H):=by kernel_rfl
abbrev f20z_P2 (b1 b2:Nat) (tc:OA) (nd uc:Nat) (xd:OA) (te yd:Nat) (t42:Int)  :List Value:=(.slice tc uc nd::.slice xd yd te::ud8 (.func (.func 144) #[] #[.pointer (some ⟨b1,0,none⟩),.pointer (some ⟨b2,0,none⟩)]::ud30 (.int .i64 (uc:Int)::.int .i64 t42::ud16 [])))
theorem f20z_r2 (b1 b2:Nat) (tc:OA) (nd uc:Nat) (xd:OA) (te yd:Nat) (t42:Int)  (H:zp) (R:Post):exL Tryz.prog z5s (cl (cl (cr (cr (cr (cr (zq Tryz.f116))))))) 6597069767683 0 [(2,0)] (f20z_P2 b1 b2 tc nd uc xd te yd t42) H R=
 (Br (decide ((t42:Int)<(uc:Int))) (zyt xd yd te t42 H fun (r3:Nat) (r4:Nat) (H5:zp)=>(0:Int)≤t42∧t42<(uc:Int)∧∃b4 f2,(tc:OA)=some ⟨b4,f2,none⟩∧zfd b4 (f2+(t42:Int).toNat*1) r3 r4 b1 b2 H5 fun  (H6:zp)=>R .normal (.slice tc uc nd::.slice xd yd te::ud8 (.func (.func 144) #[] #[.pointer (some ⟨b1,0,none⟩),.pointer (some ⟨b2,0,none⟩)]::ud30 (.int .i64 (uc:Int)::.int .i64 (IntKind.wrap .i64 (t42+1))::ud16 []))) H6) (R (.exit 2) (ud59 []) H)):=by kernel_rfl
def f20z_I2 (b1 b2:Nat) (tc:OA) (nd uc:Nat) (xd:OA) (te yd:Nat) (Inv:Nat→Int→zp→Prop):Nat→List Value→zp→Prop:=fun μ tm H=>∃(t42:Int),tm=(f20z_P2 b1 b2 tc nd uc xd te yd t42)∧Inv μ t42 H
theorem f20z_L2 (b1 b2:Nat) (tc:OA) (nd uc:Nat) (xd:OA) (te yd:Nat) {Q:Post} (Inv:Nat→Int→zp→Prop) (ν:Nat) (t42:Int)  (H:zp) (h0:Inv ν t42 H)
  (hs:∀(μ:Nat) (t42:Int)  (H:zp),Inv μ t42 H→exL Tryz.prog z5s (cl (cl (cr (cr (cr (cr (zq Tryz.f116))))))) 6597069767683 0 [(2,0)] (f20z_P2 b1 b2 tc nd uc xd te yd t42) H (z1a (f20z_I2 b1 b2 tc nd uc xd te yd Inv) μ Q)):z1i (exL Tryz.prog z5s (cl (cl (cr (cr (cr (cr (zq Tryz.f116))))))) 6597069767683 0 [(2,0)]) (f20z_P2 b1 b2 tc nd uc xd te yd t42) H Q:=
 ⟨f20z_I2 b1 b2 tc nd uc xd te yd Inv,ν,⟨t42,rfl,h0⟩,fun μ tm H h=>by obtain ⟨t42,rfl,hI⟩:=h;exact hs μ t42  H hI⟩
theorem f20z_n2 {b1 b2:Nat} {tc:OA} {nd uc:Nat} {xd:OA} {te yd:Nat} {Q:Post} {Inv:Nat→Int→zp→Prop} {μ:Nat} (μ':Nat) {t42:Int}  {H:zp} (hm:μ'<μ) (hI:Inv μ' t42 H):z1a (f20z_I2 b1 b2 tc nd uc xd te yd Inv) μ Q .normal (f20z_P2 b1 b2 tc nd uc xd te yd t42) H:=⟨μ',hm,t42,rfl,hI⟩
theorem f20z_x2_2  (H:zp) (K:KT)  {I:Nat→List Value→zp→Prop} {μ:Nat}:z1a I μ (zu 2 (retK Tryz.prog Tryz.f116 K)) (.exit 2) (ud59 []) H=
 (K (.tuple #[]) H):=by kernel_rfl
theorem zsr:∀g,FnOk Tryz.prog g (z5s g):=FnOk.envOf (by
 intro x hx
 simp only [List.mem_cons,List.not_mem_nil,or_false] at hx
 rcases hx with rfl | rfl | rfl
 ·exact f1z_ok
 ·exact z1ap
 ·exact f0z_ok)
theorem f20z_main (tc:OA) (uc nd:Nat) (xd:OA) (yd te:Nat) (i:Int) (w:Nat) (back:Bool) (H:zp) (K:KT) (h:zno tc uc nd xd yd te i w back H fun  (H':zp)=>K (.tuple #[]) H'):zv Tryz.prog z5s Tryz.f116 [.slice tc uc nd,.slice xd yd te,.int .i64 i,.float .f32 w,.bool back] H K:=by
 rw [f20z_vc]
 obtain ⟨lo,lob,vc,td,i_evens,i_odds,sp_m,bd_112,bd_113,pr0,pr1,pr2,hk⟩:=h
 have hk:(∀H':zp,z2u tc xd H H'→OwnS fF H' lo tc uc nd ((ze5 vc td i w back).1)→OwnS fF H' lob xd yd te ((ze5 vc td i w back).2)→(fun  (H':zp)=>K (.tuple #[]) H')  H'):=by rw [f20z_val vc td i w back];exact hk
 obtain rfl:=i_evens.len
 obtain rfl:=i_odds.len
 have up_p:=i_evens.up
 have lo_p:=i_evens.lo
 have up_q:=i_odds.up
 have lo_q:=i_odds.lo
 have e:(ze5 vc td i w back)=_:=rfl
 have e:=e.trans (zkp vc td i w back)
 have g0:=z2u.refl tc xd H
 refine Al.intro (fun b_1 H_1 hb_2 hl_3 g_4 o_5=>?_)
 have l_7:=g_4.1
 have g_8:=g0.trans g_4
 have l_9:=g_8.1
 have r_10:=i_evens.grow g_4
 have r_11:=i_odds.grow g_4
 have w111:=o_5.lt
 refine Al.intro (fun b_12 H_2 hb_13 hl_14 g15 o16=>?_)
 have l_18:=g15.1
 have g_19:=g_8.trans g15
 have l_20:=g_19.1
 have o21:=o_5.grow g15
 have w22:=o21.lt
 have r_23:=r_10.grow g15
 have r_24:=r_11.grow g15
 have w110:=o16.lt
 refine ⟨ω22,?_⟩
 have z25:=z9o i 2
 have z26:=zbx i 2
 refine Br.intro (fun c_27=>?_) (fun c_27=>?_)
 ·have e:=e.trans (zx c_27)
  have c_27':=zjr c_27
  refine f20z_L1 _ _ _ _ _ _ _ _ (fun (μ:Nat) (t23:Int) (H_3:zp)=>∃(y1_1:LN),Own H_3 b_1 ([.float .f32 w])∧Own H_3 b_12 ([.bool back])∧OwnS fF H_3 lo tc vc.length nd vc∧OwnS fF H_3 lob xd td.length te y1_1∧y1_1.length=(td).length∧(b_12≠b_1)∧H.length≤H_3.length∧H.length≤H_3.length∧z2u tc xd H H_3∧(0:Int)≤t23∧t23≤(td.length:Int)∧(td.length:Int)-t23≤(μ:Int)∧ze5 vc td i w back=z7c vc td i w back (μ+1) t23 y1_1) (Int.toNat ((td.length:Int)-(0:Int))) _ H_2 ?_ ?_
  ·exact ⟨_,o21,o16,r_23,r_24,ω17,ω2,ω2,ω2,g_19,ω7,ω7,ω2,e⟩
  ·intro μ t23  H_3 hI
   obtain ⟨y1_1,o28,o29,r_30,r_31,y32,n33,n34,n35,g36,v_37,v_38,hμ,e⟩:=hI
   rw [f20z_r1]
   have e:=e.trans (ze6 vc td i w back μ t23 y1_1)
   have w39:=o28.lt
   have w40:=o29.lt
   have l41:=g36.1
   refine Br.intro (fun c_42=>?_) (fun c_42=>?_)
   ·have e:=e.trans (zx c_42)
    have c_42':=of_decide_eq_true c_42
    refine z19c ⟨_,r_30.isL,ω0,ω14,ω14,?_⟩
    obtain ⟨b43,f_44,q45⟩:=(r_31.isL).pos ω0
    refine ⟨by omega,by omega,b43,f_44,q45,?_⟩
    unfold zfd
    refine ⟨w,(o28.rdC _).trans rfl,?_⟩
    refine ⟨back,(o29.rdC _).trans rfl,?_⟩
    refine Br.intro (fun c_46=>?_) (fun c_46=>?_)
    ·have e:=e.trans (zx c_46)
     refine ⟨((y1_1).getD (t23:Int).toNat 0),(r_31.isL).rd (Grow.refl _) q45 ω2 _,?_⟩
     refine Lt.setS r_31 q45 ω6 (fun H_4 hl_47 o49 k48=>?_)
     have l50:=k48.1
     have g51:=g36.transB k48
     have l52:=g51.1
     have o53:=o28.keepA (fun x hx=>by have:=lo_q x hx;have:=up_q x hx;omega) k48
     have w54:=o53.lt
     have o55:=o29.keepA (fun x hx=>by have:=lo_q x hx;have:=up_q x hx;omega) k48
     have w56:=o55.lt
     have r57:=r_30.keepA (sp_m).symm k48
     rw [show IntKind.wrap .i64 (t23+1)=(t23+1) from zt ω2 ω2]
     refine f20z_n1 (μ-1) ω15 ⟨_,o53,o55,r57,o49,ω21,ω2,ω2,ω2,ω2,ω1,ω1,ω15,ω12⟩
    ·have e:=e.trans (zw c_46)
     refine ⟨((y1_1).getD (t23:Int).toNat 0),(r_31.isL).rd (Grow.refl _) q45 ω2 _,?_⟩
     refine Lt.setS r_31 q45 ω6 (fun H_5 hl_58 o60 k59=>?_)
     have l61:=k59.1
     have g62:=g36.transB k59
     have l63:=g62.1
     have o64:=o28.keepA (fun x hx=>by have:=lo_q x hx;have:=up_q x hx;omega) k59
     have w65:=o64.lt
     have o66:=o29.keepA (fun x hx=>by have:=lo_q x hx;have:=up_q x hx;omega) k59
     have w67:=o66.lt
     have r68:=r_30.keepA (sp_m).symm k59
     rw [show IntKind.wrap .i64 (t23+1)=(t23+1) from zt ω2 ω2]
     refine f20z_n1 (μ-1) ω15 ⟨_,o64,o66,r68,o60,ω21,ω2,ω2,ω2,ω2,ω1,ω1,ω15,ω12⟩
   ·have e:=e.trans (zw c_42)
    have c_42':=of_decide_eq_false c_42
    rw [f20z_x1_0]
    rw [e] at hk
    exact hk H_3 g36 r_30 r_31
 ·have e:=e.trans (zw c_27)
  have c_27':=zjq c_27
  refine f20z_L2 _ _ _ _ _ _ _ _ (fun (μ:Nat) (t42:Int) (H_6:zp)=>∃(y2_1:LN),Own H_6 b_1 ([.float .f32 w])∧Own H_6 b_12 ([.bool back])∧OwnS fF H_6 lo tc vc.length nd y2_1∧y2_1.length=(vc).length∧OwnS fF H_6 lob xd td.length te td∧(b_12≠b_1)∧H.length≤H_6.length∧H.length≤H_6.length∧z2u tc xd H H_6∧(0:Int)≤t42∧t42≤(vc.length:Int)∧(vc.length:Int)-t42≤(μ:Int)∧ze5 vc td i w back=z7d vc td i w back (μ+1) t42 y2_1) (Int.toNat ((vc.length:Int)-(0:Int))) _ H_2 ?_ ?_
  ·exact ⟨_,o21,o16,r_23,ω17,r_24,ω2,ω2,ω2,g_19,ω7,ω7,ω2,e⟩
  ·intro μ t42  H_6 hI
   obtain ⟨y2_1,o69,o70,r71,y72,r73,n74,n75,n76,g77,v_78,v_79,hμ,e⟩:=hI
   rw [f20z_r2]
   have e:=e.trans (ze7 vc td i w back μ t42 y2_1)
   have w80:=o69.lt
   have w81:=o70.lt
   have l82:=g77.1
   refine Br.intro (fun c83=>?_) (fun c83=>?_)
   ·have e:=e.trans (zx c83)
    have c_83':=of_decide_eq_true c83
    refine z19b ⟨_,r73.isL,ω0,ω14,ω14,ω14,?_⟩
    obtain ⟨b84,f85,q86⟩:=(r71.isL).pos ω0
    refine ⟨by omega,by omega,b84,f85,q86,?_⟩
    unfold zfd
    refine ⟨w,(o69.rdC _).trans rfl,?_⟩
    refine ⟨back,(o70.rdC _).trans rfl,?_⟩
    refine Br.intro (fun c87=>?_) (fun c87=>?_)
    ·have e:=e.trans (zx c87)
     refine ⟨((y2_1).getD (t42:Int).toNat 0),(r71.isL).rd (Grow.refl _) q86 ω2 _,?_⟩
     refine Lt.setS r71 q86 ω6 (fun H_7 hl_88 o90 k89=>?_)
     have l91:=k89.1
     have g92:=g77.transA k89
     have l93:=g92.1
     have o94:=o69.keepA (fun x hx=>by have:=lo_p x hx;have:=up_p x hx;omega) k89
     have w95:=o94.lt
     have o96:=o70.keepA (fun x hx=>by have:=lo_p x hx;have:=up_p x hx;omega) k89
     have w97:=o96.lt
     have r98:=r73.keepA (sp_m) k89
     rw [show IntKind.wrap .i64 (t42+1)=(t42+1) from zt ω2 ω2]
     refine f20z_n2 (μ-1) ω15 ⟨_,o94,o96,o90,ω21,r98,ω2,ω2,ω2,ω2,ω1,ω1,ω15,ω12⟩
    ·have e:=e.trans (zw c87)
     refine ⟨((y2_1).getD (t42:Int).toNat 0),(r71.isL).rd (Grow.refl _) q86 ω2 _,?_⟩
     refine Lt.setS r71 q86 ω6 (fun H_8 hl_99 o101 k100=>?_)
     have l102:=k100.1
     have g103:=g77.transA k100
     have l104:=g103.1
     have o105:=o69.keepA (fun x hx=>by have:=lo_p x hx;have:=up_p x hx;omega) k100
     have w106:=o105.lt
     have o107:=o70.keepA (fun x hx=>by have:=lo_p x hx;have:=up_p x hx;omega) k100
     have w108:=o107.lt
     have r109:=r73.keepA (sp_m) k100
     rw [show IntKind.wrap .i64 (t42+1)=(t42+1) from zt ω2 ω2]
     refine f20z_n2 (μ-1) ω15 ⟨_,o105,o107,o101,ω21,r109,ω2,ω2,ω2,ω2,ω1,ω1,ω15,ω12⟩
   ·have e:=e.trans (zw c83)
    have c_83':=of_decide_eq_false c83
    rw [f20z_x2_2]
    rw [e] at hk
    exact hk H_6 g77 r71 r73
theorem f20z_ok:FnOk Tryz.prog 116 z16q:=FnOk.bodyF mix_ok zsr Tryz.func116 rfl ω9 ω9 fun args H=>by
 unfold z15n
 split
 ·refine ⟨?_,?_,?_,?_,fun K hk=>f20z_main _ _ _ _ _ _ _ _ _ H K hk⟩
  ·intro K K' h hk;obtain ⟨lo,lob,vc,td,i_evens,i_odds,sp_m,bd_112,bd_113,pr0,pr1,pr2,k⟩:=hk;exact ⟨lo,lob,vc,td,i_evens,i_odds,sp_m,bd_112,bd_113,pr0,pr1,pr2,(fun H' gg ow ow2=>h _ _ (k H' gg ow ow2))⟩
  ·nofun
  ·intro K hk;obtain ⟨lo,lob,vc,td,i_evens,i_odds,sp_m,bd_112,bd_113,pr0,pr1,pr2,k⟩:=hk;exact (i_evens.put2 i_odds sp_m _ _ (by rw [z9f]) (by rw [z8a])).elim fun H1 h=>⟨_,_,k H1 h.1 h.2.1 h.2.2⟩
  ·nofun
 ·exact Nice.no

def z5z (sa:LN) (db:Nat) (za:LN) (t34:Int) (y1_1 y1_2:LN) (t47:Int) (y2_1 y2_2:LN) (k3_4:Int→LN→(LN×LN×Bool)):Nat→Int→LN→LN×LN×Bool
 | 0,_,_=>([],[],false)
 | μ3+1,t61,y3_1=>(bif decide ((t61:Int)<(((ods za)).length:Int)) then (z5z sa db za t34 y1_1 y1_2 t47 y2_1 y2_2 k3_4 μ3 (t61+1) (((y3_1).set (t61:Int).toNat ((fdiv .f32 (((y3_1).getD (t61:Int).toNat 0)) db))))) else (k3_4 t61 y3_1))
def zdy:=fun sa db za t34 y1_1 y1_2 t47 y2_1 y2_2 k3_4 μ3 t61 y3_1=>@z5z.eq_2 sa db za t34 y1_1 y1_2 t47 y2_1 y2_2 k3_4 t61 y3_1 μ3
def z8r (sa:LN) (db:Nat) (za:LN) (t34:Int) (y1_1 y1_2:LN) (k2_2:Int→LN→LN→(LN×LN×Bool)):Nat→Int→LN→LN→LN×LN×Bool
 | 0,_,_,_=>([],[],false)
 | μ2+1,t47,y2_1,y2_2=>(bif decide ((t47:Int)<(((evs za)).length:Int)) then (z8r sa db za t34 y1_1 y1_2 k2_2 μ2 (t47+1) (((y2_1).set (t47:Int).toNat ((fmul .f32 (((y2_1).getD (t47:Int).toNat 0)) db)))) y2_2) else (k2_2 t47 y2_1 y2_2))
def zdx:=fun sa db za t34 y1_1 y1_2 k2_2 μ2 t47 y2_1 y2_2=>@z8r.eq_2 sa db za t34 y1_1 y1_2 k2_2 t47 y2_1 y2_2 μ2
def z4w (sa:LN) (db:Nat) (za:LN):Nat→Int→LN→LN→LN×LN×Bool
 | 0,_,_,_=>([],[],false)
 | μ+1,t34,y1_1,y1_2=>(bif decide ((t34:Int)<(sa.length:Int)) then (z4w sa db za μ (t34+1) ((zby t34 (((sa).getD (t34:Int).toNat 0)) false y1_1 y1_2)) ((z7i t34 (((sa).getD (t34:Int).toNat 0)) false y1_1 y1_2))) else (z8r sa db za t34 y1_1 y1_2 (fun (t47:Int) (y2_1:LN) (y2_2:LN)=>(z5z sa db za t34 y1_1 y1_2 t47 y2_1 y2_2 (fun (t61:Int) (y3_1:LN)=>(bif !((z6t ([y2_1,y3_1]))) then ([],[],false) else (y2_1,y3_1,true))) (Int.toNat ((((ods za)).length:Int)-(0:Int))+1) (0:Int) y2_2)) (Int.toNat ((((evs za)).length:Int)-(0:Int))+1) (0:Int) y1_1 y1_2))
def z7r:=fun sa db za μ t34 y1_1 y1_2=>@z4w.eq_2 sa db za t34 y1_1 y1_2 μ
def z1o (sa:LN) (db:Nat) (za:LN):LN×LN×Bool:=((bif !(z7e sa db) then ([],[],false) else (bif !(z9z za) then ([],[],false) else (bif ((((ods za)).length:Int):Int)==0 then ((evs za),(ods za),true) else (z4w sa db za (Int.toNat ((sa.length:Int)-(0:Int))+1) (0:Int) (evs za) (ods za))))))
def zkb:=@z1o.eq_1
def zn2 (qb:OA) (wb vb db:Nat) (yb:OA) (sb jc:Nat) (H:zp) (K:OA→Nat→Nat→OA→Nat→Nat→Bool→zp→Prop):Prop:=∃(sa za:LN),IsL fF H qb wb sa∧IsL fF H yb sb za∧sa.length<1073741824∧za.length<1073741824∧((∀(sd:OA) (ae zd:Nat),∀(nh:OA) (th sh:Nat),∀H':zp,Grow H H'→OwnS fF H' H.length sd ae zd ((z1o sa db za).1)→OwnS fF H' H.length nh th sh ((z1o sa db za).2.1)→SepA sd nh→K sd ae zd nh th sh ((z1o sa db za).2.2) H'))
theorem zyx {qb:OA} {wb vb db:Nat} {yb:OA} {sb jc:Nat} {H:zp} {K:OA→Nat→Nat→OA→Nat→Nat→Bool→zp→Prop} (h:∃(sa za:LN),IsL fF H qb wb sa∧IsL fF H yb sb za∧sa.length<1073741824∧za.length<1073741824∧((∀(sd:OA) (ae zd:Nat),∀(nh:OA) (th sh:Nat),∀H':zp,Grow H H'→OwnS fF H' H.length sd ae zd ((z1o sa db za).1)→OwnS fF H' H.length nh th sh ((z1o sa db za).2.1)→SepA sd nh→K sd ae zd nh th sh ((z1o sa db za).2.2) H'))):zn2 qb wb vb db yb sb jc H K:=h
def wfI:LN→Int→LN→LN→LN×LN
 | [],_,lo,hi=>(lo,hi)
 | w::ws,k,lo,hi=>wfI ws (k+1) (zby k w false lo hi) (z7i k w false lo hi)
theorem zbz:∀(ws:LN) (k:Int) (lo hi:LN),(wfI ws k lo hi).1.length=lo.length∧(wfI ws k lo hi).2.length=hi.length:=by
 intro ws
 induction ws with
 | nil=>intro k lo hi;exact ⟨rfl,rfl⟩
 | cons w ws ih=>
  intro k lo hi
  obtain ⟨h1,h2⟩:=ih (k+1) (zby k w false lo hi) (z7i k w false lo hi)
  exact ⟨h1.trans (z9f _ _ _ _ _),h2.trans (z8a _ _ _ _ _)⟩
theorem zpn (ws:LN) (sc:Nat) (l:LN) (K2:Int→LN→LN→LN×LN×Bool)
  (hK:∀(k:Int) (y1 y2:LN),z4w ws sc l 1 k y1 y2=bif decide (k<(ws.length:Int)) then z4w ws sc l 0 (k+1) (zby k (ws.getD k.toNat 0) false y1 y2) (z7i k (ws.getD k.toNat 0) false y1 y2) else K2 k y1 y2):∀(μ k:Nat) (y1 y2:LN),k≤ws.length→ws.length-k<μ→
  z4w ws sc l μ (k:Int) y1 y2=K2 (ws.length:Int) (wfI (ws.drop k) (k:Int) y1 y2).1 (wfI (ws.drop k) (k:Int) y1 y2).2:=by
 intro μ
 induction μ with
 | zero=>intro k y1 y2 _ h;omega
 | succ μ ih=>
  intro k y1 y2 hk hm
  by_cases h:k<ws.length
  ·rw [z7r]
   rw [decide_eq_true (show (k:Int)<(ws.length:Int) by omega),cond_true,Int.toNat_natCast]
   have:=ih (k+1) (zby k (ws.getD k 0) false y1 y2) (z7i k (ws.getD k 0) false y1 y2) ω2 ω2
   have e:ws.getD k 0=ws[k]:=by simp [List.getD_eq_getElem?_getD,h]
   rw [List.drop_eq_getElem_cons h,wfI]
   rw [e] at this ⊢
   exact this
  ·have e:k=ws.length:=by omega
   have h1:=hK (k:Int) y1 y2
   rw [z7r] at h1 ⊢
   rw [decide_eq_false (show ¬(k:Int)<(ws.length:Int) by omega),cond_false,cond_false] at h1
   rw [decide_eq_false (show ¬(k:Int)<(ws.length:Int) by omega),cond_false,e,List.drop_length,wfI,←e]
   exact h1
theorem zfl (W ys:LN) (i:Nat) (hi:i<ys.length) (hl:W.length=ys.length):(W.take i++ys.drop i).getD i 0=ys.getD i 0:=by
 rw [List.getD_eq_getElem?_getD,List.getD_eq_getElem?_getD,List.getElem?_append_right (by simp;omega)]
 have:(W.take i).length=i:=by simp;omega
 rw [this,Nat.sub_self,List.getElem?_drop,Nat.add_zero]
theorem zpo (ws:LN) (sc:Nat) (l:LN) (i:Int) (a b:LN) (K3:Int→LN→LN→LN×LN×Bool) (A:LN) (hA:A.length=(evs l).length) (y2:LN):∀(μ j:Nat),j≤(evs l).length→(evs l).length-j<μ→
  z8r ws sc l i a b K3 μ (j:Int) ((A.map fun x=>fmul .f32 x sc).take j++A.drop j) y2=K3 ((evs l).length:Int) (A.map fun x=>fmul .f32 x sc) y2:=by
 intro μ
 induction μ with
 | zero=>intro k _ h;omega
 | succ μ ih=>
  intro j hj hm
  rw [zdx]
  by_cases h:j<(evs l).length
  ·rw [decide_eq_true (show (j:Int)<((evs l).length:Int) by omega),cond_true,Int.toNat_natCast,zfl _ _ _ ω2 (by simp)]
   have:=ih (j+1) ω2 ω2
   rw [z3g (A.map fun x=>fmul .f32 x sc) A j ω2 (by simp) _ (by simp [List.getD_eq_getElem?_getD,show j<A.length by omega])]
   exact this
  ·have e:j=(evs l).length:=by omega
   rw [decide_eq_false (show ¬(j:Int)<((evs l).length:Int) by omega),cond_false,e,List.take_of_length_le (by simp [hA]),List.drop_of_length_le ω2,List.append_nil]
theorem zpp (ws:LN) (sc:Nat) (l:LN) (i:Int) (a b:LN) (k:Int) (c d:LN) (K4:Int→LN→LN×LN×Bool) (A:LN) (hA:A.length=(ods l).length):∀(μ j:Nat),j≤(ods l).length→(ods l).length-j<μ→
  z5z ws sc l i a b k c d K4 μ (j:Int) ((A.map fun x=>fdiv .f32 x sc).take j++A.drop j)=K4 ((ods l).length:Int) (A.map fun x=>fdiv .f32 x sc):=by
 intro μ
 induction μ with
 | zero=>intro k _ h;omega
 | succ μ ih=>
  intro j hj hm
  rw [zdy]
  by_cases h:j<(ods l).length
  ·rw [decide_eq_true (show (j:Int)<((ods l).length:Int) by omega),cond_true,Int.toNat_natCast,zfl _ _ _ ω2 (by simp)]
   have:=ih (j+1) ω2 ω2
   rw [z3g (A.map fun x=>fdiv .f32 x sc) A j ω2 (by simp) _ (by simp [List.getD_eq_getElem?_getD,show j<A.length by omega])]
   exact this
  ·have e:j=(ods l).length:=by omega
   rw [decide_eq_false (show ¬(j:Int)<((ods l).length:Int) by omega),cond_false,e,List.take_of_length_le (by simp [hA]),List.drop_of_length_le ω2,List.append_nil]
def z8b (ws:LN) (sc:Nat) (l:LN):LN:=(wfI ws 0 (evs l) (ods l)).1.map fun x=>fmul .f32 x sc
def z8c (ws:LN) (sc:Nat) (l:LN):LN:=(wfI ws 0 (evs l) (ods l)).2.map fun x=>fdiv .f32 x sc
theorem za4 (ws:LN) (sc:Nat) (l:LN):z1o ws sc l=(bif !(z7e ws sc) then ([],[],false) else (bif !(z9z l) then ([],[],false) else (bif ((((ods l)).length:Int):Int)==0 then ((evs l),(ods l),true) else
  (bif !((z6t ([z8b ws sc l,z8c ws sc l]))) then ([],[],false) else (z8b ws sc l,z8c ws sc l,true))))):=by
 rw [zkb]
 have h1:=zpn ws sc l _ (fun k y1 y2=>z7r ws sc l 0 k y1 y2) (Int.toNat ((ws.length:Int)-(0:Int))+1) 0 (evs l) (ods l) ω2 ω2
 obtain ⟨l1,l2⟩:=zbz ws 0 (evs l) (ods l)
 rw [List.drop_zero] at h1
 have h2:=fun i a b K3 y2=>zpo ws sc l i a b K3 (wfI ws ((0:Nat):Int) (evs l) (ods l)).1 l1 y2 (Int.toNat ((((evs l)).length:Int)-(0:Int))+1) 0 ω2 ω2
 simp only [List.take_zero,List.drop_zero,List.nil_append] at h2
 have h3:=fun i a b k c d K4=>zpp ws sc l i a b k c d K4 (wfI ws ((0:Nat):Int) (evs l) (ods l)).2 l2 (Int.toNat ((((ods l)).length:Int)-(0:Int))+1) 0 ω2 ω2
 simp only [List.take_zero,List.drop_zero,List.nil_append] at h3
 have e:z4w ws sc l (Int.toNat ((ws.length:Int)-(0:Int))+1) (0:Int) (evs l) (ods l)=(bif !((z6t ([z8b ws sc l,z8c ws sc l]))) then ([],[],false) else (z8b ws sc l,z8c ws sc l,true)):=by
  refine Eq.trans h1 ?_
  refine Eq.trans (h2 _ _ _ _ _) ?_
  exact h3 _ _ _ _ _ _ _
 rw [e]
theorem zdk (ws:LN) (sc:Nat) (l:LN):(z1o ws sc l).1.length≤l.length∧(z1o ws sc l).2.1.length≤l.length∧((z1o ws sc l).1.length=0→(z1o ws sc l).2.1.length=0):=by
 rw [za4]
 obtain ⟨h1,h2⟩:=zbz ws 0 (evs l) (ods l)
 have h3:(z8b ws sc l).length=(l.length+1) / 2:=by unfold z8b;simp [h1,z4k]
 have h4:(z8c ws sc l).length=l.length / 2:=by unfold z8c;simp [h2,z4o]
 have h5:=z4k l
 have h6:=z4o l
 cases !(z7e ws sc)<;>cases !(z9z l)<;>cases (((((ods l)).length:Int):Int)==0)<;>cases !((z6t ([z8b ws sc l,z8c ws sc l])))<;>refine ⟨?_,?_,fun h=>?_⟩<;>simp only [cond_true,cond_false,List.length_nil] at *<;>omega
theorem zpq (ws:LN) (sc:Nat) (l:LN) (h:(z1o ws sc l).2.2=true):(z1o ws sc l).1.length=(l.length+1) / 2∧(z1o ws sc l).2.1.length=l.length / 2:=by
 rw [za4] at h ⊢
 obtain ⟨h1,h2⟩:=zbz ws 0 (evs l) (ods l)
 have h3:(z8b ws sc l).length=(l.length+1) / 2:=by unfold z8b;simp [h1,z4k]
 have h4:(z8c ws sc l).length=l.length / 2:=by unfold z8c;simp [h2,z4o]
 have h5:=z4k l
 have h6:=z4o l
 revert h
 cases !(z7e ws sc)<;>cases !(z9z l)<;>cases (((((ods l)).length:Int):Int)==0)<;>cases !((z6t ([z8b ws sc l,z8c ws sc l])))<;>simp only [cond_true,cond_false]<;>intro h<;>first | exact ⟨h3,h4⟩ | exact ⟨h5,h6⟩ | cases h
/-! f17z: function 71 -/
def z3o:Env:=envOf [(49,zys),(114,z16j),(115,S_f7z),(116,z16q),(104,zt3)]
def z14n (args:List Value) (H:zp):(Value→zp→Prop)→Prop:=match args with
 | [.agg ⟨[.slice qb wb vb,.float .f32 db]⟩,.slice yb sb jc]=>fun K=>zn2 qb wb vb db yb sb jc H fun (sd:OA) (ae:Nat) (zd:Nat) (nh:OA) (th:Nat) (sh:Nat) (r3:Bool) (H':zp)=>K (.tuple #[.slice sd ae zd,.slice nh th sh,.bool r3]) H'
 | _=>fun _=>False
def z15v:FSpec:={F:=z14n,quiet:=false,tame:=true}
theorem f17z_vc (qb:OA) (wb vb db:Nat) (yb:OA) (sb jc:Nat) (H:zp) (K:KT):zv Tryz.prog z3o Tryz.f71 [.agg #[.slice qb wb vb,.float .f32 db],.slice yb sb jc] H K=
 (Al [.slice qb wb vb,.float .f32 db] H fun b1 H1=>∃si:OA,∃ui:Nat,∃ti:Nat,∃c2:Nat,  rdN H1 b1 0 2=some [.slice si ui ti,.float .f32 c2]∧zoz si ui ti c2 H1 fun (r1:Bool) (H2:zp)=>Br (!r1) (K (.tuple #[.slice none 0 0,.slice none 0 0,.bool false]) H2) (znh yb sb jc H2 fun (r2:Bool) (H3:zp)=>Br (!r2) (K (.tuple #[.slice none 0 0,.slice none 0 0,.bool false]) H3) (zzi yb sb jc H3 fun (a1:OA) (r3:Nat) (r4:Nat) (a2:OA) (r5:Nat) (r6:Nat) (H4:zp)=>Br (((r5:Int):Int)==0) (K (.tuple #[.slice a1 r3 r4,.slice a2 r5 r6,.bool true]) H4) (∃og:OA,∃eg:Nat,∃qg:Nat,  rdC H4 b1 0=some (.slice og eg qg)∧z1i (exL Tryz.prog z3o (cl (cl (cr (cl (cr (cr (cr (cr (zq Tryz.f71))))))))) 30064771460 112 [(0,388)]) (ud2 (.pointer (some ⟨b1,0,none⟩)::ud4 (.slice a1 r3 r4::.slice a2 r5 r6::ud23 (.slice og eg qg::.int .i64 (eg:Int)::.int .i64 0::ud45 [])))) H4 (zu 0 (seqQ (exL Tryz.prog z3o (cr (cr (cr (cr (cr (zq Tryz.f71)))))) 112 112 []) (retK Tryz.prog Tryz.f71 K))))))):=by kernel_rfl
abbrev f17z_P1 (a1 a2:OA) (b1 r3 r4 r5 r6:Nat) (og:OA) (qg eg:Nat) (t34:Int)  :List Value:=(ud2 (.pointer (some ⟨b1,0,none⟩)::ud4 (.slice a1 r3 r4::.slice a2 r5 r6::ud23 (.slice og eg qg::.int .i64 (eg:Int)::.int .i64 t34::ud45 []))))
theorem f17z_r1 (a1 a2:OA) (b1 r3 r4 r5 r6:Nat) (og:OA) (qg eg:Nat) (t34:Int)  (H:zp) (R:Post):exL Tryz.prog z3o (cl (cl (cr (cl (cr (cr (cr (cr (zq Tryz.f71))))))))) 30064771460 112 [(0,388)] (f17z_P1 a1 a2 b1 r3 r4 r5 r6 og qg eg t34) H R=
 (Br (decide ((t34:Int)<(eg:Int))) ((0:Int)≤t34∧t34<(eg:Int)∧∃b2 f1,(og:OA)=some ⟨b2,f1,none⟩∧∃x2:Nat,  rdC H b2 (f1+(t34:Int).toNat*1)=some (.float .f32 x2)∧zno a1 r3 r4 a2 r5 r6 t34 x2 false H fun  (H5:zp)=>R .normal (ud2 (.pointer (some ⟨b1,0,none⟩)::ud4 (.slice a1 r3 r4::.slice a2 r5 r6::ud23 (.slice og eg qg::.int .i64 (eg:Int)::.int .i64 (IntKind.wrap .i64 (t34+1))::ud45 [])))) H5) (R (.exit 0) (ud2 (.pointer (some ⟨b1,0,none⟩)::ud4 (.slice a1 r3 r4::.slice a2 r5 r6::ud71 []))) H)):=by kernel_rfl
def f17z_I1 (a1 a2:OA) (b1 r3 r4 r5 r6:Nat) (og:OA) (qg eg:Nat) (Inv:Nat→Int→zp→Prop):Nat→List Value→zp→Prop:=fun μ tm H=>∃(t34:Int),tm=(f17z_P1 a1 a2 b1 r3 r4 r5 r6 og qg eg t34)∧Inv μ t34 H
theorem f17z_L1 (a1 a2:OA) (b1 r3 r4 r5 r6:Nat) (og:OA) (qg eg:Nat) {Q:Post} (Inv:Nat→Int→zp→Prop) (ν:Nat) (t34:Int)  (H:zp) (h0:Inv ν t34 H)
  (hs:∀(μ:Nat) (t34:Int)  (H:zp),Inv μ t34 H→exL Tryz.prog z3o (cl (cl (cr (cl (cr (cr (cr (cr (zq Tryz.f71))))))))) 30064771460 112 [(0,388)] (f17z_P1 a1 a2 b1 r3 r4 r5 r6 og qg eg t34) H (z1a (f17z_I1 a1 a2 b1 r3 r4 r5 r6 og qg eg Inv) μ Q)):z1i (exL Tryz.prog z3o (cl (cl (cr (cl (cr (cr (cr (cr (zq Tryz.f71))))))))) 30064771460 112 [(0,388)]) (f17z_P1 a1 a2 b1 r3 r4 r5 r6 og qg eg t34) H Q:=
 ⟨f17z_I1 a1 a2 b1 r3 r4 r5 r6 og qg eg Inv,ν,⟨t34,rfl,h0⟩,fun μ tm H h=>by obtain ⟨t34,rfl,hI⟩:=h;exact hs μ t34  H hI⟩
theorem f17z_n1 {a1 a2:OA} {b1 r3 r4 r5 r6:Nat} {og:OA} {qg eg:Nat} {Q:Post} {Inv:Nat→Int→zp→Prop} {μ:Nat} (μ':Nat) {t34:Int}  {H:zp} (hm:μ'<μ) (hI:Inv μ' t34 H):z1a (f17z_I1 a1 a2 b1 r3 r4 r5 r6 og qg eg Inv) μ Q .normal (f17z_P1 a1 a2 b1 r3 r4 r5 r6 og qg eg t34) H:=⟨μ',hm,t34,rfl,hI⟩
theorem f17z_x1_0 (a1 a2:OA) (b1 r3 r4 r5 r6:Nat) (H:zp) (K:KT)  {I:Nat→List Value→zp→Prop} {μ:Nat}:z1a I μ (zu 0 (seqQ (exL Tryz.prog z3o (cr (cr (cr (cr (cr (zq Tryz.f71)))))) 112 112 []) (retK Tryz.prog Tryz.f71 K))) (.exit 0) (ud2 (.pointer (some ⟨b1,0,none⟩)::ud4 (.slice a1 r3 r4::.slice a2 r5 r6::ud71 []))) H=
 (z1i (exL Tryz.prog z3o (cl (cl (cr (cl (cr (cr (cr (cr (cr (zq Tryz.f71)))))))))) 211106232533380 112 [(2,388)]) (ud2 (.pointer (some ⟨b1,0,none⟩)::ud4 (.slice a1 r3 r4::.slice a2 r5 r6::ud37 (.int .i64 (r3:Int)::.int .i64 0::ud32 [])))) H (zu 2 (seqQ (exL Tryz.prog z3o (cr (cr (cr (cr (cr (cr (zq Tryz.f71))))))) 112 112 []) (retK Tryz.prog Tryz.f71 K)))):=by kernel_rfl
abbrev f17z_P2 (a1 a2:OA) (b1 r3 r4 r5 r6:Nat) (t47:Int)  :List Value:=(ud2 (.pointer (some ⟨b1,0,none⟩)::ud4 (.slice a1 r3 r4::.slice a2 r5 r6::ud37 (.int .i64 (r3:Int)::.int .i64 t47::ud32 []))))
theorem f17z_r2 (a1 a2:OA) (b1 r3 r4 r5 r6:Nat) (t47:Int)  (H:zp) (R:Post):exL Tryz.prog z3o (cl (cl (cr (cl (cr (cr (cr (cr (cr (zq Tryz.f71)))))))))) 211106232533380 112 [(2,388)] (f17z_P2 a1 a2 b1 r3 r4 r5 r6 t47) H R=
 (Br (decide ((t47:Int)<(r3:Int))) ((0:Int)≤t47∧t47<(r3:Int)∧∃b3 f2,(a1:OA)=some ⟨b3,f2,none⟩∧∃x3:Nat,  rdC H b3 (f2+(t47:Int).toNat*1)=some (.float .f32 x3)∧∃x4:Nat,  rdC H b1 1=some (.float .f32 x4)∧(0:Int)≤t47∧t47<(r3:Int)∧∃b4 f3,(a1:OA)=some ⟨b4,f3,none⟩∧isOwn H b4∧(∃l,rdN H b4 (f3+(t47:Int).toNat*1) 1=some l)∧Lt (setC H b4 (f3+(t47:Int).toNat*1) (.float .f32 (fmul .f32 x3 x4))) fun H6=>R .normal (ud2 (.pointer (some ⟨b1,0,none⟩)::ud4 (.slice a1 r3 r4::.slice a2 r5 r6::ud37 (.int .i64 (r3:Int)::.int .i64 (IntKind.wrap .i64 (t47+1))::ud32 [])))) H6) (R (.exit 2) (ud2 (.pointer (some ⟨b1,0,none⟩)::ud4 (.slice a1 r3 r4::.slice a2 r5 r6::ud71 []))) H)):=by kernel_rfl
def f17z_I2 (a1 a2:OA) (b1 r3 r4 r5 r6:Nat) (Inv:Nat→Int→zp→Prop):Nat→List Value→zp→Prop:=fun μ tm H=>∃(t47:Int),tm=(f17z_P2 a1 a2 b1 r3 r4 r5 r6 t47)∧Inv μ t47 H
theorem f17z_L2 (a1 a2:OA) (b1 r3 r4 r5 r6:Nat) {Q:Post} (Inv:Nat→Int→zp→Prop) (ν:Nat) (t47:Int)  (H:zp) (h0:Inv ν t47 H)
  (hs:∀(μ:Nat) (t47:Int)  (H:zp),Inv μ t47 H→exL Tryz.prog z3o (cl (cl (cr (cl (cr (cr (cr (cr (cr (zq Tryz.f71)))))))))) 211106232533380 112 [(2,388)] (f17z_P2 a1 a2 b1 r3 r4 r5 r6 t47) H (z1a (f17z_I2 a1 a2 b1 r3 r4 r5 r6 Inv) μ Q)):z1i (exL Tryz.prog z3o (cl (cl (cr (cl (cr (cr (cr (cr (cr (zq Tryz.f71)))))))))) 211106232533380 112 [(2,388)]) (f17z_P2 a1 a2 b1 r3 r4 r5 r6 t47) H Q:=
 ⟨f17z_I2 a1 a2 b1 r3 r4 r5 r6 Inv,ν,⟨t47,rfl,h0⟩,fun μ tm H h=>by obtain ⟨t47,rfl,hI⟩:=h;exact hs μ t47  H hI⟩
theorem f17z_n2 {a1 a2:OA} {b1 r3 r4 r5 r6:Nat} {Q:Post} {Inv:Nat→Int→zp→Prop} {μ:Nat} (μ':Nat) {t47:Int}  {H:zp} (hm:μ'<μ) (hI:Inv μ' t47 H):z1a (f17z_I2 a1 a2 b1 r3 r4 r5 r6 Inv) μ Q .normal (f17z_P2 a1 a2 b1 r3 r4 r5 r6 t47) H:=⟨μ',hm,t47,rfl,hI⟩
theorem f17z_x2_2 (a1 a2:OA) (b1 r3 r4 r5 r6:Nat) (H:zp) (K:KT)  {I:Nat→List Value→zp→Prop} {μ:Nat}:z1a I μ (zu 2 (seqQ (exL Tryz.prog z3o (cr (cr (cr (cr (cr (cr (zq Tryz.f71))))))) 112 112 []) (retK Tryz.prog Tryz.f71 K))) (.exit 2) (ud2 (.pointer (some ⟨b1,0,none⟩)::ud4 (.slice a1 r3 r4::.slice a2 r5 r6::ud71 []))) H=
 (z1i (exL Tryz.prog z3o (cl (cl (cr (cl (cr (cr (cr (cr (cr (cr (zq Tryz.f71))))))))))) 3458764513820541316 112 [(4,384)]) (ud2 (.pointer (some ⟨b1,0,none⟩)::ud4 (.slice a1 r3 r4::.slice a2 r5 r6::ud51 (.int .i64 (r5:Int)::.int .i64 0::ud18 [])))) H (zu 4 (seqQ (exL Tryz.prog z3o (cr (cr (cr (cr (cr (cr (cr (zq Tryz.f71)))))))) 112 112 []) (retK Tryz.prog Tryz.f71 K)))):=by kernel_rfl
abbrev f17z_P3 (a1 a2:OA) (b1 r3 r4 r5 r6:Nat) (t61:Int)  :List Value:=(ud2 (.pointer (some ⟨b1,0,none⟩)::ud4 (.slice a1 r3 r4::.slice a2 r5 r6::ud51 (.int .i64 (r5:Int)::.int .i64 t61::ud18 []))))
theorem f17z_r3 (a1 a2:OA) (b1 r3 r4 r5 r6:Nat) (t61:Int)  (H:zp) (R:Post):exL Tryz.prog z3o (cl (cl (cr (cl (cr (cr (cr (cr (cr (cr (zq Tryz.f71))))))))))) 3458764513820541316 112 [(4,384)] (f17z_P3 a1 a2 b1 r3 r4 r5 r6 t61) H R=
 (Br (decide ((t61:Int)<(r5:Int))) ((0:Int)≤t61∧t61<(r5:Int)∧∃b5 f4,(a2:OA)=some ⟨b5,f4,none⟩∧∃x5:Nat,  rdC H b5 (f4+(t61:Int).toNat*1)=some (.float .f32 x5)∧∃x6:Nat,  rdC H b1 1=some (.float .f32 x6)∧(0:Int)≤t61∧t61<(r5:Int)∧∃b6 f5,(a2:OA)=some ⟨b6,f5,none⟩∧isOwn H b6∧(∃l,rdN H b6 (f5+(t61:Int).toNat*1) 1=some l)∧Lt (setC H b6 (f5+(t61:Int).toNat*1) (.float .f32 (fdiv .f32 x5 x6))) fun H7=>R .normal (ud2 (.pointer (some ⟨b1,0,none⟩)::ud4 (.slice a1 r3 r4::.slice a2 r5 r6::ud51 (.int .i64 (r5:Int)::.int .i64 (IntKind.wrap .i64 (t61+1))::ud18 [])))) H7) (R (.exit 4) (ud7 (.slice a1 r3 r4::.slice a2 r5 r6::ud71 [])) H)):=by kernel_rfl
def f17z_I3 (a1 a2:OA) (b1 r3 r4 r5 r6:Nat) (Inv:Nat→Int→zp→Prop):Nat→List Value→zp→Prop:=fun μ tm H=>∃(t61:Int),tm=(f17z_P3 a1 a2 b1 r3 r4 r5 r6 t61)∧Inv μ t61 H
theorem f17z_L3 (a1 a2:OA) (b1 r3 r4 r5 r6:Nat) {Q:Post} (Inv:Nat→Int→zp→Prop) (ν:Nat) (t61:Int)  (H:zp) (h0:Inv ν t61 H)
  (hs:∀(μ:Nat) (t61:Int)  (H:zp),Inv μ t61 H→exL Tryz.prog z3o (cl (cl (cr (cl (cr (cr (cr (cr (cr (cr (zq Tryz.f71))))))))))) 3458764513820541316 112 [(4,384)] (f17z_P3 a1 a2 b1 r3 r4 r5 r6 t61) H (z1a (f17z_I3 a1 a2 b1 r3 r4 r5 r6 Inv) μ Q)):z1i (exL Tryz.prog z3o (cl (cl (cr (cl (cr (cr (cr (cr (cr (cr (zq Tryz.f71))))))))))) 3458764513820541316 112 [(4,384)]) (f17z_P3 a1 a2 b1 r3 r4 r5 r6 t61) H Q:=
 ⟨f17z_I3 a1 a2 b1 r3 r4 r5 r6 Inv,ν,⟨t61,rfl,h0⟩,fun μ tm H h=>by obtain ⟨t61,rfl,hI⟩:=h;exact hs μ t61  H hI⟩
theorem f17z_n3 {a1 a2:OA} {b1 r3 r4 r5 r6:Nat} {Q:Post} {Inv:Nat→Int→zp→Prop} {μ:Nat} (μ':Nat) {t61:Int}  {H:zp} (hm:μ'<μ) (hI:Inv μ' t61 H):z1a (f17z_I3 a1 a2 b1 r3 r4 r5 r6 Inv) μ Q .normal (f17z_P3 a1 a2 b1 r3 r4 r5 r6 t61) H:=⟨μ',hm,t61,rfl,hI⟩
theorem f17z_x3_4 (a1 a2:OA) (r3 r4 r5 r6:Nat) (H:zp) (K:KT)  {I:Nat→List Value→zp→Prop} {μ:Nat}:z1a I μ (zu 4 (seqQ (exL Tryz.prog z3o (cr (cr (cr (cr (cr (cr (cr (zq Tryz.f71)))))))) 112 112 []) (retK Tryz.prog Tryz.f71 K))) (.exit 4) (ud7 (.slice a1 r3 r4::.slice a2 r5 r6::ud71 [])) H=
 (Al [.slice a1 r3 r4,.slice a2 r5 r6] H fun b7 H8=>zlg (some ⟨b7,0,none⟩) 2 1 H8 fun (r7:Bool) (H9:zp)=>Br (!r7) (K (.tuple #[.slice none 0 0,.slice none 0 0,.bool false]) H9) (K (.tuple #[.slice a1 r3 r4,.slice a2 r5 r6,.bool true]) H9)):=by kernel_rfl
theorem zrm:∀g,FnOk Tryz.prog g (z3o g):=FnOk.envOf (by
 intro x hx
 simp only [List.mem_cons,List.not_mem_nil,or_false] at hx
 rcases hx with rfl | rfl | rfl | rfl | rfl
 ·exact zvd
 ·exact z1bg
 ·exact f7z_ok
 ·exact f20z_ok
 ·exact znz)
theorem ω24 {P:Prop} (h:P:=by first | assumption | omega | (simp only [List.length_set,z9f,z8a];first | rfl | assumption | omega)):P:=h
theorem f17z_main (qb:OA) (wb vb db:Nat) (yb:OA) (sb jc:Nat) (H:zp) (K:KT) (h:zn2 qb wb vb db yb sb jc H fun (sd:OA) (ae:Nat) (zd:Nat) (nh:OA) (th:Nat) (sh:Nat) (r3:Bool) (H':zp)=>K (.tuple #[.slice sd ae zd,.slice nh th sh,.bool r3]) H'):zv Tryz.prog z3o Tryz.f71 [.agg #[.slice qb wb vb,.float .f32 db],.slice yb sb jc] H K:=by
 rw [f17z_vc]
 obtain ⟨sa,za,xf,i_list,bd_150,bd_151,hk⟩:=h
 obtain rfl:=xf.eqn
 obtain rfl:=i_list.eqn
 have e:(z1o sa db za)=_:=rfl
 have e:=e.trans (zkb sa db za)
 have g0:=Grow.refl H
 refine Al.intro (fun b_1 H_1 hb_2 hl_3 g_4 o_5=>?_)
 have l_7:=g_4.1
 have g_8:=g0.trans g_4
 have l_9:=g_8.1
 have w149:=o_5.lt
 refine ⟨qb,sa.length,vb,db,(o_5.rdN (Nat.le_of_ble_eq_true rfl)).trans rfl,?_⟩
 refine zlf ⟨_,(xf.grow g_8),ω0,fun  H_2 g_10  =>?_⟩
 have l_11:=g_10.1
 have g_12:=g_8.trans g_10
 have l_13:=g_12.1
 have o_14:=o_5.grow g_10
 have w15:=o_14.lt
 refine Br.intro (fun c_16=>?_) (fun c_16=>?_)
 ·have e:=e.trans (zx c_16)
  have c_16n:=z1e c_16
  rw [e] at hk
  exact hk _ _ _ _ _ _ H_2 g_12 ω20 ω20 (fun x y hx hy=>by cases hx)
 ·have e:=e.trans (zw c_16)
  have c_16n:=z1d c_16
  refine zz8 ⟨_,(i_list.grow g_12),ω0,fun  H_3 g_17  =>?_⟩
  have l_18:=g_17.1
  have g_19:=g_12.trans g_17
  have l_20:=g_19.1
  have o21:=o_14.grow g_17
  have w22:=o21.lt
  refine Br.intro (fun c23=>?_) (fun c23=>?_)
  ·have e:=e.trans (zx c23)
   have c_23n:=z1e c23
   rw [e] at hk
   exact hk _ _ _ _ _ _ H_3 g_19 ω20 ω20 (fun x y hx hy=>by cases hx)
  ·have e:=e.trans (zw c23)
   have c_23n:=z1d c23
   refine z19i ⟨_,(i_list.grow g_19),ω0,fun a24 n25 e26 a28 n29 e30 H_4 g33 r_27 r_31 p45=>?_⟩
   have z32:=zxb za
   have l34:=g33.1
   have g35:=g_19.trans g33
   have l36:=g35.1
   have o37:=o21.grow g33
   have w38:=o37.lt
   obtain rfl:=r_27.isL.eqn
   have u39:=r_27.up
   have u40:=r_27.lo
   obtain rfl:=r_31.isL.eqn
   have u42:=r_31.up
   have u43:=r_31.lo
   refine Br.intro (fun c_46=>?_) (fun c_46=>?_)
   ·have e:=e.trans (zx c_46)
    have c_46':=zjr c_46
    rw [e] at hk
    exact hk _ _ _ _ _ _ H_4 g35 (r_27.weak ω2) (r_31.weak ω2) p45
   ·have e:=e.trans (zw c_46)
    have c_46':=zjq c_46
    refine ⟨qb,sa.length,vb,(o37.rdC _).trans rfl,?_⟩
    refine f17z_L1 _ _ _ _ _ _ _ _ _ _ (fun (μ:Nat) (t34:Int) (H_5:zp)=>∃(y1_1 y1_2:LN),Own H_5 b_1 ([.slice qb sa.length vb,.float .f32 db])∧OwnS fF H_5 H_3.length a24 (((evs za)).length) e26 y1_1∧y1_1.length=((evs za)).length∧OwnS fF H_5 H_3.length a28 (((ods za)).length) e30 y1_2∧y1_2.length=((ods za)).length∧H_4.length≤H_5.length∧H_4.length≤H_5.length∧Grow H H_5∧(0:Int)≤t34∧t34≤(sa.length:Int)∧(sa.length:Int)-t34≤(μ:Int)∧z1o sa db za=z4w sa db za (μ+1) t34 y1_1 y1_2) (Int.toNat ((sa.length:Int)-(0:Int))) _ H_4 ?_ ?_
    ·exact ⟨_,_,o37,r_27,ω17,r_31,ω17,ω2,ω2,g35,ω7,ω7,ω2,e⟩
    ·intro μ t34  H_5 hI
     obtain ⟨y1_1,y1_2,o47,r_48,y49,r_50,y51,n52,n53,g54,v_55,v_56,hμ,e⟩:=hI
     rw [f17z_r1]
     have e:=e.trans (z7r sa db za μ t34 y1_1 y1_2)
     have w57:=o47.lt
     have l58:=g54.1
     refine Br.intro (fun c_59=>?_) (fun c_59=>?_)
     ·have e:=e.trans (zx c_59)
      have c_59':=of_decide_eq_true c_59
      obtain ⟨b60,f_61,q62⟩:=((xf.grow g54)).pos ω0
      refine ⟨by omega,by omega,b60,f_61,q62,?_⟩
      refine ⟨((sa).getD (t34:Int).toNat 0),(xf).rd g54 q62 ω2 _,?_⟩
      refine zzf ⟨_,_,_,_,r_48,r_50,p45,ω0,ω0,ω14,ω14,ω14,(fun H_7 k63 o64 o65=>?_)⟩
      obtain ⟨H_6,k66,k67⟩:=k63.split
      have l68:=k66.1
      have g69:=g54.keepA (fun x hx=>by have:=u40 x hx;omega) k66
      have l70:=g69.1
      have o71:=o47.keepA (fun x hx=>by have:=u40 x hx;have:=u39 x hx;omega) k66
      have w72:=o71.lt
      have r73:=r_50.keepA (p45) k66
      have l74:=k67.1
      have g75:=g69.keepA (fun x hx=>by have:=u43 x hx;omega) k67
      have l76:=g75.1
      have o77:=o71.keepA (fun x hx=>by have:=u43 x hx;have:=u42 x hx;omega) k67
      have w78:=o77.lt
      rw [show IntKind.wrap .i64 (t34+1)=(t34+1) from zt ω2 ω2]
      refine f17z_n1 (μ-1) ω15 ⟨_,_,o77,o64,ω24,o65,ω24,ω2,ω2,g75,ω1,ω1,ω15,ω12⟩
     ·have e:=e.trans (zw c_59)
      have c_59':=of_decide_eq_false c_59
      rw [f17z_x1_0]
      refine f17z_L2 _ _ _ _ _ _ _ (fun (μ2:Nat) (t47:Int) (H_8:zp)=>∃(y2_1 y2_2:LN),Own H_8 b_1 ([.slice qb sa.length vb,.float .f32 db])∧OwnS fF H_8 H_3.length a24 (((evs za)).length) e26 y2_1∧y2_1.length=((evs za)).length∧OwnS fF H_8 H_3.length a28 (((ods za)).length) e30 y2_2∧y2_2.length=((ods za)).length∧H_4.length≤H_8.length∧H_4.length≤H_8.length∧Grow H H_8∧(0:Int)≤t47∧t47≤(((evs za)).length:Int)∧(((evs za)).length:Int)-t47≤(μ2:Int)∧z1o sa db za=z8r sa db za t34 y1_1 y1_2 (fun (t47:Int) (y2_1:LN) (y2_2:LN)=>(z5z sa db za t34 y1_1 y1_2 t47 y2_1 y2_2 (fun (t61:Int) (y3_1:LN)=>(bif !((z6t ([y2_1,y3_1]))) then ([],[],false) else (y2_1,y3_1,true))) (Int.toNat ((((ods za)).length:Int)-(0:Int))+1) (0:Int) y2_2)) (μ2+1) t47 y2_1 y2_2) (Int.toNat ((((evs za)).length:Int)-(0:Int))) _ H_5 ?_ ?_
      ·exact ⟨_,_,o47,r_48,ω17,r_50,ω17,ω2,ω2,g54,ω7,ω7,ω2,e⟩
      ·intro μ2 t47  H_8 hI
       obtain ⟨y2_1,y2_2,o79,r80,y81,r82,y83,n84,n85,g86,v87,v88,hμ,e⟩:=hI
       rw [f17z_r2]
       have e:=e.trans (zdx sa db za t34 y1_1 y1_2 (fun (t47:Int) (y2_1:LN) (y2_2:LN)=>(z5z sa db za t34 y1_1 y1_2 t47 y2_1 y2_2 (fun (t61:Int) (y3_1:LN)=>(bif !((z6t ([y2_1,y3_1]))) then ([],[],false) else (y2_1,y3_1,true))) (Int.toNat ((((ods za)).length:Int)-(0:Int))+1) (0:Int) y2_2)) μ2 t47 y2_1 y2_2)
       have w89:=o79.lt
       have l90:=g86.1
       refine Br.intro (fun c91=>?_) (fun c91=>?_)
       ·have e:=e.trans (zx c91)
        have c_91':=of_decide_eq_true c91
        obtain ⟨b92,f93,q94⟩:=(r80.isL).pos ω0
        refine ⟨by omega,by omega,b92,f93,q94,?_⟩
        refine ⟨((y2_1).getD (t47:Int).toNat 0),(r80.isL).rd (Grow.refl _) q94 ω2 _,?_⟩
        refine ⟨db,(o79.rdC _).trans rfl,?_⟩
        obtain ⟨b95,f96,q97⟩:=(r80.isL).pos ω0
        refine ⟨by omega,by omega,b95,f96,q97,?_⟩
        refine Lt.setS r80 q97 ω6 (fun H_9 hl_98 o100 k99=>?_)
        have l101:=k99.1
        have g102:=g86.keepA (fun x hx=>by have:=u40 x hx;omega) k99
        have l103:=g102.1
        have o104:=o79.keepA (fun x hx=>by have:=u40 x hx;have:=u39 x hx;omega) k99
        have w105:=o104.lt
        have r106:=r82.keepA (p45) k99
        rw [show IntKind.wrap .i64 (t47+1)=(t47+1) from zt ω2 ω2]
        refine f17z_n2 (μ2-1) ω15 ⟨_,_,o104,o100,ω24,r106,ω24,ω2,ω2,g102,ω1,ω1,ω15,ω28⟩
       ·have e:=e.trans (zw c91)
        have c_91':=of_decide_eq_false c91
        rw [f17z_x2_2]
        refine f17z_L3 _ _ _ _ _ _ _ (fun (μ3:Nat) (t61:Int) (H_10:zp)=>∃(y3_1:LN),Own H_10 b_1 ([.slice qb sa.length vb,.float .f32 db])∧OwnS fF H_10 H_3.length a24 (((evs za)).length) e26 y2_1∧OwnS fF H_10 H_3.length a28 (((ods za)).length) e30 y3_1∧y3_1.length=((ods za)).length∧H_4.length≤H_10.length∧H_4.length≤H_10.length∧Grow H H_10∧(0:Int)≤t61∧t61≤(((ods za)).length:Int)∧(((ods za)).length:Int)-t61≤(μ3:Int)∧z1o sa db za=z5z sa db za t34 y1_1 y1_2 t47 y2_1 y2_2 (fun (t61:Int) (y3_1:LN)=>(bif !((z6t ([y2_1,y3_1]))) then ([],[],false) else (y2_1,y3_1,true))) (μ3+1) t61 y3_1) (Int.toNat ((((ods za)).length:Int)-(0:Int))) _ H_8 ?_ ?_
        ·exact ⟨_,o79,r80,r82,ω17,ω2,ω2,g86,ω7,ω7,ω2,e⟩
        ·intro μ3 t61  H_10 hI
         obtain ⟨y3_1,o107,r108,r109,y110,n111,n112,g113,v114,v115,hμ,e⟩:=hI
         rw [f17z_r3]
         have e:=e.trans (zdy sa db za t34 y1_1 y1_2 t47 y2_1 y2_2 (fun (t61:Int) (y3_1:LN)=>(bif !((z6t ([y2_1,y3_1]))) then ([],[],false) else (y2_1,y3_1,true))) μ3 t61 y3_1)
         have w116:=o107.lt
         have l117:=g113.1
         refine Br.intro (fun c118=>?_) (fun c118=>?_)
         ·have e:=e.trans (zx c118)
          have c_118':=of_decide_eq_true c118
          obtain ⟨b119,f120,q121⟩:=(r109.isL).pos ω0
          refine ⟨by omega,by omega,b119,f120,q121,?_⟩
          refine ⟨((y3_1).getD (t61:Int).toNat 0),(r109.isL).rd (Grow.refl _) q121 ω2 _,?_⟩
          refine ⟨db,(o107.rdC _).trans rfl,?_⟩
          obtain ⟨b122,f123,q124⟩:=(r109.isL).pos ω0
          refine ⟨by omega,by omega,b122,f123,q124,?_⟩
          refine Lt.setS r109 q124 ω6 (fun H_11 hl_125 o127 k126=>?_)
          have l128:=k126.1
          have g129:=g113.keepA (fun x hx=>by have:=u43 x hx;omega) k126
          have l130:=g129.1
          have o131:=o107.keepA (fun x hx=>by have:=u43 x hx;have:=u42 x hx;omega) k126
          have w132:=o131.lt
          have r133:=r108.keepA (p45).symm k126
          rw [show IntKind.wrap .i64 (t61+1)=(t61+1) from zt ω2 ω2]
          refine f17z_n3 (μ3-1) ω15 ⟨_,o131,r133,o127,ω24,ω2,ω2,g129,ω1,ω1,ω15,ω29⟩
         ·have e:=e.trans (zw c118)
          have c_118':=of_decide_eq_false c118
          rw [f17z_x3_4]
          refine Al.intro (fun b134 H_12 hb_135 hl_136 g137 o138=>?_)
          have l140:=g137.1
          have g141:=g113.trans g137
          have l142:=g141.1
          have o143:=o107.grow g137
          have w144:=o143.lt
          have r145:=r108.grow g137
          have r146:=r109.grow g137
          have w148:=o138.lt
          refine zh0 ⟨[y2_1,y3_1],⟨_,o138.rdAll rfl,LLc.cons r145.isL (LLc.cons r146.isL (LLc.nil _ _))⟩,ω0,ω16,?_⟩
          refine Br.intro (fun c147=>?_) (fun c147=>?_)
          ·have e:=e.trans (zx c147)
           have c_147n:=z1e c147
           rw [e] at hk
           exact hk _ _ _ _ _ _ H_12 g141 ω20 ω20 (fun x y hx hy=>by cases hx)
          ·have e:=e.trans (zw c147)
           have c_147n:=z1d c147
           rw [e] at hk
           exact hk _ _ _ _ _ _ H_12 g141 (r145.weak ω2) (r146.weak ω2) p45
theorem f17z_ok:FnOk Tryz.prog 71 z15v:=FnOk.bodyF mix_ok zrm Tryz.func71 rfl ω9 ω9 fun args H=>by
 unfold z14n
 split
 ·refine ⟨?_,?_,?_,?_,fun K hk=>f17z_main _ _ _ _ _ _ _ H K hk⟩
  ·intro K K' h hk;obtain ⟨sa,za,xf,i_list,bd_150,bd_151,k⟩:=hk;exact ⟨sa,za,xf,i_list,bd_150,bd_151,(fun sd ae zd nh th sh H' gg ow0 ow1 sp0_1=>h _ _ (k sd ae zd nh th sh H' gg ow0 ow1 sp0_1))⟩
  ·nofun
  ·intro K hk;obtain ⟨sa,za,xf,i_list,bd_150,bd_151,k⟩:=hk;exact zw7 fun a n e a2 n2 e2 H1 g o o2 sp=>⟨_,_,k a n e a2 n2 e2 H1 g o o2 sp⟩
  ·intro _ K hk;obtain ⟨sa,za,xf,i_list,bd_150,bd_151,k⟩:=hk;exact ⟨sa,za,xf,i_list,bd_150,bd_151,(fun sd ae zd nh th sh H' gg ow0 ow1 sp0_1=>⟨gg,k sd ae zd nh th sh H' gg ow0 ow1 sp0_1⟩)⟩
 ·exact Nice.no
def z9p (ii xb:LN) (cd:Nat):LN×Bool:=(((z1o xb cd ii).1++(z1o xb cd ii).2.1),(z1o xb cd ii).2.2)
def T_f2z (tj:OA) (uj ik cap0:Nat) (H:zp) (K:OA→Nat→Nat→Bool→zp→Prop):Prop:=∃(nf:OA),∃(vf uf cd:Nat),∃(ii xb:LN),rdN H cap0 0 2=some [.slice nf vf uf,.float .f32 cd]∧IsL fF H tj uj ii∧IsL fF H nf vf xb∧ii.length<1073741824∧xb.length<1073741824∧((∀(sd:OA) (ae zd:Nat),∀H':zp,Grow H H'→OwnS fF H' H.length sd ae zd ((z9p ii xb cd).1)→K sd ae zd ((z9p ii xb cd).2) H'))
theorem z1cq {f:Nat→Value} {H:zp} {lo n e:Nat} {a:OA} {xs:LN} (h:OwnS f H lo a n e xs):(a=none∧xs=[])∨a≠none:=by
 obtain ⟨_,⟨h1,h2⟩ | ⟨b,h1,_⟩⟩:=h
 ·exact .inl ⟨h1,h2⟩
 ·exact .inr (by rw [h1];simp)
/-! f2z: function 70 -/
def E_f2z:Env:=envOf [(999997,z7z),(71,z15v)]
def F_f2z (args:List Value) (H:zp):(Value→zp→Prop)→Prop:=match args with
 | [.slice tj uj ik,.pointer (some ⟨cap0,0,none⟩)]=>fun K=>T_f2z tj uj ik cap0 H fun (sd:OA) (ae:Nat) (zd:Nat) (r2:Bool) (H':zp)=>K (.tuple #[.slice sd ae zd,.bool r2]) H'
 | _=>fun _=>False
def S_f2z:FSpec:={F:=F_f2z,quiet:=false,tame:=true}
theorem f2z_vc (tj:OA) (uj ik cap0:Nat) (H:zp) (K:KT):zv Tryz.prog E_f2z Tryz.f70 [.slice tj uj ik,.pointer (some ⟨cap0,0,none⟩)] H K=
 (∃si:OA,∃ui:Nat,∃ti:Nat,∃c2:Nat,  rdN H cap0 0 2=some [.slice si ui ti,.float .f32 c2]∧zn2 si ui ti c2 tj uj ik H fun (a1:OA) (r1:Nat) (r2:Nat) (a2:OA) (r3:Nat) (r4:Nat) (r5:Bool) (H1:zp)=>zdp Tryz.prog 22 (.slice a1 r1 r2) (.slice a2 r3 r4) H1 (fun (v1:Value) (H3:zp)=>K (.tuple #[v1,.bool r5]) H3)∨∃o1 w1:List Value,ownB H1 a1 r1 r2 1=some o1∧rdS H1 a2 (r3*1)=some w1∧((a1:OA)=none→0<(r3:Nat))∧(r1:Nat)+r3<most∧Ap H1 (z2v H1 a1++[some ⟨o1++w1,true⟩]) fun b1 H2=>K (.tuple #[.slice (some ⟨b1,0,none⟩) (r1+r3) 1,.bool r5]) H2):=by kernel_rfl
theorem zxt:∀g,FnOk Tryz.prog g (E_f2z g):=FnOk.envOf (by
 intro x hx
 simp only [List.mem_cons,List.not_mem_nil,or_false] at hx
 rcases hx with rfl | rfl
 ·exact zen _
 ·exact f17z_ok)
theorem f2z_main (tj:OA) (uj ik cap0:Nat) (H:zp) (K:KT) (h:T_f2z tj uj ik cap0 H fun (sd:OA) (ae:Nat) (zd:Nat) (r2:Bool) (H':zp)=>K (.tuple #[.slice sd ae zd,.bool r2]) H'):zv Tryz.prog E_f2z Tryz.f70 [.slice tj uj ik,.pointer (some ⟨cap0,0,none⟩)] H K:=by
 rw [f2z_vc]
 obtain ⟨nf,vf,uf,cd,ii,xb,i_cap0,i_row,dg,bd_31,bd_32,hk⟩:=h
 obtain rfl:=i_row.eqn
 obtain rfl:=dg.eqn
 have hl:=zdk xb cd ii
 refine ⟨nf,xb.length,uf,cd,i_cap0,?_⟩
 refine zyx ⟨_,_,dg,i_row,bd_32,bd_31,fun a1 n1 e1 a2 n2 e2 H1 g1 r1 r2 sp=>?_⟩
 have en1:=r1.1
 have en2:=r2.1
 have p1:(z9p ii xb cd).1=(z1o xb cd ii).1++(z1o xb cd ii).2.1:=rfl
 have p2:(z9p ii xb cd).2=(z1o xb cd ii).2.2:=rfl
 rw [p1,p2] at hk
 generalize (z1o xb cd ii).1=E at *
 generalize (z1o xb cd ii).2.1=O at *
 generalize (z1o xb cd ii).2.2=B at *
 rcases z1cq r1 with ⟨z1,z2⟩ | z1
 ·left
  have hO:O=[]:=List.length_eq_zero_iff.1 (hl.2.2 (by rw [z2];rfl))
  subst z1;subst z2;subst hO
  obtain rfl:n1=0:=by simpa using en1
  obtain rfl:n2=0:=by simpa using en2
  show K _ _
  exact hk none 0 0 H1 g1 (OwnS.nil _ _ _ _)
 ·right
  refine ⟨_,_,r1.ownB,(z2m r2.isL),(fun h=>absurd h z1),ω25,?_⟩
  refine Ap.appS r1 rfl rfl (fun b H2 q hl2 o k2=>?_)
  have g2:=g1.keepA (fun x hx=>by have:=r1.lo x hx;omega) k2
  have:=g1.1
  exact hk _ _ _ H2 g2 (o.ownS (by rw [List.length_append];omega) ω2)
theorem f2z_ok:FnOk Tryz.prog 70 S_f2z:=FnOk.bodyF mix_ok zxt Tryz.func70 rfl ω9 ω9 fun args H=>by
 unfold F_f2z
 split
 ·refine ⟨?_,?_,?_,?_,fun K hk=>f2z_main _ _ _ _ H K hk⟩
  ·intro K K' h hk;obtain ⟨nf,vf,uf,cd,ii,xb,i_cap0,i_row,dg,bd_31,bd_32,k⟩:=hk;exact ⟨nf,vf,uf,cd,ii,xb,i_cap0,i_row,dg,bd_31,bd_32,(fun sd ae zd H' gg ow0=>h _ _ (k sd ae zd H' gg ow0))⟩
  ·nofun
  ·intro K hk;obtain ⟨nf,vf,uf,cd,ii,xb,i_cap0,i_row,dg,bd_31,bd_32,k⟩:=hk;exact z4v fun a n e H1 g o=>⟨_,_,k a n e H1 g o⟩
  ·intro _ K hk;obtain ⟨nf,vf,uf,cd,ii,xb,i_cap0,i_row,dg,bd_31,bd_32,k⟩:=hk;exact ⟨nf,vf,uf,cd,ii,xb,i_cap0,i_row,dg,bd_31,bd_32,(fun sd ae zd H' gg ow0=>⟨gg,k sd ae zd H' gg ow0⟩)⟩
 ·exact Nice.no
def ChOk (env:Env) (x:Value) (H0:zp) (rb fb:Nat) (a:OA) (W:Int) (m:Nat) (g:Nat→LN×Bool):Prop:=
 ∀(y:Nat),y<m→∀(H:zp),z2u (some ⟨rb,0,none⟩) (some ⟨fb,0,none⟩) H0 H→∀K:Value→zp→Prop,
  (∀(a':OA) (n' e':Nat) (H':zp),Grow H H'→OwnS fF H' H.length a' n' e' (g y).1→K (.tuple #[.slice a' n' e',.bool (g y).2]) H')→
  zev env x [.slice ((a:OA).map fun a=>⟨a.block,a.off+((y:Int)*W).toNat*1,none⟩) ((((y:Int)+1)*W-(y:Int)*W).toNat) 0] H K
def z7j (H0 H:zp) (rb fb k m:Nat) (g:Nat→LN×Bool):Prop:=
 z2u (some ⟨rb,0,none⟩) (some ⟨fb,0,none⟩) H0 H∧∃rs fs:List Value,Own H rb rs∧Own H fb fs∧rs.length=m∧fs.length=m∧
  ∀i,i<k→fs[i]? =some (.bool (g i).2)∧∃(a:OA) (n e:Nat),rs[i]? =some (.slice a n e)∧IsL fF H a n (g i).1∧∀x,a=some x→H0.length≤x.block
theorem Own.keep2 {H H':zp} {b rb fb:Nat} {cs:List Value} (h:Own H b cs) (h1:rb≠b) (h2:fb≠b) (k:z2u (some ⟨rb,0,none⟩) (some ⟨fb,0,none⟩) H H'):Own H' b cs:=
 (k.2 b h.lt (fun x hx=>by cases hx;exact h1) (fun x hx=>by cases hx;exact h2)).trans h
theorem IsL.keepB {H H':zp} {a:OA} {n:Nat} {xs:LN} (h:IsL fF H a n xs) (hk:∀x,a=some x→H'[x.block]? =H[x.block]?):IsL fF H' a n xs:=by
 unfold IsL rdS at *
 cases n with
 | zero=>exact h
 | succ n=>
  cases a with
  | none=>exact h
  | some x=>
   have:=hk x rfl
   obtain ⟨b,off,sub⟩:=x
   cases sub with
   | none=>simp only [rdN,rdB] at h ⊢;rw [this];exact h
   | some _=>exact h
theorem extV0 {u v:Value} {K:Value→Prop}:extV (.tuple #[u,v]) 0 K=K u:=rfl
theorem extV1 {u v:Value} {K:Value→Prop}:extV (.tuple #[u,v]) 1 K=K v:=rfl
theorem zl3 {k W:Int} (h1:0≤k) (h2:k≤17) (h3:1≤W) (h4:W≤16):0≤k*W∧k*W≤272:=by
 constructor
 ·exact Int.mul_nonneg h1 ω2
 ·have:=Int.mul_le_mul h2 h4 ω2 ω2
  omega
/-! f1az: function 111 -/
def z5q:Env:=envOf [(999998,z7z),(70,S_f2z)]
def zsz:FSpec:={F:=z5v Tryz.prog z5q Tryz.f111,quiet:=false,tame:=false}
theorem zib:∀g,FnOk Tryz.prog g (z5q g):=FnOk.envOf (by
 intro x hx
 simp only [List.mem_cons,List.not_mem_nil,or_false] at hx
 rcases hx with rfl | rfl
 ·exact zen _
 ·exact f2z_ok)
theorem z1a0:FnOk Tryz.prog 111 zsz:=FnOkX.clear mix_ok zib Tryz.func111 rfl ω9 ω9
theorem z1a2 (cap0 cap1 cap2 cap3 cap4 cap5:Nat) (H:zp) (K:KT):zv Tryz.prog z5q Tryz.f111 [.pointer (some ⟨cap0,0,none⟩),.pointer (some ⟨cap1,0,none⟩),.pointer (some ⟨cap2,0,none⟩),.pointer (some ⟨cap3,0,none⟩),.pointer (some ⟨cap4,0,none⟩),.pointer (some ⟨cap5,0,none⟩)] H K=
 (∃x1:Int,  rdC H cap0 0=some (.int .i64 x1)∧z1i (exL Tryz.prog z5q (cl (cl (cr (zq Tryz.f111)))) 126 0 [(0,0)]) (ud::.pointer (some ⟨cap1,0,none⟩)::.pointer (some ⟨cap2,0,none⟩)::.pointer (some ⟨cap3,0,none⟩)::.pointer (some ⟨cap4,0,none⟩)::.pointer (some ⟨cap5,0,none⟩)::.int .i64 x1::ud31 []) H (zu 0 (retK Tryz.prog Tryz.f111 K))):=by kernel_rfl
abbrev zbn (cap1 cap2 cap3 cap4 cap5:Nat) (y:Int)  :List Value:=(ud::.pointer (some ⟨cap1,0,none⟩)::.pointer (some ⟨cap2,0,none⟩)::.pointer (some ⟨cap3,0,none⟩)::.pointer (some ⟨cap4,0,none⟩)::.pointer (some ⟨cap5,0,none⟩)::.int .i64 y::ud31 [])
theorem z1a1 (cap1 cap2 cap3 cap4 cap5:Nat) (y:Int)  (H:zp) (R:Post):exL Tryz.prog z5q (cl (cl (cr (zq Tryz.f111)))) 126 0 [(0,0)] (zbn cap1 cap2 cap3 cap4 cap5 y) H R=
 (∃x2:Int,  rdC H cap1 1=some (.int .i64 x2)∧Br (decide ((y:Int)<x2)) (∃x3:Int,  rdC H cap1 0=some (.int .i64 x3)∧∃x4:Int,  rdC H cap1 0=some (.int .i64 x4)∧∃zi:OA,∃xi:Nat,∃wj:Nat,  rdC H cap1 2=some (.slice zi xi wj)∧∃x6:Value,  rdC H cap3 0=some (x6)∧∃gj:OA,∃vi:Nat,∃nk:Nat,  rdC H cap5 0=some (.slice gj vi nk)∧∃jj:OA,∃kj:Nat,∃qk:Nat,  rdC H cap4 0=some (.slice jj kj qk)∧(0:Int)≤IntKind.wrap .i64 (y*x4)∧IntKind.wrap .i64 (y*x4)≤IntKind.wrap .i64 ((IntKind.wrap .i64 (y+1))*x3)∧IntKind.wrap .i64 ((IntKind.wrap .i64 (y+1))*x3)≤(xi:Int)∧chk (valT z5q x6) (zev z5q x6 [.slice ((zi:OA).map fun a=>⟨a.block,a.off+(IntKind.wrap .i64 (y*x4):Int).toNat*1,none⟩) (((IntKind.wrap .i64 ((IntKind.wrap .i64 (y+1))*x3):Int)-IntKind.wrap .i64 (y*x4)).toNat) 0] H fun (w1:Value) (H1:zp)=>extV w1 0 fun (w2:Value)=>extV w1 1 fun (w3:Value)=>(0:Int)≤y∧y<(kj:Int)∧∃b1 f1,(jj:OA)=some ⟨b1,f1,none⟩∧stV w2 H1 b1 (f1+(y:Int).toNat*1) fun (H2:zp)=>(0:Int)≤y∧y<(vi:Int)∧∃b2 f2,(gj:OA)=some ⟨b2,f2,none⟩∧stV w3 H2 b2 (f2+(y:Int).toNat*1) fun (H3:zp)=>∃x9:Int,  rdC H3 cap2 0=some (.int .i64 x9)∧R .normal (ud::.pointer (some ⟨cap1,0,none⟩)::.pointer (some ⟨cap2,0,none⟩)::.pointer (some ⟨cap3,0,none⟩)::.pointer (some ⟨cap4,0,none⟩)::.pointer (some ⟨cap5,0,none⟩)::.int .i64 (IntKind.wrap .i64 (y+x9))::ud31 []) H3)) (R (.exit 0) (ud38 []) H)):=by kernel_rfl
def zh7 (cap1 cap2 cap3 cap4 cap5:Nat) (Inv:Nat→Int→zp→Prop):Nat→List Value→zp→Prop:=fun μ tm H=>∃(y:Int),tm=(zbn cap1 cap2 cap3 cap4 cap5 y)∧Inv μ y H
theorem z19y (cap1 cap2 cap3 cap4 cap5:Nat) {Q:Post} (Inv:Nat→Int→zp→Prop) (ν:Nat) (y:Int)  (H:zp) (h0:Inv ν y H)
  (hs:∀(μ:Nat) (y:Int)  (H:zp),Inv μ y H→exL Tryz.prog z5q (cl (cl (cr (zq Tryz.f111)))) 126 0 [(0,0)] (zbn cap1 cap2 cap3 cap4 cap5 y) H (z1a (zh7 cap1 cap2 cap3 cap4 cap5 Inv) μ Q)):z1i (exL Tryz.prog z5q (cl (cl (cr (zq Tryz.f111)))) 126 0 [(0,0)]) (zbn cap1 cap2 cap3 cap4 cap5 y) H Q:=
 ⟨zh7 cap1 cap2 cap3 cap4 cap5 Inv,ν,⟨y,rfl,h0⟩,fun μ tm H h=>by obtain ⟨y,rfl,hI⟩:=h;exact hs μ y  H hI⟩
theorem z19z {cap1 cap2 cap3 cap4 cap5:Nat} {Q:Post} {Inv:Nat→Int→zp→Prop} {μ:Nat} (μ':Nat) {y:Int}  {H:zp} (hm:μ'<μ) (hI:Inv μ' y H):z1a (zh7 cap1 cap2 cap3 cap4 cap5 Inv) μ Q .normal (zbn cap1 cap2 cap3 cap4 cap5 y) H:=⟨μ',hm,y,rfl,hI⟩
theorem zu6  (H:zp) (K:KT)  {I:Nat→List Value→zp→Prop} {μ:Nat}:z1a I μ (zu 0 (retK Tryz.prog Tryz.f111 K)) (.exit 0) (ud38 []) H=
 (K (.tuple #[]) H):=by kernel_rfl
theorem z7j.step {H0 H H':zp} {rb fb k m:Nat} {g:Nat→LN×Bool} (hne:rb≠fb) (h:z7j H0 H rb fb k m g) (hk:k<m) {a':OA} {n' e':Nat} (hg:Grow H H') (ho:OwnS fF H' H.length a' n' e' (g k).1)
  (hrb:rb<H0.length) (hfb:fb<H0.length) {K:zp→Prop} (hK:∀H3,z7j H0 H3 rb fb (k+1) m g→K H3):
  stV (.slice a' n' e') H' rb (0+k*1) fun H2=>stV (.bool (g k).2) H2 fb (0+k*1) K:=by
 rw [zei]
 simp only [z13w]
 obtain ⟨kp,rs,fs,o1,o2,l1,l2,h⟩:=h
 have p1:=o1.grow hg
 have p2:=o2.grow hg
 refine Lt.set p1 ω2 fun H2 e2 q1 k2=>Lt.set (p2.keep (Ne.symm hne) k2) ω2 fun H3 e3 q2 k3=>hK H3 ⟨?_,_,_,q1.keep hne k3,q2,by simp [l1],by simp [l2],fun i hi=>?_⟩
 ·refine ⟨by have:=kp.1;have:=hg.1;omega,fun i hi h1 h2=>?_⟩
  have n1:i≠rb:=fun e=>h1 ⟨rb,0,none⟩ rfl e.symm
  have n2:i≠fb:=fun e=>h2 ⟨fb,0,none⟩ rfl e.symm
  have a0:=kp.1;have a1:=hg.1
  rw [k3.2 i ω2 n2,k2.2 i ω2 n1,hg.2 i ω2]
  exact kp.2 i hi h1 h2
 ·rcases Nat.lt_succ_iff_lt_or_eq.1 hi with hi | rfl
  ·obtain ⟨g1,a,n,e,g2,g3,g4⟩:=h i hi
   refine ⟨by rw [List.getElem?_set_ne ω2];exact g1,a,n,e,by rw [List.getElem?_set_ne ω2];exact g2,IsL.keepB (g3.grow hg) fun x hx=>?_,g4⟩
   have:=g4 x hx
   have hx2:n=0∨x.block<H'.length:=by
    rcases Nat.eq_zero_or_pos n with h0 | h0
    ·exact .inl h0
    ·right
     obtain ⟨b,o,ea,hc⟩:=(g3.grow hg).cell h0
     rw [hx] at ea;cases ea
     have hl:=(g3.grow hg).len
     have:=hc 0 _ (List.getElem?_eq_getElem ω2)
     unfold rdC rdB at this
     by_cases hb:b<H'.length
     ·exact hb
     ·rw [List.getElem?_eq_none ω2] at this;cases this
   by_cases hb:x.block<H'.length
   ·rw [k3.2 x.block ω2 ω2,k2.2 x.block hb ω2]
   ·rw [List.getElem?_eq_none ω2,List.getElem?_eq_none ω2]
  ·refine ⟨by rw [show 0+i*1=i by omega,List.getElem?_set_self ω2],a',n',e',by rw [show 0+i*1=i by omega,List.getElem?_set_self ω2],IsL.keepB ho.isL fun x hx=>?_,fun x hx=>Nat.le_trans kp.1 (ho.lo x hx)⟩
   have h1:=ho.lo x hx
   have h2:=ho.up x hx
   have h3:=kp.1
   rw [k3.2 x.block ω2 ω2,k2.2 x.block ω2 ω2]
theorem zu5 {c0 c1 c2 c3 c4 c5 rb fb m:Nat} {H0:zp} {W Hi:Int} {a:OA} {n e:Nat} {x:Value} {g:Nat→LN×Bool} {K:KT} (hm:Hi=(m:Int)) (hm2:m≤16) (hW:1≤W) (hW2:W≤16) (hn:(n:Int)=W*m)
  (o0:Own H0 c0 [.int .i64 0]) (o1:Own H0 c1 [.int .i64 W,.int .i64 Hi,.slice a n e]) (o2:Own H0 c2 [.int .i64 1]) (o3:Own H0 c3 [x]) (o4:Own H0 c4 [.slice (some ⟨rb,0,none⟩) m 1]) (o5:Own H0 c5 [.slice (some ⟨fb,0,none⟩) m 1])
  (d1:rb≠c1∧rb≠c2∧rb≠c3∧rb≠c4∧rb≠c5) (d2:fb≠c1∧fb≠c2∧fb≠c3∧fb≠c4∧fb≠c5) (hne:rb≠fb) (hrb:rb<H0.length) (hfb:fb<H0.length) (hr:z7j H0 H0 rb fb 0 m g)
  (hch:ChOk z5q x H0 rb fb a W m g) (hT:valT z5q x=true) (hk:∀H,z7j H0 H rb fb m m g→K (.tuple #[]) H):
  z5v Tryz.prog z5q Tryz.f111 [.pointer (some ⟨c0,0,none⟩),.pointer (some ⟨c1,0,none⟩),.pointer (some ⟨c2,0,none⟩),.pointer (some ⟨c3,0,none⟩),.pointer (some ⟨c4,0,none⟩),.pointer (some ⟨c5,0,none⟩)] H0 K:=by
 refine zbl zib ?_
 rw [z1a2]
 refine ⟨0,(o0.rdC 0).trans rfl,?_⟩
 refine z19y c1 c2 c3 c4 c5 (fun μ y H=>∃k:Nat,y=(k:Int)∧k≤m∧μ=m-k∧z7j H0 H rb fb k m g) m 0 H0 ⟨0,rfl,Nat.zero_le _,rfl,hr⟩ ?_
 intro μ y H hI
 obtain ⟨k,rfl,hkm,rfl,hR⟩:=hI
 have kp:=hR.1
 have p1:=o1.keep2 d1.1 d2.1 kp
 have p2:=o2.keep2 d1.2.1 d2.2.1 kp
 have p3:=o3.keep2 d1.2.2.1 d2.2.2.1 kp
 have p4:=o4.keep2 d1.2.2.2.1 d2.2.2.2.1 kp
 have p5:=o5.keep2 d1.2.2.2.2 d2.2.2.2.2 kp
 rw [z1a1]
 refine ⟨Hi,(p1.rdC 1).trans rfl,?_⟩
 refine Br.intro (fun hc=>?_) (fun hc=>?_)
 ·have hc':=of_decide_eq_true hc
  have hkm':k<m:=by omega
  refine ⟨W,(p1.rdC 0).trans rfl,W,(p1.rdC 0).trans rfl,a,n,e,(p1.rdC 2).trans rfl,x,(p3.rdC 0).trans rfl,some ⟨fb,0,none⟩,m,1,(p5.rdC 0).trans rfl,some ⟨rb,0,none⟩,m,1,(p4.rdC 0).trans rfl,?_⟩
  have s1:=zl3 (k:=(k:Int)) (W:=W) ω2 ω2 hW hW2
  have s2:=zl3 (k:=(k:Int)+1) (W:=W) ω2 ω2 hW hW2
  have e2:((k:Int)+1)*W=(k:Int)*W+W:=by rw [Int.add_mul,Int.one_mul]
  have s3:((k:Int)+1)*W≤(n:Int):=by
   rw [hn,Int.mul_comm]
   exact Int.mul_le_mul_of_nonneg_left ω2 ω2
  rw [zt (n:=(k:Int)*W) ω2 ω2,zt (n:=(k:Int)+1) ω2 ω2,zt (n:=((k:Int)+1)*W) ω2 ω2]
  refine ⟨s1.1,by omega,s3,?_⟩
  rw [hT]
  show zev _ _ _ _ _
  refine hch k hkm' H kp _ fun a' n' e' H' hg ho=>?_
  rw [extV0,extV1]
  have st:=hR.step hne hkm' hg ho hrb hfb (K:=fun H3=>∃x9:Int,rdC H3 c2 0=some (.int .i64 x9)∧z1a (zh7 c1 c2 c3 c4 c5 fun μ y H=>∃k:Nat,y=(k:Int)∧k≤m∧μ=m-k∧z7j H0 H rb fb k m g) (m-k) (zu 0 (retK Tryz.prog Tryz.f111 K)) .normal (zbn c1 c2 c3 c4 c5 (IntKind.wrap .i64 ((k:Int)+x9))) H3) (fun H3 hD=>by
   refine ⟨1,((o2.keep2 d1.2.1 d2.2.1 hD.1).rdC 0).trans rfl,?_⟩
   rw [zt (n:=(k:Int)+1) ω2 ω2]
   exact z19z (m-(k+1)) ω2 ⟨k+1,by omega,by omega,rfl,hD⟩)
  rw [zei] at st
  obtain ⟨t1,t2,t3⟩:=st
  refine ⟨by omega,by omega,rb,0,rfl,?_⟩
  rw [zei]
  exact ⟨t1,t2,by omega,by omega,fb,0,rfl,t3⟩
 ·have hc':=of_decide_eq_false hc
  rw [zu6]
  have:k=m:=by omega
  subst this
  exact hk H hR

def z14e (env:Env) (x:Value) (H:zp) (a:OA) (W:Int) (m:Nat) (g:Nat→LN×Bool):Prop:=
 ∀(y:Nat),y<m→∀(H1:zp),Grow H H1→∀K:Value→zp→Prop,
  (∀(a':OA) (n' e':Nat) (H':zp),Grow H1 H'→OwnS fF H' H1.length a' n' e' (g y).1→K (.tuple #[.slice a' n' e',.bool (g y).2]) H')→
  zev env x [.slice ((a:OA).map fun a=>⟨a.block,a.off+((y:Int)*W).toNat*1,none⟩) ((((y:Int)+1)*W-(y:Int)*W).toNat) 0] H1 K
theorem Grow.keep2 {H0 H H':zp} {rb fb:Nat} (g:Grow H0 H) (h1:H0.length≤rb) (h2:H0.length≤fb) (k:z2u (some ⟨rb,0,none⟩) (some ⟨fb,0,none⟩) H H'):Grow H0 H':=
 ⟨Nat.le_trans g.1 k.1,fun i hi=>(k.2 i (Nat.lt_of_lt_of_le hi g.1) (fun x hx=>by cases hx;show rb≠i;omega) (fun x hx=>by cases hx;show fb≠i;omega)).trans (g.2 i hi)⟩
def z5g (g:Nat→LN×Bool) (k:Nat):LN:=(List.range k).flatMap fun i=>(g i).1
theorem z4l (g:Nat→LN×Bool) (k:Nat):z5g g (k+1)=z5g g k++(g k).1:=by
 unfold z5g
 rw [List.range_succ,List.flatMap_append]
 simp
theorem zjh {g:Nat→LN×Bool} {m:Nat} (h:∀i,i<m→(g i).1.length≤64):∀k,k≤m→(z5g g k).length≤64*k:=by
 intro k
 induction k with
 | zero=>intro _;simp [z5g]
 | succ k ih=>
  intro hk
  have h1:=ih ω2
  have h2:=h k ω2
  rw [z4l,List.length_append]
  omega
def z3f (W Hi:Int) (m:Nat) (g:Nat→LN×Bool):Int×Int×LN×Bool:=bif (List.range m).all (fun i=>(g i).2) then z9q W Hi (z5g g m) else (0,0,[],false)
theorem zwq {W Hi:Int} {m:Nat} {g:Nat→LN×Bool} {k:Nat} (hk:k<m) (h:(g k).2=false):z3f W Hi m g=(0,0,[],false):=by
 unfold z3f
 have:(List.range m).all (fun i=>(g i).2)=false:=by
  rw [List.all_eq_false]
  exact ⟨k,List.mem_range.2 hk,by simp [h]⟩
 rw [this,cond_false]
theorem zqg {W Hi:Int} {m:Nat} {g:Nat→LN×Bool} (h:∀i,i<m→(g i).2=true):z3f W Hi m g=z9q W Hi (z5g g m):=by
 unfold z3f
 have:(List.range m).all (fun i=>(g i).2)=true:=by
  rw [List.all_eq_true]
  exact fun i hi=>h i (List.mem_range.1 hi)
 rw [this,cond_true]
def zt5 (ta ua:Int) (oa:OA) (xa ya:Nat) (workers:Int) (change_f:Fn) (change_x change_y:Array Value) (H:zp) (K:Int→Int→OA→Nat→Nat→Bool→zp→Prop):Prop:=
 ∃(l:LN) (g:Nat→LN×Bool),IsL fF H oa xa l∧workers=1∧1≤ta∧ta≤16∧1≤ua∧ua≤16∧(l.length:Int)=ta*ua∧valT z5q (.func change_f change_x change_y)=true∧
  (∀i,i<ua.toNat→(g i).1.length≤64∧((g i).2=true→1≤(g i).1.length))∧z14e z5q (.func change_f change_x change_y) H oa ta ua.toNat g∧
  (∀(sd:OA) (ae zd:Nat),∀H':zp,Grow H H'→OwnS fF H' H.length sd ae zd ((z3f ta ua ua.toNat g).2.2.1)→K ((z3f ta ua ua.toNat g).1) ((z3f ta ua ua.toNat g).2.1) sd ae zd ((z3f ta ua ua.toNat g).2.2.2) H')
/-! f1vz: function 69 -/
def z9x:Env:=envOf [(111,zsz),(113,S_f9z)]
def zmx:List Value→zp→(Value→zp→Prop)→Prop
 | [.agg ⟨[.int .i64 ta,.int .i64 ua,.slice oa xa ya]⟩,.int .i64 workers,.func change_f change_x change_y],H,K=>zt5 ta ua oa xa ya workers change_f change_x change_y H fun (ld:Int) (jd:Int) (ia:OA) (ma:Nat) (ja:Nat) (r2:Bool) (H':zp)=>K (.tuple #[.agg #[.int .i64 ld,.int .i64 jd,.slice ia ma ja],.bool r2]) H'
 | _,_,_=>False
def zif:FSpec:={F:=zmx,quiet:=false,tame:=false}
theorem z1by (ta ua:Int) (oa:OA) (xa ya:Nat) (workers:Int) (change_f:Fn) (change_x:Array Value) (change_y:Array Value) (H:zp) (K:KT):rbM Tryz.prog z9x [.agg #[.int .i64 ta,.int .i64 ua,.slice oa xa ya],.int .i64 workers,.func change_f change_x change_y] H K=
 (Al [.int .i64 ta,.int .i64 ua,.slice oa xa ya] H fun b1 H1=>Al [.int .i64 workers] H1 fun b2 H2=>Al [.func change_f change_x change_y] H2 fun b3 H3=>Al [.int .i64 0,.int .i64 0,.slice none 0 0] H3 fun b4 H4=>∃x1:Int,  rdC H4 b1 1=some (.int .i64 x1)∧∃x2:Int,  rdC H4 b1 1=some (.int .i64 x2)∧(0:Int)≤x2∧x2=x2∧x2<(most:Int)∧Al (z1k (.slice none 0 0) (x2).toNat) H4 fun b5 H5=>(0:Int)≤x1∧x1=x1∧x1<(most:Int)∧Al (z1k (.bool false) (x1).toNat) H5 fun b6 H6=>Al [.slice none 0 0] H6 fun b7 H7=>Al [.slice none 0 0] H7 fun b8 H8=>isOwn H8 b7∧(∃l,rdN H8 b7 0 1=some l)∧Lt (setC H8 b7 0 (.slice (some ⟨b5,0,none⟩) ((x2).toNat) 1)) fun H9=>isOwn H9 b8∧(∃l,rdN H9 b8 0 1=some l)∧Lt (setC H9 b8 0 (.slice (some ⟨b6,0,none⟩) ((x1).toNat) 1)) fun H10=>∃x3:Int,  rdC (H10++[none]) b2 0=some (.int .i64 x3)∧((57:Nat)=57∧Value.int .i64 x3=Value.int .i64 1∧Value.int .i64 0=Value.int .i64 0)∧Al [.int .i64 0] (H10++[none]) fun b9 H11=>isOwn H11 b9∧(∃l,rdN H11 b9 0 1=some l)∧Lt (setC H11 b9 0 (.int .i64 0)) fun H12=>((57:Nat)=57∧(.pointer (some ⟨H10.length,0,none⟩):Value)=.pointer (some ⟨H10.length,0,none⟩)∧Value.int .i64 x3=Value.int .i64 1∧Value.int .i64 (0:Int)=Value.int .i64 0)∧zsz.F [.pointer (some ⟨b9,0,none⟩),.pointer (some ⟨b1,0,none⟩),.pointer (some ⟨b2,0,none⟩),.pointer (some ⟨b3,0,none⟩),.pointer (some ⟨b7,0,none⟩),.pointer (some ⟨b8,0,none⟩)] H12 fun (_:Value) (H13:zp)=>∃x4:Int,  rdC H13 b1 0=some (.int .i64 x4)∧∃x5:Int,  rdC H13 b1 1=some (.int .i64 x5)∧Al [.int .i64 0,.int .i64 0,.slice none 0 0] H13 fun b10 H14=>isOwn H14 b10∧(∃l,rdN H14 b10 0 3=some l)∧Lt (setN H14 b10 0 [.int .i64 x4,.int .i64 x5,.slice none 0 0]) fun H15=>∃ai:OA,∃zh:Nat,∃ki:Nat,  rdC H15 b7 0=some (.slice ai zh ki)∧z1i (exL Tryz.prog z9x (cl (cl (cr (cl (cr (cr rb4)))))) 120259088960 192 [(2,4160)]) (ud6 (.pointer (some ⟨b4,0,none⟩)::ud2 (.pointer (some ⟨b8,0,none⟩)::ud2 (.pointer (some ⟨b10,0,none⟩)::ud21 (.slice ai zh ki::.int .i64 (zh:Int)::.int .i64 0::ud20 []))))) H15 (zu 2 (seqQ (exL Tryz.prog z9x (cr (cr (cr rb4))) 192 192 []) (retK Tryz.prog Tryz.f69 K)))):=by kernel_rfl
abbrev zde (b10 b4 b8:Nat) (ai:OA) (ki zh:Nat) (t36:Int)  :List Value:=(ud6 (.pointer (some ⟨b4,0,none⟩)::ud2 (.pointer (some ⟨b8,0,none⟩)::ud2 (.pointer (some ⟨b10,0,none⟩)::ud21 (.slice ai zh ki::.int .i64 (zh:Int)::.int .i64 t36::ud20 [])))))
theorem z1bx (b10 b4 b8:Nat) (ai:OA) (ki zh:Nat) (t36:Int)  (H:zp) (R:Post):exL Tryz.prog z9x (cl (cl (cr (cl (cr (cr rb4)))))) 120259088960 192 [(2,4160)] (zde b10 b4 b8 ai ki zh t36) H R=
 (Br (decide ((t36:Int)<(zh:Int))) ((0:Int)≤t36∧t36<(zh:Int)∧∃b11 f1,(ai:OA)=some ⟨b11,f1,none⟩∧∃gj:OA,∃vi:Nat,∃nk:Nat,  rdC H b11 (f1+(t36:Int).toNat*1)=some (.slice gj vi nk)∧∃jj:OA,∃kj:Nat,∃qk:Nat,  rdC H b8 0=some (.slice jj kj qk)∧(0:Int)≤t36∧t36<(kj:Int)∧∃b12 f2,(jj:OA)=some ⟨b12,f2,none⟩∧∃x9:Bool,  rdC H b12 (f2+(t36:Int).toNat*1)=some (.bool x9)∧Br (!x9) (isOwn H b4∧(∃l,rdN H b4 0 3=some l)∧Lt (setN H b4 0 [.int .i64 0,.int .i64 0,.slice none 0 0]) fun H16=>R .ret (ud6 (.pointer (some ⟨b4,0,none⟩)::.bool false::ud49 [])) H16) (∃tl:OA,∃ul:Nat,∃bp:Nat,  rdC H b10 2=some (.slice tl ul bp)∧∃o1 w1:List Value,ownB H tl ul bp 1=some o1∧rdS H gj (vi*1)=some w1∧((tl:OA)=none→0<(vi:Nat))∧(ul:Nat)+vi<most∧Ap H (z2v H tl++[some ⟨o1++w1,true⟩]) fun b13 H17=>isOwn H17 b10∧(∃l,rdN H17 b10 2 1=some l)∧Lt (setC H17 b10 2 (.slice (some ⟨b13,0,none⟩) (ul+vi) 1)) fun H18=>R .normal (ud6 (.pointer (some ⟨b4,0,none⟩)::ud2 (.pointer (some ⟨b8,0,none⟩)::ud2 (.pointer (some ⟨b10,0,none⟩)::ud21 (.slice ai zh ki::.int .i64 (zh:Int)::.int .i64 (IntKind.wrap .i64 (t36+1))::ud20 []))))) H18)) (R (.exit 2) (ud6 (.pointer (some ⟨b4,0,none⟩)::ud5 (.pointer (some ⟨b10,0,none⟩)::ud44 []))) H)):=by kernel_rfl
def zm1 (b10 b4 b8:Nat) (ai:OA) (ki zh:Nat) (Inv:Nat→Int→zp→Prop):Nat→List Value→zp→Prop:=fun μ tm H=>∃(t36:Int),tm=(zde b10 b4 b8 ai ki zh t36)∧Inv μ t36 H
theorem z1bu (b10 b4 b8:Nat) (ai:OA) (ki zh:Nat) {Q:Post} (Inv:Nat→Int→zp→Prop) (ν:Nat) (t36:Int)  (H:zp) (h0:Inv ν t36 H)
  (hs:∀(μ:Nat) (t36:Int)  (H:zp),Inv μ t36 H→exL Tryz.prog z9x (cl (cl (cr (cl (cr (cr rb4)))))) 120259088960 192 [(2,4160)] (zde b10 b4 b8 ai ki zh t36) H (z1a (zm1 b10 b4 b8 ai ki zh Inv) μ Q)):z1i (exL Tryz.prog z9x (cl (cl (cr (cl (cr (cr rb4)))))) 120259088960 192 [(2,4160)]) (zde b10 b4 b8 ai ki zh t36) H Q:=
 ⟨zm1 b10 b4 b8 ai ki zh Inv,ν,⟨t36,rfl,h0⟩,fun μ tm H h=>by obtain ⟨t36,rfl,hI⟩:=h;exact hs μ t36  H hI⟩
theorem z1bv {b10 b4 b8:Nat} {ai:OA} {ki zh:Nat} {Q:Post} {Inv:Nat→Int→zp→Prop} {μ:Nat} (μ':Nat) {t36:Int}  {H:zp} (hm:μ'<μ) (hI:Inv μ' t36 H):z1a (zm1 b10 b4 b8 ai ki zh Inv) μ Q .normal (zde b10 b4 b8 ai ki zh t36) H:=⟨μ',hm,t36,rfl,hI⟩
theorem zv4 (b10 b4:Nat) (H:zp) (K:KT)  {I:Nat→List Value→zp→Prop} {μ:Nat}:z1a I μ (zu 2 (seqQ (exL Tryz.prog z9x (cr (cr (cr rb4))) 192 192 []) (retK Tryz.prog Tryz.f69 K))) (.exit 2) (ud6 (.pointer (some ⟨b4,0,none⟩)::ud5 (.pointer (some ⟨b10,0,none⟩)::ud44 []))) H=
 (∃c1:Int,∃c2:Int,∃zg:OA,∃bh:Nat,∃ah:Nat,  rdN H b10 0 3=some [.int .i64 c1,.int .i64 c2,.slice zg bh ah]∧zt6 c1 c2 zg bh ah H fun (r1:Int) (r2:Int) (a1:OA) (r3:Nat) (r4:Nat) (r5:Bool) (H19:zp)=>isOwn H19 b4∧(∃l,rdN H19 b4 0 3=some l)∧Lt (setN H19 b4 0 [.int .i64 r1,.int .i64 r2,.slice a1 r3 r4]) fun H20=>∃c4:Int,∃c5:Int,∃kh:OA,∃mh:Nat,∃lh:Nat,  rdN H20 b4 0 3=some [.int .i64 c4,.int .i64 c5,.slice kh mh lh]∧K (.tuple #[.agg #[.int .i64 c4,.int .i64 c5,.slice kh mh lh],.bool r5]) H20):=by kernel_rfl
theorem zm2 (b4:Nat) (t7:Bool) (H:zp) (K:KT)  {I:Nat→List Value→zp→Prop} {μ:Nat}:z1a I μ (zu 2 (seqQ (exL Tryz.prog z9x (cr (cr (cr rb4))) 192 192 []) (retK Tryz.prog Tryz.f69 K))) .ret (ud6 (.pointer (some ⟨b4,0,none⟩)::.bool t7::ud49 [])) H=
 (∃c7:Int,∃c8:Int,∃wh:OA,∃yh:Nat,∃xh:Nat,  rdN H b4 0 3=some [.int .i64 c7,.int .i64 c8,.slice wh yh xh]∧K (.tuple #[.agg #[.int .i64 c7,.int .i64 c8,.slice wh yh xh],.bool t7]) H):=by kernel_rfl
theorem zcv:∀g,FnOk Tryz.prog g (z9x g):=FnOk.envOf (by
 intro x hx
 simp only [List.mem_cons,List.not_mem_nil,or_false] at hx
 rcases hx with rfl | rfl
 ·exact z1a0
 ·exact f9z_ok)
theorem zlb {v:Value} (h:v.cells.toList=[v]) (n:Nat):(z1k v n).length=n:=by
 rw [zlc (fun v:Value=>v) v n h];simp
set_option maxHeartbeats 4000000 in
theorem zv3 (W Hi:Int) (la:OA) (ln le:Nat) (workers:Int) (cf:Fn) (cx cy:Array Value) (H:zp) (K:KT) (h:zt5 W Hi la ln le workers cf cx cy H fun (ld:Int) (jd:Int) (ia:OA) (ma:Nat) (ja:Nat) (r2:Bool) (H':zp)=>K (.tuple #[.agg #[.int .i64 ld,.int .i64 jd,.slice ia ma ja],.bool r2]) H'):rbM Tryz.prog z9x [.agg #[.int .i64 W,.int .i64 Hi,.slice la ln le],.int .i64 workers,.func cf cx cy] H K:=by
 obtain ⟨l,g,il,rfl,hW1,hW2,hH1,hH2,hl,hv,hlen,hch,hk⟩:=h
 obtain ⟨m,rfl⟩:∃m:Nat,Hi=(m:Int):=⟨Hi.toNat,by omega⟩
 simp only [Int.toNat_natCast] at hlen hch hk
 rw [z1by]
 have hll:=il.len
 refine Al.intro fun b1 H1 e1 l1 g1 o1=>Al.intro fun b2 H2 e2 l2 g2 o2=>Al.intro fun b3 H3 e3 l3 g3 o3=>Al.intro fun b4 H4 e4 l4 g4 o4=>?_
 have p1:=((o1.grow g2).grow g3).grow g4
 refine ⟨(m:Int),(p1.rdC 1).trans rfl,(m:Int),(p1.rdC 1).trans rfl,by omega,rfl,by have:=zmg;omega,?_⟩
 refine Al.intro fun b5 H5 e5 l5 g5 o5=>⟨by omega,rfl,by have:=zmg;omega,?_⟩
 refine Al.intro fun b6 H6 e6 l6 g6 o6=>Al.intro fun b7 H7 e7 l7 g7 o7=>Al.intro fun b8 H8 e8 l8 g8 o8=>?_
 refine Lt.set (o7.grow g8) ω23 fun H9 l9 q7 k9=>Lt.set (o8.keep ω2 k9) ω23 fun H10 l10 q8 k10=>?_
 have g48:Grow H4 H8:=((g5.trans g6).trans g7).trans g8
 have G0:Grow H H8:=(((g1.trans g2).trans g3).trans g4).trans g48
 have up:∀{b:Nat} {cs:List Value},Own H8 b cs→b≠b7→b≠b8→Own H10 b cs:=fun o h1 h2=>(o.keep h1 k9).keep h2 k10
 have u1:=up (p1.grow g48) ω2 ω2
 have u2:=up ((((o2.grow g3).grow g4).grow g48)) ω2 ω2
 have u3:=up (((o3.grow g4).grow g48)) ω2 ω2
 have u4:=up (o4.grow g48) ω2 ω2
 have u5:=up (((o5.grow g6).grow g7).grow g8) ω2 ω2
 have u6:=up ((o6.grow g7).grow g8) ω2 ω2
 have u7:=q7.keep ω2 k10
 have G1:Grow H H10:=(G0.keep ω2 k9).keep ω2 k10
 have gA:=Grow.app H10 (none:Option Blk)
 have lA:(H10++[(none:Option Blk)]).length=H10.length+1:=by simp
 refine ⟨1,((u2.grow gA).rdC 0).trans rfl,⟨rfl,rfl,rfl⟩,Al.intro fun b9 H11 e9 l11 g11 o9=>Lt.set o9 ω23 fun H12 l12 q9 k12=>⟨⟨rfl,rfl,rfl,rfl⟩,?_⟩⟩
 have up2:∀{b:Nat} {cs:List Value},Own H10 b cs→Own H12 b cs:=fun o=>((o.grow gA).grow g11).keep (by have:=o.lt;omega) k12
 have G2:Grow H H12:=(((G1.trans gA).trans g11)).keep (by have:=G1.1;omega) k12
 have z5:((z1k (.slice none 0 0) ((m:Int)).toNat):List Value).length=m:=(zlb rfl _).trans (Int.toNat_natCast m)
 have z6:((z1k (.bool false) ((m:Int)).toNat):List Value).length=m:=(zlb rfl _).trans (Int.toNat_natCast m)
 have q7':=up2 u7
 have q8':=up2 q8
 have em:((m:Int)).toNat=m:=Int.toNat_natCast m
 show z5v _ _ _ _ _ _
 refine zu5 (rb:=b5) (fb:=b6) (m:=m) (W:=W) (Hi:=(m:Int)) (a:=la) (n:=ln) (e:=le) (x:=.func cf cx cy) (g:=g) rfl ω2 hW1 hW2 (by rw [←hll];exact hl) q9 (up2 u1) (up2 u2) (up2 u3) (by rw [em] at q7';exact q7') (by rw [em] at q8';exact q8')
  ⟨by omega,by omega,by omega,by omega,by omega⟩ ⟨by omega,by omega,by omega,by omega,by omega⟩ ω2 (by have:=(up2 u5).lt;omega) (by have:=(up2 u6).lt;omega) ⟨z2u.refl _ _ _,_,_,up2 u5,up2 u6,z5,z6,fun i hi=>absurd hi (Nat.not_lt_zero _)⟩
  (fun y hy H' kp K2 h2=>hch y hy H' (G2.keep2 ω2 ω2 kp) K2 h2) hv fun H13 hD=>?_
 have kD:=hD.1
 have G3:Grow H H13:=G2.keep2 ω2 ω2 kD
 have d1:=(up2 u1).keep2 (rb:=b5) (fb:=b6) ω2 ω2 kD
 have d4:=(up2 u4).keep2 (rb:=b5) (fb:=b6) ω2 ω2 kD
 have d7:=q7'.keep2 (rb:=b5) (fb:=b6) ω2 ω2 kD
 have d8:=q8'.keep2 (rb:=b5) (fb:=b6) ω2 ω2 kD
 rw [em] at d7 d8
 obtain ⟨rs,fs,or,of,lr,lf,hrow⟩:=hD.2
 have l13:=kD.1
 have d4l:=d4.lt
 refine ⟨W,(d1.rdC 0).trans rfl,(m:Int),(d1.rdC 1).trans rfl,Al.intro fun b10 H14 e14 l14 g14 o14=>Lt.setN o14 (n:=3) ω23 rfl fun H15 l15 q10 k15=>?_⟩
 have up3:∀{b:Nat} {cs:List Value},Own H13 b cs→Own H15 b cs:=fun o=>(o.grow g14).keep (by have:=o.lt;omega) k15
 have G4:Grow H H15:=(G3.trans g14).keep (by have:=G3.1;omega) k15
 refine ⟨some ⟨b5,0,none⟩,m,1,((up3 d7).rdC 0).trans rfl,?_⟩
 refine z1bu b10 b4 b8 (some ⟨b5,0,none⟩) 1 m (fun μ t H'=>∃k:Nat,t=(k:Int)∧k≤m∧μ=m-k∧(∀i,i<k→(g i).2=true)∧z3d b10 H15 H'∧∃(a:OA) (n e:Nat),Own H' b10 [.int .i64 W,.int .i64 (m:Int),.slice a n e]∧OwnS fF H' H15.length a n e (z5g g k)) m 0 H15
  ⟨0,rfl,Nat.zero_le _,rfl,fun i hi=>absurd hi (Nat.not_lt_zero _),⟨Nat.le_refl _,fun _ _ _=>rfl⟩,none,0,0,q10,OwnS.nil _ _ _ _⟩ ?_
 intro μ t H' hI
 obtain ⟨k,rfl,hkm,rfl,hall,kp,a,n,e,ob,os⟩:=hI
 have hg64:∀i,i<m→(g i).1.length≤64:=fun i hi=>(hlen i hi).1
 have hfl:=zjh hg64 k hkm
 have hn:=os.len
 have up4:∀{b:Nat} {cs:List Value},Own H13 b cs→Own H' b cs:=fun o=>(up3 o).keep (by have:=o.lt;omega) kp
 have G5:Grow H H':=G4.keep (by have:=G3.1;omega) kp
 have c4:=up4 d4
 have lkp:=kp.1
 rw [z1bx]
 refine Br.intro (fun hc=>?_) (fun hc=>?_)
 ·have hc':=of_decide_eq_true hc
  have hkm':k<m:=by omega
  obtain ⟨hf,ra,rn,re,hr,hrl,hrb⟩:=hrow k hkm'
  have hrr:=((up4 or).rdC (0+((k:Int)).toNat*1))
  have hff:=((up4 of).rdC (0+((k:Int)).toNat*1))
  rw [Int.toNat_natCast,Nat.mul_one,Nat.zero_add] at hrr hff
  refine ⟨by omega,hc',b5,0,rfl,ra,rn,re,by rw [Int.toNat_natCast,Nat.mul_one,Nat.zero_add];exact hrr.trans hr,some ⟨b6,0,none⟩,m,1,((up4 d8).rdC 0).trans rfl,by omega,hc',b6,0,rfl,(g k).2,by rw [Int.toNat_natCast,Nat.mul_one,Nat.zero_add];exact hff.trans hf,?_⟩
  refine Br.intro (fun hg=>?_) (fun hg=>?_)
  ·have hgk:=z1e hg
   refine Lt.setN c4 (n:=3) ω23 rfl fun H16 l16 q4 k16=>?_
   rw [zm2]
   refine ⟨0,0,none,0,0,(q4.rdN ω23).trans rfl,?_⟩
   rw [zwq hkm' hgk] at hk
   exact hk none 0 0 H16 (G5.keep ω2 k16) (OwnS.nil _ _ _ _)
  ·have hgk:=z1d hg
   have h1:=(hlen k hkm').2 hgk
   have h2:=hg64 k hkm'
   have hrl':IsL fF H' ra rn (g k).1:=IsL.keepB hrl fun x hx=>by
    have hx2:x.block<H13.length:=by
     obtain ⟨b,o,ea,hcl⟩:=hrl.cell (by have:=hrl.len;omega)
     rw [hx] at ea;cases ea
     have:=hcl 0 _ (List.getElem?_eq_getElem ω2)
     unfold rdC rdB at this
     by_cases hb:b<H13.length
     ·exact hb
     ·rw [List.getElem?_eq_none ω2] at this;cases this
    have e15:H15[x.block]? =H13[x.block]? :=(k15.2 _ ω2 ω2).trans (g14.2 _ hx2)
    rw [kp.2 _ ω2 ω2,e15]
   have hrn:=hrl'.len
   refine ⟨a,n,e,(ob.rdC 2).trans rfl,_,_,os.ownB,z2m hrl',(fun _=>by omega),ω25,?_⟩
   refine Ap.appS os rfl rfl fun b13 H17 e17 l17 o17 k17=>?_
   have lo:=os.lo
   have hup:∀x,a=some x→x.block≠b10:=fun x hx=>by have:=lo x hx;omega
   have ob2:=ob.keepA hup k17
   refine Lt.set ob2 (Nat.le_of_ble_eq_true rfl) fun H18 l18 q18 k18=>?_
   refine z1bv (m-(k+1)) ω2 ⟨k+1,by rw [zt ω2 ω2];omega,by omega,rfl,fun i hi=>?_,?_,some ⟨b13,0,none⟩,n+rn,1,q18,?_⟩
   ·rcases Nat.lt_succ_iff_lt_or_eq.1 hi with hi | rfl
    ·exact hall i hi
    ·exact hgk
   ·refine ⟨by omega,fun i hi hne=>?_⟩
    rw [k18.2 i ω2 hne,k17.2 i ω2 (fun x hx=>by have:=lo x hx;omega),kp.2 i hi hne]
   ·rw [z4l]
    have:=(o17.keep (b':=b10) ω2 k18)
    exact this.ownS (by rw [List.length_append];omega) ω2
 ·have hc':=of_decide_eq_false hc
  obtain rfl:k=m:=by omega
  rw [zv4]
  have lo:=os.lo
  have hup:=os.up
  refine ⟨W,(k:Int),a,n,e,(ob.rdN (Nat.le_of_ble_eq_true rfl)).trans rfl,zt7 ⟨z5g g k,os.isL,by omega,fun H19 g19=>?_⟩⟩
  rw [zqg hall] at hk
  refine Br.intro (fun hb=>?_) (fun hb=>?_)
  ·refine Lt.setN (c4.grow g19) (n:=3) ω23 rfl fun H20 l20 q20 k20=>⟨W,(k:Int),a,n,e,(q20.rdN (Nat.le_of_ble_eq_true rfl)).trans rfl,?_⟩
   have ev:z9q W (k:Int) (z5g g k)=(W,(k:Int),z5g g k,true):=by
    rw [z4g] at hb ⊢
    cases hq:!(z1q W (k:Int) (z5g g k)) with
    | true=>rw [hq] at hb;cases hb
    | false=>rfl
   rw [ev] at hk
   exact hk a n e H20 ((G5.trans g19).keep ω2 k20) (((os.grow g19).keepA (fun x y hx hy=>by cases hx;have:=lo y hy;show b4≠_;omega) (OwnS.keep1 k20)).weak (by have:=G4.1;omega))
  ·refine Lt.setN (c4.grow g19) (n:=3) ω23 rfl fun H20 l20 q20 k20=>⟨0,0,none,0,0,(q20.rdN (Nat.le_of_ble_eq_true rfl)).trans rfl,?_⟩
   have ev:z9q W (k:Int) (z5g g k)=(0,0,[],false):=by
    rw [z4g] at hb ⊢
    cases hq:!(z1q W (k:Int) (z5g g k)) with
    | true=>rfl
    | false=>rw [hq] at hb;cases hb
   rw [ev] at hk
   exact hk none 0 0 H20 ((G5.trans g19).keep ω2 k20) (OwnS.nil _ _ _ _)
theorem z1bw:FnOkX Tryz.prog (MainCls Tryz.prog) 69 zif:=by
 refine rbOk mix_ok (fun g=>(zcv g).le fun _ _ _=>trivial) (zcv _) ω9 ω9 ω9 ?_ (fun hq=>by cases hq) ?_ (fun hq=>by cases hq) ?_
 ·intro args H K K' h hk
  simp only [zif] at *
  unfold zmx at *
  split at hk
  ·obtain ⟨l,g,il,h1,hW1,hW2,hH1,hH2,hl,hv,hlen,hch,k⟩:=hk
   exact ⟨l,g,il,h1,hW1,hW2,hH1,hH2,hl,hv,hlen,hch,fun a n e H' gg ow=>h _ _ (k a n e H' gg ow)⟩
  ·exact hk.elim
 ·intro args H K hk
  simp only [zif] at *
  unfold zmx at *
  split at hk
  ·obtain ⟨l,g,il,h1,hW1,hW2,hH1,hH2,hl,hv,hlen,hch,k⟩:=hk
   exact z4v fun a n e H1 g o=>⟨_,_,k a n e H1 g o⟩
  ·exact hk.elim
 ·intro args H K hk
  refine z1cv zcv ?_
  simp only [zif] at *
  unfold zmx at *
  split at hk
  ·exact zv3 _ _ _ _ _ _ _ _ _ H K hk
  ·exact hk.elim

def z1v (l:LN) (W:Int) (y:Nat):LN:=(l.drop ((y:Int)*W).toNat).take ((((y:Int)+1)*W-(y:Int)*W).toNat)
theorem z6l {l:LN} {W Hi:Int} {y:Nat} (h1:1≤W) (h2:W≤16) (h3:Hi≤16) (hl:(l.length:Int)=W*Hi) (hy:(y:Int)<Hi):0≤(y:Int)*W∧(y:Int)*W≤((y:Int)+1)*W∧((y:Int)+1)*W≤(l.length:Int)∧((z1v l W y).length:Int)=W:=by
 have e2:((y:Int)+1)*W=(y:Int)*W+W:=by rw [Int.add_mul,Int.one_mul]
 have s1:0≤(y:Int)*W:=Int.mul_nonneg ω2 ω2
 have s3:((y:Int)+1)*W≤(l.length:Int):=by
  rw [hl,Int.mul_comm]
  exact Int.mul_le_mul_of_nonneg_left ω2 ω2
 refine ⟨s1,by omega,s3,?_⟩
 unfold z1v
 rw [List.length_take,List.length_drop]
 omega
def z4z (sa:LN) (db:Nat) (ta ua:Int) (fa:LN) (workers:Int):Int×Int×LN×Bool:=
 bif z7e sa db then (bif z1q ta ua fa then z3f ta ua ua.toNat (fun y=>z9p (z1v fa ta y) sa db) else (0,0,[],false)) else (0,0,[],false)
def zzh (qb:OA) (wb vb db:Nat) (ta ua:Int) (oa:OA) (xa ya:Nat) (workers:Int) (H:zp) (K:Int→Int→OA→Nat→Nat→Bool→zp→Prop):Prop:=
 ∃(sa fa:LN),IsL fF H qb wb sa∧IsL fF H oa xa fa∧sa.length<1073741824∧fa.length<1073741824∧workers=1∧
  (∀(sd:OA) (ae zd:Nat),∀H':zp,Grow H H'→OwnS fF H' H.length sd ae zd ((z4z sa db ta ua fa workers).2.2.1)→K ((z4z sa db ta ua fa workers).1) ((z4z sa db ta ua fa workers).2.1) sd ae zd ((z4z sa db ta ua fa workers).2.2.2) H')
theorem z19e {qb:OA} {wb vb db:Nat} {ta ua:Int} {oa:OA} {xa ya:Nat} {workers:Int} {H:zp} {K:Int→Int→OA→Nat→Nat→Bool→zp→Prop} (h:∃(sa fa:LN),IsL fF H qb wb sa∧IsL fF H oa xa fa∧sa.length<1073741824∧fa.length<1073741824∧workers=1∧
  (∀(sd:OA) (ae zd:Nat),∀H':zp,Grow H H'→OwnS fF H' H.length sd ae zd ((z4z sa db ta ua fa workers).2.2.1)→K ((z4z sa db ta ua fa workers).1) ((z4z sa db ta ua fa workers).2.1) sd ae zd ((z4z sa db ta ua fa workers).2.2.2) H')):zzh qb wb vb db ta ua oa xa ya workers H K:=h
/-! f3z: function 27 -/
def E_f3z:Env:=envOf [(49,zys),(50,zle),(68,zc2),(69,zif)]
def F_f3z (args:List Value) (H:zp):(Value→zp→Prop)→Prop:=match args with
 | [.agg ⟨[.slice qb wb vb,.float .f32 db]⟩,.agg ⟨[.int .i64 ta,.int .i64 ua,.slice oa xa ya]⟩,.int .i64 workers]=>fun K=>zzh qb wb vb db ta ua oa xa ya workers H fun (ld:Int) (jd:Int) (ia:OA) (ma:Nat) (ja:Nat) (r2:Bool) (H':zp)=>K (.tuple #[.agg #[.int .i64 ld,.int .i64 jd,.slice ia ma ja],.bool r2]) H'
 | _=>fun _=>False
def S_f3z:FSpec:={F:=F_f3z,quiet:=false,tame:=false}
theorem f3z_vc (qb:OA) (wb vb db:Nat) (ta ua:Int) (oa:OA) (xa ya:Nat) (workers:Int) (H:zp) (K:KT):zv Tryz.prog E_f3z Tryz.f27 [.agg #[.slice qb wb vb,.float .f32 db],.agg #[.int .i64 ta,.int .i64 ua,.slice oa xa ya],.int .i64 workers] H K=
 (Al [.slice qb wb vb,.float .f32 db] H fun b1 H1=>Al [.int .i64 ta,.int .i64 ua,.slice oa xa ya] H1 fun b2 H2=>Al [.int .i64 0,.int .i64 0,.slice none 0 0] H2 fun b3 H3=>∃si:OA,∃ui:Nat,∃ti:Nat,∃c2:Nat,  rdN H3 b1 0 2=some [.slice si ui ti,.float .f32 c2]∧zoz si ui ti c2 H3 fun (r1:Bool) (H4:zp)=>Br (!r1) (isOwn H4 b3∧(∃l,rdN H4 b3 0 3=some l)∧Lt (setN H4 b3 0 [.int .i64 0,.int .i64 0,.slice none 0 0]) fun H5=>∃c3:Int,∃c4:Int,∃lj:OA,∃nj:Nat,∃mj:Nat,  rdN H5 b3 0 3=some [.int .i64 c3,.int .i64 c4,.slice lj nj mj]∧K (.tuple #[.agg #[.int .i64 c3,.int .i64 c4,.slice lj nj mj],.bool false]) H5) (∃c6:Int,∃c7:Int,∃pj:OA,∃rj:Nat,∃qj:Nat,  rdN H4 b2 0 3=some [.int .i64 c6,.int .i64 c7,.slice pj rj qj]∧zgz c6 c7 pj rj qj H4 fun (r2:Bool) (H6:zp)=>Br (!r2) (isOwn H6 b3∧(∃l,rdN H6 b3 0 3=some l)∧Lt (setN H6 b3 0 [.int .i64 0,.int .i64 0,.slice none 0 0]) fun H7=>∃c9:Int,∃c10:Int,∃xj:OA,∃zj:Nat,∃yj:Nat,  rdN H7 b3 0 3=some [.int .i64 c9,.int .i64 c10,.slice xj zj yj]∧K (.tuple #[.agg #[.int .i64 c9,.int .i64 c10,.slice xj zj yj],.bool false]) H7) (z3y workers 1 8 H6 fun (r3:Bool) (H8:zp)=>Br (!r3) (isOwn H8 b3∧(∃l,rdN H8 b3 0 3=some l)∧Lt (setN H8 b3 0 [.int .i64 0,.int .i64 0,.slice none 0 0]) fun H9=>∃c12:Int,∃c13:Int,∃rk:OA,∃tk:Nat,∃sk:Nat,  rdN H9 b3 0 3=some [.int .i64 c12,.int .i64 c13,.slice rk tk sk]∧K (.tuple #[.agg #[.int .i64 c12,.int .i64 c13,.slice rk tk sk],.bool false]) H9) (∃c15:Int,∃c16:Int,∃uk:OA,∃xk:Nat,∃vk:Nat,  rdN H8 b2 0 3=some [.int .i64 c15,.int .i64 c16,.slice uk xk vk]∧zt5 c15 c16 uk xk vk workers (.func 70) #[] #[.pointer (some ⟨b1,0,none⟩)] H8 fun (r4:Int) (r5:Int) (a1:OA) (r6:Nat) (r7:Nat) (r8:Bool) (H10:zp)=>isOwn H10 b3∧(∃l,rdN H10 b3 0 3=some l)∧Lt (setN H10 b3 0 [.int .i64 r4,.int .i64 r5,.slice a1 r6 r7]) fun H11=>∃c18:Int,∃c19:Int,∃dk:OA,∃gk:Nat,∃fk:Nat,  rdN H11 b3 0 3=some [.int .i64 c18,.int .i64 c19,.slice dk gk fk]∧K (.tuple #[.agg #[.int .i64 c18,.int .i64 c19,.slice dk gk fk],.bool r8]) H11)))):=by kernel_rfl
theorem zxu:∀g,FnOkX Tryz.prog (MainCls Tryz.prog) g (E_f3z g):=FnOkX.envOf (by
 intro x hx
 simp only [List.mem_cons,List.not_mem_nil,or_false] at hx
 rcases hx with rfl | rfl | rfl | rfl
 ·exact zvd.le fun _ _ _=>trivial
 ·exact f8z_ok.le fun _ _ _=>trivial
 ·exact za3.le fun _ _ _=>trivial
 ·exact z1bw)
theorem zld {H:zp} {c:Nat} {wa:OA} {wn we sc:Nat} {la:OA} {ln:Nat} {ws l:LN} {W Hi:Int} {m:Nat} (hm:Hi=(m:Int)) (o:Own H c [.slice wa wn we,.float .f32 sc]) (iw:IsL fF H wa wn ws) (il:IsL fF H la ln l) (bw:ws.length<1073741824)
  (h1:1≤W) (h2:W≤16) (h3:Hi≤16) (hl:(l.length:Int)=W*Hi):z14e z5q (.func (.func 70) #[] #[.pointer (some ⟨c,0,none⟩)]) H la W m (fun y=>z9p (z1v l W y) ws sc):=by
 intro y hy H1 gg K hK
 obtain ⟨f1,f2,f3,f4⟩:=z6l h1 h2 h3 hl (show (y:Int)<Hi by omega)
 refine (?_:T_f2z ((la:OA).map fun a=>⟨a.block,a.off+((y:Int)*W).toNat*1,none⟩) ((((y:Int)+1)*W-(y:Int)*W).toNat) 0 c H1 fun a n e r H'=>K (.tuple #[.slice a n e,.bool r]) H')
 have hn:=il.len
 refine ⟨wa,wn,we,sc,z1v l W y,ws,((o.grow gg).rdN (Nat.le_of_ble_eq_true rfl)).trans rfl,zbv (il.grow gg) f1 f2 ω2,iw.grow gg,by omega,bw,fun a n e H' g2 o2=>hK a n e H' g2 o2⟩
theorem zc1 {ws l:LN} {sc:Nat} {W Hi:Int} {i:Nat} (h1:1≤W) (h2:W≤16) (h3:Hi≤16) (hl:(l.length:Int)=W*Hi) (hi:(i:Int)<Hi):(z9p (z1v l W i) ws sc).1.length≤64∧((z9p (z1v l W i) ws sc).2=true→1≤(z9p (z1v l W i) ws sc).1.length):=by
 obtain ⟨f1,f2,f3,f4⟩:=z6l h1 h2 h3 hl hi
 obtain ⟨a1,a2,a3⟩:=zdk ws sc (z1v l W i)
 have a4:=zpq ws sc (z1v l W i)
 show ((z1o ws sc (z1v l W i)).1++(z1o ws sc (z1v l W i)).2.1).length≤64∧((z1o ws sc (z1v l W i)).2.2=true→1≤((z1o ws sc (z1v l W i)).1++(z1o ws sc (z1v l W i)).2.1).length)
 rw [List.length_append]
 refine ⟨by omega,fun h=>?_⟩
 obtain ⟨b1,b2⟩:=a4 h
 omega
theorem f3z_main (qb:OA) (wb vb db:Nat) (ta ua:Int) (oa:OA) (xa ya:Nat) (workers:Int) (H:zp) (K:KT) (h:zzh qb wb vb db ta ua oa xa ya workers H fun (ld:Int) (jd:Int) (ia:OA) (ma:Nat) (ja:Nat) (r2:Bool) (H':zp)=>K (.tuple #[.agg #[.int .i64 ld,.int .i64 jd,.slice ia ma ja],.bool r2]) H'):zv Tryz.prog E_f3z Tryz.f27 [.agg #[.slice qb wb vb,.float .f32 db],.agg #[.int .i64 ta,.int .i64 ua,.slice oa xa ya],.int .i64 workers] H K:=by
 rw [f3z_vc]
 obtain ⟨ws,l,iw,il,bw,bl,rfl,hk⟩:=h
 obtain rfl:=iw.eqn
 obtain rfl:=il.eqn
 have e:z4z ws db ta ua l 1=(bif z7e ws db then (bif z1q ta ua l then z3f ta ua ua.toNat (fun y=>z9p (z1v l ta y) ws db) else (0,0,[],false)) else (0,0,[],false)):=rfl
 rw [e] at hk
 refine Al.intro fun b1 H1 e1 l1 g1 o1=>Al.intro fun b2 H2 e2 l2 g2 o2=>Al.intro fun b3 H3 e3 l3 g3 o3=>?_
 have G3:Grow H H3:=(g1.trans g2).trans g3
 have p1:=(o1.grow g2).grow g3
 have p2:=o2.grow g3
 refine ⟨qb,ws.length,vb,db,(p1.rdN (Nat.le_of_ble_eq_true rfl)).trans rfl,zlf ⟨ws,iw.grow G3,bw,fun H4 g4=>?_⟩⟩
 refine Br.intro (fun hv=>?_) (fun hv=>?_)
 ·refine Lt.setN (o3.grow g4) (n:=3) ω23 rfl fun H5 l5 q5 k5=>⟨0,0,none,0,0,(q5.rdN (Nat.le_of_ble_eq_true rfl)).trans rfl,?_⟩
  rw [z1e hv,cond_false] at hk
  exact hk none 0 0 H5 ((G3.trans g4).keep ω2 k5) (OwnS.nil _ _ _ _)
 rw [z1d hv,cond_true] at hk
 refine ⟨ta,ua,oa,l.length,ya,((p2.grow g4).rdN (Nat.le_of_ble_eq_true rfl)).trans rfl,zbk ⟨l,il.grow (G3.trans g4),bl,fun H6 g6=>?_⟩⟩
 refine Br.intro (fun hp=>?_) (fun hp=>?_)
 ·refine Lt.setN ((o3.grow g4).grow g6) (n:=3) ω23 rfl fun H7 l7 q7 k7=>⟨0,0,none,0,0,(q7.rdN (Nat.le_of_ble_eq_true rfl)).trans rfl,?_⟩
  rw [z1e hp,cond_false] at hk
  exact hk none 0 0 H7 (((G3.trans g4).trans g6).keep ω2 k7) (OwnS.nil _ _ _ _)
 have hpv:=z1d hp
 rw [hpv,cond_true] at hk
 obtain ⟨w1,w2,w3,w4,w5,w6,w7⟩:=f8z_t hpv
 refine (?_:z3y 1 1 8 H6 _)
 unfold z3y
 rw [show z3b 1 1 8=true from rfl]
 refine Br.intro (fun h=>by cases h) (fun _=>?_)
 have G6:Grow H H6:=(G3.trans g4).trans g6
 obtain ⟨m,rfl⟩:∃m:Nat,ua=(m:Int):=⟨ua.toNat,by omega⟩
 refine ⟨ta,(m:Int),oa,l.length,ya,(((p2.grow g4).grow g6).rdN (Nat.le_of_ble_eq_true rfl)).trans rfl,?_⟩
 refine ⟨l,fun y=>z9p (z1v l ta y) ws db,il.grow G6,rfl,w1,w2,w3,w4,w5,rfl,fun i hi=>zc1 w1 w2 w4 w5 ω2,zld (Hi:=(m:Int)) ω2 ((p1.grow g4).grow g6) (iw.grow G6) (il.grow G6) bw w1 w2 w4 w5,fun a n e' H10 g10 o10=>?_⟩
 have q3:=((o3.grow g4).grow g6).grow g10
 refine Lt.setN q3 (n:=3) (Nat.le_of_ble_eq_true rfl) rfl fun H11 l11 q11 k11=>⟨_,_,a,n,e',(q11.rdN (Nat.le_of_ble_eq_true rfl)).trans rfl,?_⟩
 have lo:=o10.lo
 have hle:=G6.1
 refine hk a n e' H11 ((G6.trans g10).keep ω2 k11) ((o10.keepA (fun x y hx hy=>by cases hx;have:=lo y hy;have:=(o3.grow g4).lt;have:=g6.1;show b3≠_;omega) (OwnS.keep1 k11)).weak hle)
theorem f3z_ok:FnOkX Tryz.prog (MainCls Tryz.prog) 27 S_f3z:=FnOkX.bodyF (hLt:=fun _=>z3j) mix_ok zxu Tryz.func27 rfl ω9 ω9 fun args H=>by
 unfold F_f3z
 split
 ·refine ⟨?_,?_,?_,?_,fun K hk=>f3z_main _ _ _ _ _ _ _ _ _ _ H K hk⟩
  ·intro K K' h hk;obtain ⟨sa,fa,i_s,i_p,b_s,b_p,hw,k⟩:=hk;exact ⟨sa,fa,i_s,i_p,b_s,b_p,hw,(fun sd ae zd H' gg ow0=>h _ _ (k sd ae zd H' gg ow0))⟩
  ·nofun
  ·intro K hk;obtain ⟨sa,fa,i_s,i_p,b_s,b_p,hw,k⟩:=hk;exact z4v fun a n e H1 g o=>⟨_,_,k a n e H1 g o⟩
  ·nofun
 ·exact Nice.no

def z2x (sa:LN) (db:Nat) (ta ua:Int) (fa:LN):Int×Int×LN×Bool:=((z4z sa db ta ua fa (1:Int)).1,(z4z sa db ta ua fa (1:Int)).2.1,(z4z sa db ta ua fa (1:Int)).2.2.1,(z4z sa db ta ua fa (1:Int)).2.2.2)
def zb3:=@z2x.eq_1
def zn3 (qb:OA) (wb vb db:Nat) (ta ua:Int) (oa:OA) (xa ya:Nat) (H:zp) (K:Int→Int→OA→Nat→Nat→Bool→zp→Prop):Prop:=∃(sa fa:LN),IsL fF H qb wb sa∧IsL fF H oa xa fa∧sa.length<1073741824∧fa.length<1073741824∧((∀(ia:OA) (ma ja:Nat),∀H':zp,Grow H H'→OwnS fF H' H.length ia ma ja ((z2x sa db ta ua fa).2.2.1)→K ((z2x sa db ta ua fa).1) ((z2x sa db ta ua fa).2.1) ia ma ja ((z2x sa db ta ua fa).2.2.2) H'))
theorem zyy {qb:OA} {wb vb db:Nat} {ta ua:Int} {oa:OA} {xa ya:Nat} {H:zp} {K:Int→Int→OA→Nat→Nat→Bool→zp→Prop} (h:∃(sa fa:LN),IsL fF H qb wb sa∧IsL fF H oa xa fa∧sa.length<1073741824∧fa.length<1073741824∧((∀(ia:OA) (ma ja:Nat),∀H':zp,Grow H H'→OwnS fF H' H.length ia ma ja ((z2x sa db ta ua fa).2.2.1)→K ((z2x sa db ta ua fa).1) ((z2x sa db ta ua fa).2.1) ia ma ja ((z2x sa db ta ua fa).2.2.2) H'))):zn3 qb wb vb db ta ua oa xa ya H K:=h
theorem zqh {W Hi:Int} {m:Nat} {g:Nat→LN×Bool} (hm:m≤16) (h:∀i,i<m→(g i).1.length≤64):(z3f W Hi m g).2.2.1.length≤1024:=by
 unfold z3f
 have:=zjh h m (Nat.le_refl _)
 cases (List.range m).all (fun i=>(g i).2) with
 | false=>simp
 | true=>
  rw [cond_true,z4g]
  cases !(z1q W Hi (z5g g m)) with
  | true=>simp
  | false=>simp only [cond_false];omega
theorem f18z_len (ws:LN) (sc:Nat) (W Hi:Int) (l:LN):(z2x ws sc W Hi l).2.2.1.length≤1024:=by
 rw [zb3]
 show (z4z ws sc W Hi l 1).2.2.1.length≤1024
 unfold z4z
 cases z7e ws sc with
 | false=>simp
 | true=>
  rw [cond_true]
  cases h:z1q W Hi l with
  | false=>simp
  | true=>
   rw [cond_true]
   obtain ⟨h1,h2,h3,h4,h5,_⟩:=f8z_t h
   exact zqh ω2 fun i hi=>(zc1 h1 h2 h4 h5 ω2).1
/-! f18z: function 26 -/
def zrn:Env:=envOf [(27,S_f3z)]
def z14o (args:List Value) (H:zp):(Value→zp→Prop)→Prop:=match args with
 | [.agg ⟨[.slice qb wb vb,.float .f32 db]⟩,.agg ⟨[.int .i64 ta,.int .i64 ua,.slice oa xa ya]⟩]=>fun K=>zn3 qb wb vb db ta ua oa xa ya H fun (ld:Int) (jd:Int) (ia:OA) (ma:Nat) (ja:Nat) (r2:Bool) (H':zp)=>K (.tuple #[.agg #[.int .i64 ld,.int .i64 jd,.slice ia ma ja],.bool r2]) H'
 | _=>fun _=>False
def z15w:FSpec:={F:=z14o,quiet:=false,tame:=true}
theorem f18z_vc (qb:OA) (wb vb db:Nat) (ta ua:Int) (oa:OA) (xa ya:Nat) (H:zp) (K:KT):zv Tryz.prog zrn Tryz.f26 [.agg #[.slice qb wb vb,.float .f32 db],.agg #[.int .i64 ta,.int .i64 ua,.slice oa xa ya]] H K=
 (Al [.slice qb wb vb,.float .f32 db] H fun b1 H1=>Al [.int .i64 ta,.int .i64 ua,.slice oa xa ya] H1 fun b2 H2=>Al [.int .i64 0,.int .i64 0,.slice none 0 0] H2 fun b3 H3=>∃si:OA,∃ui:Nat,∃ti:Nat,∃c2:Nat,  rdN H3 b1 0 2=some [.slice si ui ti,.float .f32 c2]∧∃c3:Int,∃c4:Int,∃lj:OA,∃nj:Nat,∃mj:Nat,  rdN H3 b2 0 3=some [.int .i64 c3,.int .i64 c4,.slice lj nj mj]∧zzh si ui ti c2 c3 c4 lj nj mj 1 H3 fun (r1:Int) (r2:Int) (a1:OA) (r3:Nat) (r4:Nat) (r5:Bool) (H4:zp)=>isOwn H4 b3∧(∃l,rdN H4 b3 0 3=some l)∧Lt (setN H4 b3 0 [.int .i64 r1,.int .i64 r2,.slice a1 r3 r4]) fun H5=>∃c6:Int,∃c7:Int,∃pj:OA,∃rj:Nat,∃qj:Nat,  rdN H5 b3 0 3=some [.int .i64 c6,.int .i64 c7,.slice pj rj qj]∧K (.tuple #[.agg #[.int .i64 c6,.int .i64 c7,.slice pj rj qj],.bool r5]) H5):=by kernel_rfl
theorem zro:∀g,FnOkX Tryz.prog (MainCls Tryz.prog) g (zrn g):=FnOkX.envOf (by
 intro x hx
 simp only [List.mem_cons,List.not_mem_nil,or_false] at hx
 subst hx;exact f3z_ok)
theorem f18z_main (qb:OA) (wb vb db:Nat) (ta ua:Int) (oa:OA) (xa ya:Nat) (H:zp) (K:KT) (h:zn3 qb wb vb db ta ua oa xa ya H fun (ld:Int) (jd:Int) (ia:OA) (ma:Nat) (ja:Nat) (r2:Bool) (H':zp)=>K (.tuple #[.agg #[.int .i64 ld,.int .i64 jd,.slice ia ma ja],.bool r2]) H'):zv Tryz.prog zrn Tryz.f26 [.agg #[.slice qb wb vb,.float .f32 db],.agg #[.int .i64 ta,.int .i64 ua,.slice oa xa ya]] H K:=by
 rw [f18z_vc]
 obtain ⟨sa,fa,xf,ve,bd_66,bd_67,hk⟩:=h
 obtain rfl:=xf.eqn
 obtain rfl:=ve.eqn
 have e:(z2x sa db ta ua fa)=_:=rfl
 have e:=e.trans (zb3 sa db ta ua fa)
 have g0:=Grow.refl H
 refine Al.intro (fun b_1 H_1 hb_2 hl_3 g_4 o_5=>?_)
 have l_7:=g_4.1
 have g_8:=g0.trans g_4
 have l_9:=g_8.1
 have w65:=o_5.lt
 refine Al.intro (fun b_10 H_2 hb_11 hl_12 g_13 o_14=>?_)
 have l_16:=g_13.1
 have g_17:=g_8.trans g_13
 have l_18:=g_17.1
 have o_19:=o_5.grow g_13
 have w20:=o_19.lt
 have w64:=o_14.lt
 refine Al.intro (fun b_21 H_3 hb_22 hl_23 g24 o25=>?_)
 have l27:=g24.1
 have g28:=g_17.trans g24
 have l29:=g28.1
 have o30:=o_19.grow g24
 have w31:=o30.lt
 have o32:=o_14.grow g24
 have w33:=o32.lt
 have w63:=o25.lt
 refine ⟨qb,sa.length,vb,db,(o30.rdN (Nat.le_of_ble_eq_true rfl)).trans rfl,?_⟩
 refine ⟨ta,ua,oa,fa.length,ya,(o32.rdN (Nat.le_of_ble_eq_true rfl)).trans rfl,?_⟩
 refine z19e ⟨_,_,(xf.grow g28),(ve.grow g28),ω0,ω0,ω14,fun a34 n35 e36 H_4 g38 r_37=>?_⟩
 have l39:=g38.1
 have g40:=g28.trans g38
 have l41:=g40.1
 have o42:=o30.grow g38
 have w43:=o42.lt
 have o44:=o32.grow g38
 have w45:=o44.lt
 have o46:=o25.grow g38
 have w47:=o46.lt
 obtain rfl:=r_37.isL.eqn
 have u48:=r_37.up
 have u49:=r_37.lo
 refine Lt.setN (n:=3) o46 (Nat.le_of_ble_eq_true rfl) rfl (fun H_5 hl_51 o53 k52=>?_)
 have o53:Own H_5 b_21 [.int .i64 ((z4z sa db ta ua fa (1:Int)).1),.int .i64 ((z4z sa db ta ua fa (1:Int)).2.1),.slice a34 (((z4z sa db ta ua fa (1:Int)).2.2.1).length) e36]:=o53
 have l54:=k52.1
 have g55:=g40.keep (b:=b_21) ω2 k52
 have l56:=g55.1
 have o57:=o42.keep ω2 k52
 have w58:=o57.lt
 have o59:=o44.keep ω2 k52
 have w60:=o59.lt
 have r61:=r_37.keep u48 ω2 k52
 have w62:=o53.lt
 refine ⟨(z4z sa db ta ua fa (1:Int)).1,(z4z sa db ta ua fa (1:Int)).2.1,a34,((z4z sa db ta ua fa (1:Int)).2.2.1).length,e36,(o53.rdN (Nat.le_of_ble_eq_true rfl)).trans rfl,?_⟩
 rw [e] at hk
 exact hk _ _ _ H_5 g55 (r61.weak ω2)
theorem f18z_ok:FnOkX Tryz.prog (MainCls Tryz.prog) 26 z15w:=FnOkX.bodyF (hLt:=fun _=>z3j) mix_ok zro Tryz.func26 rfl ω9 ω9 fun args H=>by
 unfold z14o
 split
 ·refine ⟨?_,?_,?_,?_,fun K hk=>f18z_main _ _ _ _ _ _ _ _ _ H K hk⟩
  ·intro K K' h hk;obtain ⟨sa,fa,xf,ve,bd_66,bd_67,k⟩:=hk;exact ⟨sa,fa,xf,ve,bd_66,bd_67,(fun ia ma ja H' gg ow0=>h _ _ (k ia ma ja H' gg ow0))⟩
  ·nofun
  ·intro K hk;obtain ⟨sa,fa,xf,ve,bd_66,bd_67,k⟩:=hk;exact z4v fun a n e H1 g o=>⟨_,_,k a n e H1 g o⟩
  ·intro _ K hk;obtain ⟨sa,fa,xf,ve,bd_66,bd_67,k⟩:=hk;exact ⟨sa,fa,xf,ve,bd_66,bd_67,(fun ia ma ja H' gg ow0=>⟨gg,k ia ma ja H' gg ow0⟩)⟩
 ·exact Nice.no

def zqa (ta ua:Int) (fa xb:LN) (cd:Nat):Int×Int×LN×Bool:=((z2x xb cd ta ua fa).1,(z2x xb cd ta ua fa).2.1,(z2x xb cd ta ua fa).2.2.1,(z2x xb cd ta ua fa).2.2.2)
def z12x:=@zqa.eq_1
def T_f5z (ta ua:Int) (oa:OA) (xa ya cap0:Nat) (H:zp) (K:Int→Int→OA→Nat→Nat→Bool→zp→Prop):Prop:=∃(nf:OA),∃(vf uf cd:Nat),∃(fa xb:LN),rdN H cap0 0 2=some [.slice nf vf uf,.float .f32 cd]∧IsL fF H oa xa fa∧IsL fF H nf vf xb∧fa.length<1073741824∧xb.length<1073741824∧((∀(ia:OA) (ma ja:Nat),∀H':zp,Grow H H'→OwnS fF H' H.length ia ma ja ((zqa ta ua fa xb cd).2.2.1)→K ((zqa ta ua fa xb cd).1) ((zqa ta ua fa xb cd).2.1) ia ma ja ((zqa ta ua fa xb cd).2.2.2) H'))
/-! f5z: function 63 -/
def E_f5z:Env:=envOf [(26,z15w)]
def F_f5z (args:List Value) (H:zp):(Value→zp→Prop)→Prop:=match args with
 | [.agg ⟨[.int .i64 ta,.int .i64 ua,.slice oa xa ya]⟩,.pointer (some ⟨cap0,0,none⟩)]=>fun K=>T_f5z ta ua oa xa ya cap0 H fun (ld:Int) (jd:Int) (ia:OA) (ma:Nat) (ja:Nat) (r2:Bool) (H':zp)=>K (.tuple #[.agg #[.int .i64 ld,.int .i64 jd,.slice ia ma ja],.bool r2]) H'
 | _=>fun _=>False
def S_f5z:FSpec:={F:=F_f5z,quiet:=false,tame:=true}
theorem f5z_vc (ta ua:Int) (oa:OA) (xa ya cap0:Nat) (H:zp) (K:KT):zv Tryz.prog E_f5z Tryz.f63 [.agg #[.int .i64 ta,.int .i64 ua,.slice oa xa ya],.pointer (some ⟨cap0,0,none⟩)] H K=
 (Al [.int .i64 ta,.int .i64 ua,.slice oa xa ya] H fun b1 H1=>Al [.int .i64 0,.int .i64 0,.slice none 0 0] H1 fun b2 H2=>∃si:OA,∃ui:Nat,∃ti:Nat,∃c2:Nat,  rdN H2 cap0 0 2=some [.slice si ui ti,.float .f32 c2]∧∃c3:Int,∃c4:Int,∃lj:OA,∃nj:Nat,∃mj:Nat,  rdN H2 b1 0 3=some [.int .i64 c3,.int .i64 c4,.slice lj nj mj]∧zn3 si ui ti c2 c3 c4 lj nj mj H2 fun (r1:Int) (r2:Int) (a1:OA) (r3:Nat) (r4:Nat) (r5:Bool) (H3:zp)=>isOwn H3 b2∧(∃l,rdN H3 b2 0 3=some l)∧Lt (setN H3 b2 0 [.int .i64 r1,.int .i64 r2,.slice a1 r3 r4]) fun H4=>∃c6:Int,∃c7:Int,∃pj:OA,∃rj:Nat,∃qj:Nat,  rdN H4 b2 0 3=some [.int .i64 c6,.int .i64 c7,.slice pj rj qj]∧K (.tuple #[.agg #[.int .i64 c6,.int .i64 c7,.slice pj rj qj],.bool r5]) H4):=by kernel_rfl
theorem zxw:∀g,FnOkX Tryz.prog (MainCls Tryz.prog) g (E_f5z g):=FnOkX.envOf (by
 intro x hx
 simp only [List.mem_cons,List.not_mem_nil,or_false] at hx
 subst hx;exact f18z_ok)
theorem f5z_main (ta ua:Int) (oa:OA) (xa ya cap0:Nat) (H:zp) (K:KT) (h:T_f5z ta ua oa xa ya cap0 H fun (ld:Int) (jd:Int) (ia:OA) (ma:Nat) (ja:Nat) (r2:Bool) (H':zp)=>K (.tuple #[.agg #[.int .i64 ld,.int .i64 jd,.slice ia ma ja],.bool r2]) H'):zv Tryz.prog E_f5z Tryz.f63 [.agg #[.int .i64 ta,.int .i64 ua,.slice oa xa ya],.pointer (some ⟨cap0,0,none⟩)] H K:=by
 rw [f5z_vc]
 obtain ⟨nf,vf,uf,cd,fa,xb,i_cap0,ve,dg,bd_49,bd_50,hk⟩:=h
 obtain rfl:=ve.eqn
 obtain rfl:=dg.eqn
 have e:(zqa ta ua fa xb cd)=_:=rfl
 have e:=e.trans (z12x ta ua fa xb cd)
 have g0:=Grow.refl H
 refine Al.intro (fun b_1 H_1 hb_2 hl_3 g_4 o_5=>?_)
 have l_7:=g_4.1
 have g_8:=g0.trans g_4
 have l_9:=g_8.1
 have w48:=o_5.lt
 refine Al.intro (fun b_10 H_2 hb_11 hl_12 g_13 o_14=>?_)
 have l_16:=g_13.1
 have g_17:=g_8.trans g_13
 have l_18:=g_17.1
 have o_19:=o_5.grow g_13
 have w20:=o_19.lt
 have w47:=o_14.lt
 refine ⟨nf,xb.length,uf,cd,zr g_17 i_cap0,?_⟩
 refine ⟨ta,ua,oa,fa.length,ya,(o_19.rdN (Nat.le_of_ble_eq_true rfl)).trans rfl,?_⟩
 refine zyy ⟨_,_,(dg.grow g_17),(ve.grow g_17),ω0,ω0,fun a21 n22 e23 H_3 g26 r_24=>?_⟩
 have z25:=f18z_len xb cd ta ua fa
 have l27:=g26.1
 have g28:=g_17.trans g26
 have l29:=g28.1
 have o30:=o_19.grow g26
 have w31:=o30.lt
 have o32:=o_14.grow g26
 have w33:=o32.lt
 obtain rfl:=r_24.isL.eqn
 have u34:=r_24.up
 have u35:=r_24.lo
 refine Lt.setN (n:=3) o32 (Nat.le_of_ble_eq_true rfl) rfl (fun H_4 hl_37 o39 k38=>?_)
 have o39:Own H_4 b_10 [.int .i64 ((z2x xb cd ta ua fa).1),.int .i64 ((z2x xb cd ta ua fa).2.1),.slice a21 (((z2x xb cd ta ua fa).2.2.1).length) e23]:=o39
 have l40:=k38.1
 have g41:=g28.keep (b:=b_10) ω2 k38
 have l42:=g41.1
 have o43:=o30.keep ω2 k38
 have w44:=o43.lt
 have r_45:=r_24.keep u34 ω2 k38
 have w46:=o39.lt
 refine ⟨(z2x xb cd ta ua fa).1,(z2x xb cd ta ua fa).2.1,a21,((z2x xb cd ta ua fa).2.2.1).length,e23,(o39.rdN (Nat.le_of_ble_eq_true rfl)).trans rfl,?_⟩
 rw [e] at hk
 exact hk _ _ _ H_4 g41 (r_45.weak ω2)
theorem f5z_ok:FnOkX Tryz.prog (MainCls Tryz.prog) 63 S_f5z:=FnOkX.bodyF (hLt:=fun _=>z3j) mix_ok zxw Tryz.func63 rfl ω9 ω9 fun args H=>by
 unfold F_f5z
 split
 ·refine ⟨?_,?_,?_,?_,fun K hk=>f5z_main _ _ _ _ _ _ H K hk⟩
  ·intro K K' h hk;obtain ⟨nf,vf,uf,cd,fa,xb,i_cap0,ve,dg,bd_49,bd_50,k⟩:=hk;exact ⟨nf,vf,uf,cd,fa,xb,i_cap0,ve,dg,bd_49,bd_50,(fun ia ma ja H' gg ow0=>h _ _ (k ia ma ja H' gg ow0))⟩
  ·nofun
  ·intro K hk;obtain ⟨nf,vf,uf,cd,fa,xb,i_cap0,ve,dg,bd_49,bd_50,k⟩:=hk;exact z4v fun a n e H1 g o=>⟨_,_,k a n e H1 g o⟩
  ·intro _ K hk;obtain ⟨nf,vf,uf,cd,fa,xb,i_cap0,ve,dg,bd_49,bd_50,k⟩:=hk;exact ⟨nf,vf,uf,cd,fa,xb,i_cap0,ve,dg,bd_49,bd_50,(fun ia ma ja H' gg ow0=>⟨gg,k ia ma ja H' gg ow0⟩)⟩
 ·exact Nice.no
def swapF (l:LN) (W x y:Int):Nat:=l.getD (x*W+y).toNat 0
def z7v (ta ua:Int) (fa:LN):Int×Int×LN×Bool:=bif z1q ta ua fa then z8z ua ta (swapF fa ta) else (0,0,[],false)
def ztm (ta ua:Int) (oa:OA) (xa ya:Nat) (H:zp) (K:Int→Int→OA→Nat→Nat→Bool→zp→Prop):Prop:=
 ∃(fa:LN),IsL fF H oa xa fa∧fa.length<1073741824∧
  (∀(sd:OA) (ae zd:Nat),∀H':zp,Grow H H'→OwnS fF H' H.length sd ae zd ((z7v ta ua fa).2.2.1)→K ((z7v ta ua fa).1) ((z7v ta ua fa).2.1) sd ae zd ((z7v ta ua fa).2.2.2) H')
theorem ztn {ta ua:Int} {oa:OA} {xa ya:Nat} {H:zp} {K:Int→Int→OA→Nat→Nat→Bool→zp→Prop} (h:∃(fa:LN),IsL fF H oa xa fa∧fa.length<1073741824∧
  (∀(sd:OA) (ae zd:Nat),∀H':zp,Grow H H'→OwnS fF H' H.length sd ae zd ((z7v ta ua fa).2.2.1)→K ((z7v ta ua fa).1) ((z7v ta ua fa).2.1) sd ae zd ((z7v ta ua fa).2.2.2) H')):ztm ta ua oa xa ya H K:=h
theorem zvs (W Hi:Int) (l:LN):((z7v W Hi l).2.2.1.length:Int)≤256:=by
 unfold z7v
 cases z1q W Hi l with
 | false=>show ((0:Nat):Int)≤256;omega
 | true=>exact zbg _ _ _
/-! fqz: function 38 -/
def E_fqz:Env:=envOf [(50,zle),(82,S_fuz)]
def F_fqz (args:List Value) (H:zp):(Value→zp→Prop)→Prop:=match args with
 | [.agg ⟨[.int .i64 ta,.int .i64 ua,.slice oa xa ya]⟩]=>fun K=>ztm ta ua oa xa ya H fun (ld:Int) (jd:Int) (ia:OA) (ma:Nat) (ja:Nat) (r2:Bool) (H':zp)=>K (.tuple #[.agg #[.int .i64 ld,.int .i64 jd,.slice ia ma ja],.bool r2]) H'
 | _=>fun _=>False
def S_fqz:FSpec:={F:=F_fqz,quiet:=false,tame:=true}
theorem z1h5 (ta ua:Int) (oa:OA) (xa ya:Nat) (H:zp) (K:KT):zv Tryz.prog E_fqz Tryz.f38 [.agg #[.int .i64 ta,.int .i64 ua,.slice oa xa ya]] H K=
 (Al [.int .i64 ta,.int .i64 ua,.slice oa xa ya] H fun b1 H1=>Al [.int .i64 0,.int .i64 0,.slice none 0 0] H1 fun b2 H2=>∃c1:Int,∃c2:Int,∃zg:OA,∃bh:Nat,∃ah:Nat,  rdN H2 b1 0 3=some [.int .i64 c1,.int .i64 c2,.slice zg bh ah]∧zgz c1 c2 zg bh ah H2 fun (r1:Bool) (H3:zp)=>Br (!r1) (isOwn H3 b2∧(∃l,rdN H3 b2 0 3=some l)∧Lt (setN H3 b2 0 [.int .i64 0,.int .i64 0,.slice none 0 0]) fun H4=>∃c4:Int,∃c5:Int,∃kh:OA,∃mh:Nat,∃lh:Nat,  rdN H4 b2 0 3=some [.int .i64 c4,.int .i64 c5,.slice kh mh lh]∧K (.tuple #[.agg #[.int .i64 c4,.int .i64 c5,.slice kh mh lh],.bool false]) H4) (∃x1:Int,  rdC H3 b1 1=some (.int .i64 x1)∧∃x2:Int,  rdC H3 b1 0=some (.int .i64 x2)∧ztp x1 x2 (.func 84) #[] #[.pointer (some ⟨b1,0,none⟩)] H3 fun (r2:Int) (r3:Int) (a1:OA) (r4:Nat) (r5:Nat) (r6:Bool) (H5:zp)=>isOwn H5 b2∧(∃l,rdN H5 b2 0 3=some l)∧Lt (setN H5 b2 0 [.int .i64 r2,.int .i64 r3,.slice a1 r4 r5]) fun H6=>∃c7:Int,∃c8:Int,∃wh:OA,∃yh:Nat,∃xh:Nat,  rdN H6 b2 0 3=some [.int .i64 c7,.int .i64 c8,.slice wh yh xh]∧K (.tuple #[.agg #[.int .i64 c7,.int .i64 c8,.slice wh yh xh],.bool r6]) H6)):=by kernel_rfl
theorem zyh:∀g,FnOk Tryz.prog g (E_fqz g):=FnOk.envOf (by
 intro x hx
 simp only [List.mem_cons,List.not_mem_nil,or_false] at hx
 rcases hx with rfl | rfl
 ·exact f8z_ok
 ·exact z17g)
theorem zig {H:zp} {b:Nat} {la:OA} {ln le:Nat} {l:LN} {W Hi:Int} (o:Own H b [.int .i64 W,.int .i64 Hi,.slice la ln le]) (il:IsL fF H la ln l) (bl:l.length<1073741824) (h2:W≤16) (h4:Hi≤16) (hl:(l.length:Int)=W*Hi):
  zgt z5t (.func (.func 84) #[] #[.pointer (some ⟨b,0,none⟩)]) H Hi W (swapF l W):=by
 intro u v u0 u1 v0 v1 _ _ H1 gg K hK
 refine (?_:T_fez u v b H1 fun r H'=>K (.float .f32 r) H')
 exact ⟨W,Hi,la,ln,le,l,((o.grow gg).rdN (Nat.le_of_ble_eq_true rfl)).trans rfl,il.grow gg,bl,u0,v0,u1,v1,h2,h4,hl,hK H1 (Grow.refl H1)⟩
theorem z11r (ta ua:Int) (oa:OA) (xa ya:Nat) (H:zp) (K:KT) (h:ztm ta ua oa xa ya H fun (ld:Int) (jd:Int) (ia:OA) (ma:Nat) (ja:Nat) (r2:Bool) (H':zp)=>K (.tuple #[.agg #[.int .i64 ld,.int .i64 jd,.slice ia ma ja],.bool r2]) H'):zv Tryz.prog E_fqz Tryz.f38 [.agg #[.int .i64 ta,.int .i64 ua,.slice oa xa ya]] H K:=by
 rw [z1h5]
 obtain ⟨l,il,bl,hk⟩:=h
 obtain rfl:=il.eqn
 have ep:z7v ta ua l=(bif z1q ta ua l then z8z ua ta (swapF l ta) else (0,0,[],false)):=rfl
 rw [ep] at hk
 refine Al.intro fun b1 H1 e1 l1 g1 o1=>Al.intro fun b2 H2 e2 l2 g2 o2=>?_
 have p1:=o1.grow g2
 have G2:Grow H H2:=g1.trans g2
 refine ⟨ta,ua,oa,l.length,ya,(p1.rdN (Nat.le_of_ble_eq_true rfl)).trans rfl,zbk ⟨l,il.grow G2,bl,fun H3 g3=>?_⟩⟩
 have q2:=o2.grow g3
 refine Br.intro (fun hp=>?_) (fun hp=>?_)
 ·refine Lt.setN q2 (n:=3) ω23 rfl fun H4 l4 q4 k4=>⟨0,0,none,0,0,(q4.rdN (Nat.le_of_ble_eq_true rfl)).trans rfl,?_⟩
  rw [z1e hp,cond_false] at hk
  exact hk none 0 0 H4 ((G2.trans g3).keep ω2 k4) (OwnS.nil _ _ _ _)
 have hpv:=z1d hp
 rw [hpv,cond_true] at hk
 obtain ⟨w1,w2,w3,w4,w5,w6,w7⟩:=f8z_t hpv
 have q1:=p1.grow g3
 have G3:Grow H H3:=G2.trans g3
 refine ⟨ua,(q1.rdC 1).trans rfl,ta,(q1.rdC 0).trans rfl,ztq ⟨swapF l ta,rfl,zig q1 (il.grow G3) bl w2 w4 w5,fun a n e H5 g5 o5=>?_⟩⟩
 have lo:=o5.lo
 have hle:=G3.1
 refine Lt.setN (q2.grow g5) (n:=3) ω23 rfl fun H6 l6 q6 k6=>⟨_,_,a,n,e,(q6.rdN (Nat.le_of_ble_eq_true rfl)).trans rfl,?_⟩
 exact hk a n e H6 ((G3.trans g5).keep ω2 k6) ((o5.keepA (fun x y hx hy=>by cases hx;have:=lo y hy;have:=q2.lt;show b2≠_;omega) (OwnS.keep1 k6)).weak hle)
theorem z1h4:FnOk Tryz.prog 38 S_fqz:=FnOk.bodyF mix_ok zyh Tryz.func38 rfl ω9 ω9 fun args H=>by
 unfold F_fqz
 split
 ·refine ⟨?_,?_,?_,?_,fun K hk=>z11r _ _ _ _ _ H K hk⟩
  ·intro K K' h hk;obtain ⟨l,i,b,k⟩:=hk;exact ⟨l,i,b,(fun sd ae zd H' gg ow0=>h _ _ (k sd ae zd H' gg ow0))⟩
  ·nofun
  ·intro K hk;obtain ⟨l,i,b,k⟩:=hk;exact z4v fun a n e H1 g o=>⟨_,_,k a n e H1 g o⟩
  ·intro _ K hk;obtain ⟨l,i,b,k⟩:=hk;exact ⟨l,i,b,(fun sd ae zd H' gg ow0=>⟨gg,k sd ae zd H' gg ow0⟩)⟩
 ·exact Nice.no

def zch (env:Env) (x:Value) (H:zp) (ch:Int→Int→LN→PicT):Prop:=
 ∀(W Hi:Int) (la:OA) (ln le:Nat) (l:LN) (H1:zp),Grow H H1→IsL fF H1 la ln l→l.length<1073741824→∀K:Value→zp→Prop,
  (∀(a:OA) (n e:Nat) (H2:zp),Grow H1 H2→OwnS fF H2 H1.length a n e (ch W Hi l).2.2.1→K (.tuple #[.agg #[.int .i64 (ch W Hi l).1,.int .i64 (ch W Hi l).2.1,.slice a n e],.bool (ch W Hi l).2.2.2]) H2)→
  zev env x [.agg #[.int .i64 W,.int .i64 Hi,.slice la ln le]] H1 K
theorem zch.grow {env:Env} {x:Value} {H H':zp} {ch:Int→Int→LN→PicT} (h:zch env x H ch) (g:Grow H H'):zch env x H' ch:=
 fun W Hi la ln le l H1 g1=>h W Hi la ln le l H1 (g.trans g1)
theorem ext0 {u v:Value} {K:Value→Prop}:extV (.tuple #[u,v]) 0 K=K u:=rfl
theorem ext1 {u v:Value} {K:Value→Prop}:extV (.tuple #[u,v]) 1 K=K v:=rfl
theorem zxm {r:Bool} {F:Bool→Prop}:(unK .not (.bool r) fun w=>za1 w F)=F (!r):=rfl
def z6a (ch:Int→Int→LN→PicT) (W Hi:Int) (l:LN):PicT:=z5k (z7v W Hi l) fun a b c=>z5k (ch a b c) fun a b c=>z7v a b c
theorem z10h (ch:Int→Int→LN→PicT) (W Hi:Int) (l:LN):(z6a ch W Hi l).2.2.1.length≤1024:=by
 unfold z6a
 generalize z7v W Hi l=q
 cases h:q.2.2.2 with
 | false=>rw [z3n h];exact Nat.zero_le _
 | true=>
  rw [z1r h]
  generalize ch q.1 q.2.1 q.2.2.1=r
  cases h2:r.2.2.2 with
  | false=>rw [z3n h2];exact Nat.zero_le _
  | true=>
   rw [z1r h2]
   have:=zvs r.1 r.2.1 r.2.2.1
   omega
/-! f1iz: function 57 -/
def zc0:Env:=envOf [(38,S_fqz),(63,S_f5z)]
def zn9 (ta ua:Int) (oa:OA) (xa ya:Nat) (change_f:Fn) (change_x:Array Value) (change_y:Array Value) (H:zp) (K:Int→Int→OA→Nat→Nat→Bool→zp→Prop):Prop:=
 ∃(l:LN) (ch:Int→Int→LN→PicT),IsL fF H oa xa l∧l.length<1073741824∧(∀W Hi l,(ch W Hi l).2.2.1.length≤1024)∧zch zc0 (.func change_f change_x change_y) H ch∧
  (∀(sd:OA) (ae zd:Nat),∀H':zp,Grow H H'→OwnS fF H' H.length sd ae zd ((z6a ch ta ua l).2.2.1)→K ((z6a ch ta ua l).1) ((z6a ch ta ua l).2.1) sd ae zd ((z6a ch ta ua l).2.2.2) H')
theorem zz3 {ta ua:Int} {oa:OA} {xa ya:Nat} {change_f:Fn} {change_x:Array Value} {change_y:Array Value} {H:zp} {K:Int→Int→OA→Nat→Nat→Bool→zp→Prop} (h:∃(l:LN) (ch:Int→Int→LN→PicT),IsL fF H oa xa l∧l.length<1073741824∧(∀W Hi l,(ch W Hi l).2.2.1.length≤1024)∧zch zc0 (.func change_f change_x change_y) H ch∧
  (∀(sd:OA) (ae zd:Nat),∀H':zp,Grow H H'→OwnS fF H' H.length sd ae zd ((z6a ch ta ua l).2.2.1)→K ((z6a ch ta ua l).1) ((z6a ch ta ua l).2.1) sd ae zd ((z6a ch ta ua l).2.2.2) H')):zn9 ta ua oa xa ya change_f change_x change_y H K:=h
def z14x (args:List Value) (H:zp):(Value→zp→Prop)→Prop:=match args with
 | [.agg ⟨[.int .i64 ta,.int .i64 ua,.slice oa xa ya]⟩,.func change_f change_x change_y]=>fun K=>zn9 ta ua oa xa ya change_f change_x change_y H fun (ld:Int) (jd:Int) (ia:OA) (ma:Nat) (ja:Nat) (r2:Bool) (H':zp)=>K (.tuple #[.agg #[.int .i64 ld,.int .i64 jd,.slice ia ma ja],.bool r2]) H'
 | _=>fun _=>False
def zmy:FSpec:={F:=z14x,quiet:=false,tame:=false}
theorem z1ao (ta ua:Int) (oa:OA) (xa ya:Nat) (change_f:Fn) (change_x:Array Value) (change_y:Array Value) (H:zp) (K:KT):zv Tryz.prog zc0 Tryz.f57 [.agg #[.int .i64 ta,.int .i64 ua,.slice oa xa ya],.func change_f change_x change_y] H K=
 (Al [.int .i64 ta,.int .i64 ua,.slice oa xa ya] H fun b1 H1=>Al [.int .i64 0,.int .i64 0,.slice none 0 0] H1 fun b2 H2=>∃c1:Int,∃c2:Int,∃zg:OA,∃bh:Nat,∃ah:Nat,  rdN H2 b1 0 3=some [.int .i64 c1,.int .i64 c2,.slice zg bh ah]∧ztm c1 c2 zg bh ah H2 fun (r1:Int) (r2:Int) (a1:OA) (r3:Nat) (r4:Nat) (r5:Bool) (H3:zp)=>Al [.int .i64 0,.int .i64 0,.slice none 0 0] H3 fun b3 H4=>isOwn H4 b3∧(∃l,rdN H4 b3 0 3=some l)∧Lt (setN H4 b3 0 [.int .i64 r1,.int .i64 r2,.slice a1 r3 r4]) fun H5=>Br (!r5) (isOwn H5 b2∧(∃l,rdN H5 b2 0 3=some l)∧Lt (setN H5 b2 0 [.int .i64 0,.int .i64 0,.slice none 0 0]) fun H6=>∃c4:Int,∃c5:Int,∃kh:OA,∃mh:Nat,∃lh:Nat,  rdN H6 b2 0 3=some [.int .i64 c4,.int .i64 c5,.slice kh mh lh]∧K (.tuple #[.agg #[.int .i64 c4,.int .i64 c5,.slice kh mh lh],.bool false]) H6) (∃c7:Int,∃c8:Int,∃wh:OA,∃yh:Nat,∃xh:Nat,  rdN H5 b3 0 3=some [.int .i64 c7,.int .i64 c8,.slice wh yh xh]∧zev zc0 (.func change_f change_x change_y) [.agg #[.int .i64 c7,.int .i64 c8,.slice wh yh xh]] H5 fun (w1:Value) (H7:zp)=>extV w1 0 fun (w2:Value)=>extV w1 1 fun (w3:Value)=>stN 3 w2 H7 b3 0 fun (H8:zp)=>unK .not w3 fun (w4:Value)=>za1 w4 fun (t1:Bool)=>Br t1 (isOwn H8 b2∧(∃l,rdN H8 b2 0 3=some l)∧Lt (setN H8 b2 0 [.int .i64 0,.int .i64 0,.slice none 0 0]) fun H9=>∃c10:Int,∃c11:Int,∃ni:OA,∃qi:Nat,∃oi:Nat,  rdN H9 b2 0 3=some [.int .i64 c10,.int .i64 c11,.slice ni qi oi]∧K (.tuple #[.agg #[.int .i64 c10,.int .i64 c11,.slice ni qi oi],.bool false]) H9) (∃c13:Int,∃c14:Int,∃aj:OA,∃cj:Nat,∃bj:Nat,  rdN H8 b3 0 3=some [.int .i64 c13,.int .i64 c14,.slice aj cj bj]∧ztm c13 c14 aj cj bj H8 fun (r6:Int) (r7:Int) (a2:OA) (r8:Nat) (r9:Nat) (r10:Bool) (H10:zp)=>isOwn H10 b2∧(∃l,rdN H10 b2 0 3=some l)∧Lt (setN H10 b2 0 [.int .i64 r6,.int .i64 r7,.slice a2 r8 r9]) fun H11=>∃c16:Int,∃c17:Int,∃ak:OA,∃ck:Nat,∃bk:Nat,  rdN H11 b2 0 3=some [.int .i64 c16,.int .i64 c17,.slice ak ck bk]∧K (.tuple #[.agg #[.int .i64 c16,.int .i64 c17,.slice ak ck bk],.bool r10]) H11))):=by kernel_rfl
theorem zs4:∀g,FnOkX Tryz.prog (MainCls Tryz.prog) g (zc0 g):=FnOkX.envOf (by
 intro x hx
 simp only [List.mem_cons,List.not_mem_nil,or_false] at hx
 rcases hx with rfl | rfl
 ·exact z1h4.le fun _ _ _=>trivial
 ·exact f5z_ok)
theorem ω31 {P:Prop} (h:P:=by have:=o2.lt;have:=g3.1;omega):P:=h
theorem ω32 {P:Prop} (h:P:=by have:=G2.1;have:=g3.1;omega):P:=h
theorem zui (ta ua:Int) (oa:OA) (xa ya:Nat) (change_f:Fn) (change_x:Array Value) (change_y:Array Value) (H:zp) (K:KT) (h:zn9 ta ua oa xa ya change_f change_x change_y H fun (ld:Int) (jd:Int) (ia:OA) (ma:Nat) (ja:Nat) (r2:Bool) (H':zp)=>K (.tuple #[.agg #[.int .i64 ld,.int .i64 jd,.slice ia ma ja],.bool r2]) H'):zv Tryz.prog zc0 Tryz.f57 [.agg #[.int .i64 ta,.int .i64 ua,.slice oa xa ya],.func change_f change_x change_y] H K:=by
 rw [z1ao]
 obtain ⟨l,ch,il,bl,hlen,hch,hk⟩:=h
 obtain rfl:=il.eqn
 have ep:z6a ch ta ua l=z5k (z7v ta ua l) fun a b c=>z5k (ch a b c) fun a b c=>z7v a b c:=rfl
 rw [ep] at hk
 refine Al.intro fun b1 H1 e1 l1 g1 o1=>Al.intro fun b2 H2 e2 l2 g2 o2=>?_
 have G2:Grow H H2:=g1.trans g2
 refine ⟨ta,ua,oa,l.length,ya,((o1.grow g2).rdN (Nat.le_of_ble_eq_true rfl)).trans rfl,ztn ⟨l,il.grow G2,bl,fun a n e H3 g3 w3=>?_⟩⟩
 have sl:=zvs ta ua l
 generalize z7v ta ua l=q at *
 refine Al.intro fun b3 H4 e4 l4 g4 o4=>Lt.setN o4 (n:=3) ω23 rfl fun H5 l5 o5 k5=>?_
 have up3:=w3.up
 have lo3:=w3.lo
 have s3:=(w3.grow g4).keepA (fun x y hx hy=>by cases hx;have:=up3 y hy;show b3≠_;omega) (OwnS.keep1 k5)
 have c2:=((o2.grow g3).grow g4).keep (b':=b3) ω31 k5
 have G5:Grow H H5:=((G2.trans g3).trans g4).keep ω32 k5
 refine Br.intro (fun hp=>?_) (fun hp=>?_)
 ·refine Lt.setN c2 (n:=3) ω23 rfl fun H6 l6 q6 k6=>⟨0,0,none,0,0,(q6.rdN (Nat.le_of_ble_eq_true rfl)).trans rfl,?_⟩
  rw [z3n (z1e hp)] at hk
  exact hk none 0 0 H6 (G5.keep ω2 k6) (OwnS.nil _ _ _ _)
 rw [z1r (z1d hp)] at hk
 refine ⟨q.1,q.2.1,a,n,e,(o5.rdN (Nat.le_of_ble_eq_true rfl)).trans rfl,?_⟩
 refine hch q.1 q.2.1 a n e q.2.2.1 H5 G5 s3.isL ω2 _ fun a7 n7 e7 H7 g7 w7=>?_
 rw [ext0,ext1,zi6]
 have hl2:=hlen q.1 q.2.1 q.2.2.1
 generalize ch q.1 q.2.1 q.2.2.1=r at *
 refine Lt.setN (o5.grow g7) (n:=3) (Nat.le_of_ble_eq_true rfl) rfl fun H8 l8 o8 k8=>?_
 rw [zxm]
 have up7:=w7.up
 have lo7:=w7.lo
 have s7:=w7.keepA (fun x y hx hy=>by cases hx;have:=lo7 y hy;have:=o5.lt;show b3≠_;omega) (OwnS.keep1 k8)
 have d2:=(c2.grow g7).keep (b':=b3) ω31 k8
 have G8:Grow H H8:=(G5.trans g7).keep ω32 k8
 refine Br.intro (fun hp2=>?_) (fun hp2=>?_)
 ·refine Lt.setN d2 (n:=3) ω23 rfl fun H9 l9 q9 k9=>⟨0,0,none,0,0,(q9.rdN (Nat.le_of_ble_eq_true rfl)).trans rfl,?_⟩
  rw [z3n (z1e hp2)] at hk
  exact hk none 0 0 H9 (G8.keep ω2 k9) (OwnS.nil _ _ _ _)
 rw [z1r (z1d hp2)] at hk
 refine ⟨r.1,r.2.1,a7,n7,e7,(o8.rdN (Nat.le_of_ble_eq_true rfl)).trans rfl,ztn ⟨r.2.2.1,s7.isL,by omega,fun a9 n9 e9 H10 g10 w10=>?_⟩⟩
 refine Lt.setN (d2.grow g10) (n:=3) ω23 rfl fun H11 l11 q11 k11=>⟨_,_,a9,n9,e9,(q11.rdN (Nat.le_of_ble_eq_true rfl)).trans rfl,?_⟩
 have lo10:=w10.lo
 have hle:=G8.1
 exact hk a9 n9 e9 H11 ((G8.trans g10).keep ω2 k11) ((w10.keepA (fun x y hx hy=>by cases hx;have:=lo10 y hy;have:=d2.lt;show b2≠_;omega) (OwnS.keep1 k11)).weak hle)
theorem z1an:FnOkX Tryz.prog (MainCls Tryz.prog) 57 zmy:=FnOkX.bodyF (hLt:=fun _=>z3j) mix_ok zs4 Tryz.func57 rfl ω9 ω9 fun args H=>by
 unfold z14x
 split
 ·refine ⟨?_,?_,?_,?_,fun K hk=>zui _ _ _ _ _ _ _ _ H K hk⟩
  ·intro K K' h hk;obtain ⟨l,ch,i,b,hlen,hch,k⟩:=hk;exact ⟨l,ch,i,b,hlen,hch,(fun sd ae zd H' gg ow0=>h _ _ (k sd ae zd H' gg ow0))⟩
  ·nofun
  ·intro K hk;obtain ⟨l,ch,i,b,hlen,hch,k⟩:=hk;exact z4v fun a n e H1 g o=>⟨_,_,k a n e H1 g o⟩
  ·nofun
 ·exact Nice.no


def zbs (rows:Int→Int→LN→PicT) (W Hi:Int) (l:LN):PicT:=z5k (rows W Hi l) fun a b c=>z6a rows a b c
theorem f6z_len (rows:Int→Int→LN→PicT) (hr:∀W Hi l,(rows W Hi l).2.2.1.length≤1024) (W Hi:Int) (l:LN):(zbs rows W Hi l).2.2.1.length≤1024:=by
 unfold zbs
 generalize rows W Hi l=q
 unfold z5k
 cases q.2.2.2 with
 | false=>exact Nat.zero_le _
 | true=>exact z10h rows _ _ _
/-! f6z: function 64 -/
def zoy:Env:=envOf [(63,S_f5z),(57,zmy)]
def T_f6z (zc se:Int) (af:OA) (qf jf cap0:Nat) (H:zp) (K:Int→Int→OA→Nat→Nat→Bool→zp→Prop):Prop:=
 ∃(l:LN) (f:Fn) (cx cy:Array Value) (rows:Int→Int→LN→PicT),IsL fF H af qf l∧l.length<1073741824∧rdC H cap0 0=some (.func f cx cy)∧(∀W Hi l,(rows W Hi l).2.2.1.length≤1024)∧zch zoy (.func f cx cy) H rows∧zch zc0 (.func f cx cy) H rows∧
  (∀(sd:OA) (ae zd:Nat),∀H':zp,Grow H H'→OwnS fF H' H.length sd ae zd ((zbs rows zc se l).2.2.1)→K ((zbs rows zc se l).1) ((zbs rows zc se l).2.1) sd ae zd ((zbs rows zc se l).2.2.2) H')
def F_f6z (args:List Value) (H:zp):(Value→zp→Prop)→Prop:=match args with
 | [.agg ⟨[.int .i64 zc,.int .i64 se,.slice af qf jf]⟩,.pointer (some ⟨cap0,0,none⟩)]=>fun K=>T_f6z zc se af qf jf cap0 H fun (ld:Int) (jd:Int) (ia:OA) (ma:Nat) (ja:Nat) (r2:Bool) (H':zp)=>K (.tuple #[.agg #[.int .i64 ld,.int .i64 jd,.slice ia ma ja],.bool r2]) H'
 | _=>fun _=>False
def S_f6z:FSpec:={F:=F_f6z,quiet:=false,tame:=false}
theorem f6z_vc (zc se:Int) (af:OA) (qf jf cap0:Nat) (H:zp) (K:KT):zv Tryz.prog zoy Tryz.f64 [.agg #[.int .i64 zc,.int .i64 se,.slice af qf jf],.pointer (some ⟨cap0,0,none⟩)] H K=
 (Al [.int .i64 zc,.int .i64 se,.slice af qf jf] H fun b1 H1=>Al [.int .i64 0,.int .i64 0,.slice none 0 0] H1 fun b2 H2=>∃x1:Value,  rdC H2 cap0 0=some (x1)∧∃c1:Int,∃c2:Int,∃zg:OA,∃bh:Nat,∃ah:Nat,  rdN H2 b1 0 3=some [.int .i64 c1,.int .i64 c2,.slice zg bh ah]∧zev zoy x1 [.agg #[.int .i64 c1,.int .i64 c2,.slice zg bh ah]] H2 fun (w1:Value) (H3:zp)=>extV w1 0 fun (w2:Value)=>extV w1 1 fun (w3:Value)=>stN 3 w2 H3 b1 0 fun (H4:zp)=>unK .not w3 fun (w4:Value)=>za1 w4 fun (t1:Bool)=>Br t1 (isOwn H4 b2∧(∃l,rdN H4 b2 0 3=some l)∧Lt (setN H4 b2 0 [.int .i64 0,.int .i64 0,.slice none 0 0]) fun H5=>∃c4:Int,∃c5:Int,∃kh:OA,∃mh:Nat,∃lh:Nat,  rdN H5 b2 0 3=some [.int .i64 c4,.int .i64 c5,.slice kh mh lh]∧K (.tuple #[.agg #[.int .i64 c4,.int .i64 c5,.slice kh mh lh],.bool false]) H5) (∃c7:Int,∃c8:Int,∃wh:OA,∃yh:Nat,∃xh:Nat,  rdN H4 b1 0 3=some [.int .i64 c7,.int .i64 c8,.slice wh yh xh]∧∃x2:Value,  rdC H4 cap0 0=some (x2)∧zmy.F [.agg #[.int .i64 c7,.int .i64 c8,.slice wh yh xh],x2] H4 fun (w5:Value) (H6:zp)=>extV w5 0 fun (w6:Value)=>extV w5 1 fun (w7:Value)=>stN 3 w6 H6 b2 0 fun (H7:zp)=>∃c10:Int,∃c11:Int,∃ni:OA,∃qi:Nat,∃oi:Nat,  rdN H7 b2 0 3=some [.int .i64 c10,.int .i64 c11,.slice ni qi oi]∧K (.tuple #[.agg #[.int .i64 c10,.int .i64 c11,.slice ni qi oi],w7]) H7)):=by kernel_rfl
theorem zxx:∀g,FnOkX Tryz.prog (MainCls Tryz.prog) g (zoy g):=FnOkX.envOf (by
 intro x hx
 simp only [List.mem_cons,List.not_mem_nil,or_false] at hx
 rcases hx with rfl | rfl
 ·exact f5z_ok
 ·exact z1an)
theorem zxi {W Hi:Int} {a:OA} {n e:Nat} {f:Fn} {x y:Array Value} {H:zp} {K:KT}:zmy.F [.agg #[.int .i64 W,.int .i64 Hi,.slice a n e],.func f x y] H K=
  zn9 W Hi a n e f x y H (fun r1 r2 a n e r H'=>K (.tuple #[.agg #[.int .i64 r1,.int .i64 r2,.slice a n e],.bool r]) H'):=rfl
theorem f6z_main (zc se:Int) (af:OA) (qf jf cap0:Nat) (H:zp) (K:KT) (h:T_f6z zc se af qf jf cap0 H fun (ld:Int) (jd:Int) (ia:OA) (ma:Nat) (ja:Nat) (r2:Bool) (H':zp)=>K (.tuple #[.agg #[.int .i64 ld,.int .i64 jd,.slice ia ma ja],.bool r2]) H'):zv Tryz.prog zoy Tryz.f64 [.agg #[.int .i64 zc,.int .i64 se,.slice af qf jf],.pointer (some ⟨cap0,0,none⟩)] H K:=by
 rw [f6z_vc]
 obtain ⟨l,f,cx,cy,rows,il,bl,hc,hlen,h1,h2,hk⟩:=h
 obtain rfl:=il.eqn
 have ep:zbs rows zc se l=z5k (rows zc se l) fun a b c=>z6a rows a b c:=rfl
 rw [ep] at hk
 refine Al.intro fun b1 H1 e1 l1 g1 o1=>Al.intro fun b2 H2 e2 l2 g2 o2=>?_
 have G2:Grow H H2:=g1.trans g2
 have cap:∀H',Grow H H'→rdC H' cap0 0=some (.func f cx cy):=fun H' g=>zor g hc
 refine ⟨.func f cx cy,cap H2 G2,zc,se,af,l.length,jf,((o1.grow g2).rdN (Nat.le_of_ble_eq_true rfl)).trans rfl,?_⟩
 refine h1 zc se af l.length jf l H2 G2 (il.grow G2) bl _ fun a n e H3 g3 w3=>?_
 rw [ext0,ext1,zi6]
 have hl:=hlen zc se l
 generalize rows zc se l=q at *
 refine Lt.setN ((o1.grow g2).grow g3) (n:=3) (Nat.le_of_ble_eq_true rfl) rfl fun H4 l4 o4 k4=>?_
 rw [zxm]
 have up3:=w3.up
 have lo3:=w3.lo
 have s3:=w3.keepA (fun x y hx hy=>by cases hx;have:=lo3 y hy;have:=o1.lt;show b1≠_;omega) (OwnS.keep1 k4)
 have c2:=(o2.grow g3).keep (b':=b1) ω2 k4
 have G4:Grow H H4:=(G2.trans g3).keep ω2 k4
 refine Br.intro (fun hp=>?_) (fun hp=>?_)
 ·refine Lt.setN c2 (n:=3) ω23 rfl fun H5 l5 q5 k5=>⟨0,0,none,0,0,(q5.rdN (Nat.le_of_ble_eq_true rfl)).trans rfl,?_⟩
  rw [z3n (z1e hp)] at hk
  exact hk none 0 0 H5 (G4.keep ω2 k5) (OwnS.nil _ _ _ _)
 rw [z1r (z1d hp)] at hk
 refine ⟨q.1,q.2.1,a,n,e,(o4.rdN (Nat.le_of_ble_eq_true rfl)).trans rfl,.func f cx cy,cap H4 G4,?_⟩
 rw [zxi]
 refine zz3 ⟨q.2.2.1,rows,s3.isL,by omega,hlen,h2.grow G4,fun a6 n6 e6 H6 g6 w6=>?_⟩
 rw [ext0,ext1,zi6]
 refine Lt.setN (c2.grow g6) (n:=3) ω23 rfl fun H7 l7 q7 k7=>⟨_,_,a6,n6,e6,(q7.rdN (Nat.le_of_ble_eq_true rfl)).trans rfl,?_⟩
 have lo6:=w6.lo
 have hle:=G4.1
 exact hk a6 n6 e6 H7 ((G4.trans g6).keep ω2 k7) ((w6.keepA (fun x y hx hy=>by cases hx;have:=lo6 y hy;have:=c2.lt;show b2≠_;omega) (OwnS.keep1 k7)).weak hle)
theorem f6z_ok:FnOkX Tryz.prog (MainCls Tryz.prog) 64 S_f6z:=FnOkX.bodyF (hLt:=fun _=>z3j) mix_ok zxx Tryz.func64 rfl ω9 ω9 fun args H=>by
 unfold F_f6z
 split
 ·refine ⟨?_,?_,?_,?_,fun K hk=>f6z_main _ _ _ _ _ _ H K hk⟩
  ·intro K K' h hk;obtain ⟨l,f,cx,cy,rows,i,b,hc,hlen,h1,h2,k⟩:=hk;exact ⟨l,f,cx,cy,rows,i,b,hc,hlen,h1,h2,(fun sd ae zd H' gg ow0=>h _ _ (k sd ae zd H' gg ow0))⟩
  ·nofun
  ·intro K hk;obtain ⟨l,f,cx,cy,rows,i,b,hc,hlen,h1,h2,k⟩:=hk;exact z4v fun a n e H1 g o=>⟨_,_,k a n e H1 g o⟩
  ·nofun
 ·exact Nice.no
def zf6 (xs:LN) (off:Nat):LN→LN
 | []=>xs
 | y::r=>zf6 (xs.set off y) (off+1) r
@[simp] theorem zkw:∀(ys:LN) (xs:LN) (off:Nat),(zf6 xs off ys).length=xs.length:=by
 intro ys
 induction ys with
 | nil=>intro xs off;rfl
 | cons y r ih=>intro xs off;exact (ih _ _).trans (List.length_set ..)
theorem zql (ys:LN):∀(xs:LN) (off:Nat),zkv (xs.map fF) off (ys.map fF)=(zf6 xs off ys).map fF:=by
 induction ys with
 | nil=>intro xs off;rfl
 | cons y r ih=>
  intro xs off
  show zkv ((xs.map fF).set off (fF y)) (off+1) (r.map fF)=_
  rw [←List.map_set]
  exact ih _ _
def z9b (l part:LN) (W pw x y:Int):Nat→LN
 | 0=>l
 | v+1=>zf6 (z9b l part W pw x y v) ((y+(v:Int))*W+x).toNat ((part.drop ((v:Int)*pw).toNat).take pw.toNat)
@[simp] theorem z6u (l part:LN) (W pw x y:Int):∀v,(z9b l part W pw x y v).length=l.length:=by
 intro v
 induction v with
 | zero=>rfl
 | succ v ih=>exact (zkw _ _ _).trans ih
def zab (ta ua:Int) (fa:LN) (zc se:Int) (lg:LN) (x y:Int):Int×Int×LN×Bool:=bif z1q zc se lg then (bif z8d ta ua fa x y zc se then (ta,ua,z9b fa lg ta zc x y se.toNat,true) else (0,0,[],false)) else (0,0,[],false)
def zzo (ta ua:Int) (oa:OA) (xa ya:Nat) (zc se:Int) (af:OA) (qf jf:Nat) (x y:Int) (H:zp) (K:Int→Int→OA→Nat→Nat→Bool→zp→Prop):Prop:=
 ∃(fa lg:LN),IsL fF H oa xa fa∧IsL fF H af qf lg∧fa.length<1073741824∧lg.length<1073741824∧
  (∀(sd:OA) (ae zd:Nat),∀H':zp,Grow H H'→OwnS fF H' H.length sd ae zd ((zab ta ua fa zc se lg x y).2.2.1)→K ((zab ta ua fa zc se lg x y).1) ((zab ta ua fa zc se lg x y).2.1) sd ae zd ((zab ta ua fa zc se lg x y).2.2.2) H')
theorem z19p {ta ua:Int} {oa:OA} {xa ya:Nat} {zc se:Int} {af:OA} {qf jf:Nat} {x y:Int} {H:zp} {K:Int→Int→OA→Nat→Nat→Bool→zp→Prop} (h:∃(fa lg:LN),IsL fF H oa xa fa∧IsL fF H af qf lg∧fa.length<1073741824∧lg.length<1073741824∧
  (∀(sd:OA) (ae zd:Nat),∀H':zp,Grow H H'→OwnS fF H' H.length sd ae zd ((zab ta ua fa zc se lg x y).2.2.1)→K ((zab ta ua fa zc se lg x y).1) ((zab ta ua fa zc se lg x y).2.1) sd ae zd ((zab ta ua fa zc se lg x y).2.2.2) H')):zzo ta ua oa xa ya zc se af qf jf x y H K:=h
theorem z1ca (W Hi:Int) (l:LN) (pw ph:Int) (part:LN) (x y:Int):((zab W Hi l pw ph part x y).2.2.1.length:Int)≤256:=by
 unfold zab
 cases z1q pw ph part with
 | false=>show ((0:Nat):Int)≤256;omega
 | true=>
  cases h:z8d W Hi l x y pw ph with
  | false=>show ((0:Nat):Int)≤256;omega
  | true=>
   have:=f19z_t h
   show ((z9b l part W pw x y ph.toNat).length:Int)≤256
   rw [z6u]
   omega
/-! flz: function 105 -/
def zgw:Env:=envOf [(999996,z7z),(50,zle),(81,zsy),(53,zt1)]
def F_flz (args:List Value) (H:zp):(Value→zp→Prop)→Prop:=match args with
 | [.agg ⟨[.int .i64 ta,.int .i64 ua,.slice oa xa ya]⟩,.agg ⟨[.int .i64 zc,.int .i64 se,.slice af qf jf]⟩,.int .i64 x,.int .i64 y]=>fun K=>zzo ta ua oa xa ya zc se af qf jf x y H fun (ld:Int) (jd:Int) (ia:OA) (ma:Nat) (ja:Nat) (r2:Bool) (H':zp)=>K (.tuple #[.agg #[.int .i64 ld,.int .i64 jd,.slice ia ma ja],.bool r2]) H'
 | _=>fun _=>False
def S_flz:FSpec:={F:=F_flz,quiet:=false,tame:=false}
theorem z1gp (ta ua:Int) (oa:OA) (xa ya:Nat) (zc se:Int) (af:OA) (qf jf:Nat) (x y:Int) (H:zp) (K:KT):zv Tryz.prog zgw Tryz.f105 [.agg #[.int .i64 ta,.int .i64 ua,.slice oa xa ya],.agg #[.int .i64 zc,.int .i64 se,.slice af qf jf],.int .i64 x,.int .i64 y] H K=
 (Al [.int .i64 ta,.int .i64 ua,.slice oa xa ya] H fun b1 H1=>Al [.int .i64 zc,.int .i64 se,.slice af qf jf] H1 fun b2 H2=>Al [.int .i64 0,.int .i64 0,.slice none 0 0] H2 fun b3 H3=>∃c1:Int,∃c2:Int,∃zg:OA,∃bh:Nat,∃ah:Nat,  rdN H3 b2 0 3=some [.int .i64 c1,.int .i64 c2,.slice zg bh ah]∧zgz c1 c2 zg bh ah H3 fun (r1:Bool) (H4:zp)=>Br (!r1) (isOwn H4 b3∧(∃l,rdN H4 b3 0 3=some l)∧Lt (setN H4 b3 0 [.int .i64 0,.int .i64 0,.slice none 0 0]) fun H5=>∃c4:Int,∃c5:Int,∃kh:OA,∃mh:Nat,∃lh:Nat,  rdN H5 b3 0 3=some [.int .i64 c4,.int .i64 c5,.slice kh mh lh]∧K (.tuple #[.agg #[.int .i64 c4,.int .i64 c5,.slice kh mh lh],.bool false]) H5) (∃c7:Int,∃c8:Int,∃wh:OA,∃yh:Nat,∃xh:Nat,  rdN H4 b1 0 3=some [.int .i64 c7,.int .i64 c8,.slice wh yh xh]∧∃x1:Int,  rdC H4 b2 0=some (.int .i64 x1)∧∃x2:Int,  rdC H4 b2 1=some (.int .i64 x2)∧zih c7 c8 wh yh xh x y x1 x2 H4 fun (r2:Bool) (H6:zp)=>Br (!r2) (isOwn H6 b3∧(∃l,rdN H6 b3 0 3=some l)∧Lt (setN H6 b3 0 [.int .i64 0,.int .i64 0,.slice none 0 0]) fun H7=>∃c10:Int,∃c11:Int,∃ni:OA,∃qi:Nat,∃oi:Nat,  rdN H7 b3 0 3=some [.int .i64 c10,.int .i64 c11,.slice ni qi oi]∧K (.tuple #[.agg #[.int .i64 c10,.int .i64 c11,.slice ni qi oi],.bool false]) H7) (∃ij:OA,∃fj:Nat,∃vj:Nat,  rdC H6 b1 2=some (.slice ij fj vj)∧∃x4:Int,  rdC H6 b1 1=some (.int .i64 x4)∧∃x5:Int,  rdC H6 b1 0=some (.int .i64 x5)∧zim ij fj vj H6 fun (a1:OA) (r3:Nat) (r4:Nat) (H8:zp)=>Al [.int .i64 0,.int .i64 0,.slice none 0 0] H8 fun b4 H9=>isOwn H9 b4∧(∃l,rdN H9 b4 0 3=some l)∧Lt (setN H9 b4 0 [.int .i64 x5,.int .i64 x4,.slice a1 r3 r4]) fun H10=>∃x6:Int,  rdC H10 b2 1=some (.int .i64 x6)∧z1i (exL Tryz.prog zgw (cl (cl (cr (cl (cr (cr (cr (zq Tryz.f105)))))))) 206158431548 768 [(0,1280)]) (ud2 (.int .i64 x::.int .i64 y::.pointer (some ⟨b1,0,none⟩)::.pointer (some ⟨b2,0,none⟩)::ud2 (.pointer (some ⟨b3,0,none⟩)::ud::.pointer (some ⟨b4,0,none⟩)::ud25 (.int .i64 x6::.int .i64 0::ud28 [])))) H10 (zu 0 (seqQ (exL Tryz.prog zgw (cr (cr (cr (cr (zq Tryz.f105))))) 768 768 []) (retK Tryz.prog Tryz.f105 K)))))):=by kernel_rfl
abbrev zjj (b1 b2 b3 b4:Nat) (x x6 y t37:Int)  :List Value:=(ud2 (.int .i64 x::.int .i64 y::.pointer (some ⟨b1,0,none⟩)::.pointer (some ⟨b2,0,none⟩)::ud2 (.pointer (some ⟨b3,0,none⟩)::ud::.pointer (some ⟨b4,0,none⟩)::ud25 (.int .i64 x6::.int .i64 t37::ud28 []))))
theorem z1go (b1 b2 b3 b4:Nat) (x x6 y t37:Int)  (H:zp) (R:Post):exL Tryz.prog zgw (cl (cl (cr (cl (cr (cr (cr (zq Tryz.f105)))))))) 206158431548 768 [(0,1280)] (zjj b1 b2 b3 b4 x x6 y t37) H R=
 (Br (decide ((t37:Int)<x6)) (∃gj:OA,∃vi:Nat,∃nk:Nat,  rdC H b4 2=some (.slice gj vi nk)∧∃x8:Int,  rdC H b1 0=some (.int .i64 x8)∧(0:Int)≤IntKind.wrap .i64 ((IntKind.wrap .i64 ((IntKind.wrap .i64 (y+t37))*x8))+x)∧IntKind.wrap .i64 ((IntKind.wrap .i64 ((IntKind.wrap .i64 (y+t37))*x8))+x)≤(vi:Int)∧(vi:Int)≤(vi:Int)∧∃fp:OA,∃gp:Nat,∃jp:Nat,  rdC H b2 2=some (.slice fp gp jp)∧∃x10:Int,  rdC H b2 0=some (.int .i64 x10)∧∃x11:Int,  rdC H b2 0=some (.int .i64 x11)∧(0:Int)≤IntKind.wrap .i64 (t37*x10)∧IntKind.wrap .i64 (t37*x10)≤IntKind.wrap .i64 ((IntKind.wrap .i64 (t37+1))*x11)∧IntKind.wrap .i64 ((IntKind.wrap .i64 (t37+1))*x11)≤(gp:Int)∧∃w1:List Value,rdS H ((fp:OA).map fun a=>⟨a.block,a.off+(IntKind.wrap .i64 (t37*x10):Int).toNat*1,none⟩) (min (((IntKind.wrap .i64 ((IntKind.wrap .i64 (t37+1))*x11):Int)-IntKind.wrap .i64 (t37*x10)).toNat:Nat) ((((vi:Int):Int)-IntKind.wrap .i64 ((IntKind.wrap .i64 ((IntKind.wrap .i64 (y+t37))*x8))+x)).toNat))=some w1∧∃b5 f1,((gj:OA).map fun a=>⟨a.block,a.off+(IntKind.wrap .i64 ((IntKind.wrap .i64 ((IntKind.wrap .i64 (y+t37))*x8))+x):Int).toNat*1,none⟩:OA)=some ⟨b5,f1,none⟩∧isOwn H b5∧(∃l,rdN H b5 f1 ((((vi:Int):Int)-IntKind.wrap .i64 ((IntKind.wrap .i64 ((IntKind.wrap .i64 (y+t37))*x8))+x)).toNat)=some l)∧Lt (setN H b5 f1 w1) fun H11=>R .normal (ud2 (.int .i64 x::.int .i64 y::.pointer (some ⟨b1,0,none⟩)::.pointer (some ⟨b2,0,none⟩)::ud2 (.pointer (some ⟨b3,0,none⟩)::ud::.pointer (some ⟨b4,0,none⟩)::ud25 (.int .i64 x6::.int .i64 (IntKind.wrap .i64 (t37+1))::ud28 [])))) H11) (R (.exit 0) (ud8 (.pointer (some ⟨b3,0,none⟩)::ud::.pointer (some ⟨b4,0,none⟩)::ud55 [])) H)):=by kernel_rfl
def zvp (b1 b2 b3 b4:Nat) (x x6 y:Int) (Inv:Nat→Int→zp→Prop):Nat→List Value→zp→Prop:=fun μ tm H=>∃(t37:Int),tm=(zjj b1 b2 b3 b4 x x6 y t37)∧Inv μ t37 H
theorem z1gl (b1 b2 b3 b4:Nat) (x x6 y:Int) {Q:Post} (Inv:Nat→Int→zp→Prop) (ν:Nat) (t37:Int)  (H:zp) (h0:Inv ν t37 H)
  (hs:∀(μ:Nat) (t37:Int)  (H:zp),Inv μ t37 H→exL Tryz.prog zgw (cl (cl (cr (cl (cr (cr (cr (zq Tryz.f105)))))))) 206158431548 768 [(0,1280)] (zjj b1 b2 b3 b4 x x6 y t37) H (z1a (zvp b1 b2 b3 b4 x x6 y Inv) μ Q)):z1i (exL Tryz.prog zgw (cl (cl (cr (cl (cr (cr (cr (zq Tryz.f105)))))))) 206158431548 768 [(0,1280)]) (zjj b1 b2 b3 b4 x x6 y t37) H Q:=
 ⟨zvp b1 b2 b3 b4 x x6 y Inv,ν,⟨t37,rfl,h0⟩,fun μ tm H h=>by obtain ⟨t37,rfl,hI⟩:=h;exact hs μ t37  H hI⟩
theorem z1gm {b1 b2 b3 b4:Nat} {x x6 y:Int} {Q:Post} {Inv:Nat→Int→zp→Prop} {μ:Nat} (μ':Nat) {t37:Int}  {H:zp} (hm:μ'<μ) (hI:Inv μ' t37 H):z1a (zvp b1 b2 b3 b4 x x6 y Inv) μ Q .normal (zjj b1 b2 b3 b4 x x6 y t37) H:=⟨μ',hm,t37,rfl,hI⟩
theorem z11h (b3 b4:Nat) (H:zp) (K:KT)  {I:Nat→List Value→zp→Prop} {μ:Nat}:z1a I μ (zu 0 (seqQ (exL Tryz.prog zgw (cr (cr (cr (cr (zq Tryz.f105))))) 768 768 []) (retK Tryz.prog Tryz.f105 K))) (.exit 0) (ud8 (.pointer (some ⟨b3,0,none⟩)::ud::.pointer (some ⟨b4,0,none⟩)::ud55 [])) H=
 (∃c13:Int,∃c14:Int,∃aj:OA,∃cj:Nat,∃bj:Nat,  rdN H b4 0 3=some [.int .i64 c13,.int .i64 c14,.slice aj cj bj]∧isOwn H b3∧(∃l,rdN H b3 0 3=some l)∧Lt (setN H b3 0 [.int .i64 c13,.int .i64 c14,.slice aj cj bj]) fun H12=>∃c16:Int,∃c17:Int,∃ak:OA,∃ck:Nat,∃bk:Nat,  rdN H12 b3 0 3=some [.int .i64 c16,.int .i64 c17,.slice ak ck bk]∧K (.tuple #[.agg #[.int .i64 c16,.int .i64 c17,.slice ak ck bk],.bool true]) H12):=by kernel_rfl
theorem zyc:∀g,FnOkX Tryz.prog (MainCls Tryz.prog) g (zgw g):=FnOkX.envOf (by
 intro x hx
 simp only [List.mem_cons,List.not_mem_nil,or_false] at hx
 rcases hx with rfl | rfl | rfl | rfl
 ·exact z6n _ _
 ·exact f8z_ok.le fun _ _ _=>trivial
 ·exact f19z_ok.le fun _ _ _=>trivial
 ·exact zux.le fun _ _ _=>trivial)
theorem z1ct {x y v W H pw ph:Int} (hx:0≤x) (hy:0≤y) (hv:0≤v) (h1:1≤pw) (h2:x+pw≤W) (h3:y+ph≤H) (hv2:v<ph) (hW:W≤16) (hH:H≤16):
  0≤(y+v)*W∧(y+v)*W+x+pw≤W*H∧W*H≤256∧0≤v*pw∧(v+1)*pw=v*pw+pw∧(v+1)*pw≤pw*ph:=by
 have a:0≤(y+v)*W:=Int.mul_nonneg ω2 ω2
 have b:(y+v+1)*W≤H*W:=Int.mul_le_mul_of_nonneg_right ω2 ω2
 have c:(y+v+1)*W=(y+v)*W+W:=by rw [Int.add_mul,Int.one_mul]
 have d:H*W≤16*16:=Int.mul_le_mul ω2 ω2 ω2 ω23
 have e:H*W=W*H:=Int.mul_comm _ _
 have f:0≤v*pw:=Int.mul_nonneg hv ω2
 have g:(v+1)*pw=v*pw+pw:=by rw [Int.add_mul,Int.one_mul]
 have h:(v+1)*pw≤ph*pw:=Int.mul_le_mul_of_nonneg_right ω2 ω2
 have i:ph*pw=pw*ph:=Int.mul_comm _ _
 exact ⟨a,by omega,by omega,f,g,by omega⟩
theorem z11g (ta ua:Int) (oa:OA) (xa ya:Nat) (zc se:Int) (af:OA) (qf jf:Nat) (x y:Int) (H:zp) (K:KT) (h:zzo ta ua oa xa ya zc se af qf jf x y H fun (ld:Int) (jd:Int) (ia:OA) (ma:Nat) (ja:Nat) (r2:Bool) (H':zp)=>K (.tuple #[.agg #[.int .i64 ld,.int .i64 jd,.slice ia ma ja],.bool r2]) H'):zv Tryz.prog zgw Tryz.f105 [.agg #[.int .i64 ta,.int .i64 ua,.slice oa xa ya],.agg #[.int .i64 zc,.int .i64 se,.slice af qf jf],.int .i64 x,.int .i64 y] H K:=by
 rw [z1gp]
 obtain ⟨l,q,il,iq,bl,bq,hk⟩:=h
 obtain rfl:=il.eqn
 obtain rfl:=iq.eqn
 have ep:zab ta ua l zc se q x y=(bif z1q zc se q then (bif z8d ta ua l x y zc se then (ta,ua,z9b l q ta zc x y se.toNat,true) else (0,0,[],false)) else (0,0,[],false)):=rfl
 rw [ep] at hk
 refine Al.intro fun b1 H1 e1 l1 g1 o1=>Al.intro fun b2 H2 e2 l2 g2 o2=>Al.intro fun b3 H3 e3 l3 g3 o3=>?_
 have p1:=(o1.grow g2).grow g3
 have p2:=o2.grow g3
 have G3:Grow H H3:=(g1.trans g2).trans g3
 refine ⟨zc,se,af,q.length,jf,(p2.rdN (Nat.le_of_ble_eq_true rfl)).trans rfl,zbk ⟨q,iq.grow G3,bq,fun H4 g4=>?_⟩⟩
 have q3:=o3.grow g4
 refine Br.intro (fun hp=>?_) (fun hp=>?_)
 ·refine Lt.setN q3 (n:=3) ω23 rfl fun H5 l5 q5 k5=>⟨0,0,none,0,0,(q5.rdN (Nat.le_of_ble_eq_true rfl)).trans rfl,?_⟩
  rw [z1e hp,cond_false] at hk
  exact hk none 0 0 H5 ((G3.trans g4).keep ω2 k5) (OwnS.nil _ _ _ _)
 have hpv:=z1d hp
 rw [hpv,cond_true] at hk
 have G4:Grow H H4:=G3.trans g4
 have q1:=p1.grow g4
 have q2:=p2.grow g4
 refine ⟨ta,ua,oa,l.length,ya,(q1.rdN (Nat.le_of_ble_eq_true rfl)).trans rfl,zc,(q2.rdC 0).trans rfl,se,(q2.rdC 1).trans rfl,zn4 ⟨l,il.grow G4,bl,fun H6 g6=>?_⟩⟩
 have r3:=q3.grow g6
 refine Br.intro (fun hp=>?_) (fun hp=>?_)
 ·refine Lt.setN r3 (n:=3) ω23 rfl fun H7 l7 q7 k7=>⟨0,0,none,0,0,(q7.rdN (Nat.le_of_ble_eq_true rfl)).trans rfl,?_⟩
  rw [z1e hp,cond_false] at hk
  exact hk none 0 0 H7 ((G4.trans g6).keep ω2 k7) (OwnS.nil _ _ _ _)
 have hpt:=z1d hp
 rw [hpt,cond_true] at hk
 obtain ⟨w1,w2,w3,w4,w5,w6,x0,y0,pw1,ph1,hx,hy⟩:=f19z_t hpt
 obtain ⟨v1,v2,v3,v4,v5,v6,v7⟩:=f8z_t hpv
 have G6:Grow H H6:=G4.trans g6
 have r1:=q1.grow g6
 have r2:=q2.grow g6
 refine ⟨oa,l.length,ya,(r1.rdC 2).trans rfl,ua,(r1.rdC 1).trans rfl,ta,(r1.rdC 0).trans rfl,zni ⟨l,il.grow G6,bl,fun a n e H8 g8 o8=>?_⟩⟩
 refine Al.intro fun b4 H9 e9 l9 g9 o9=>Lt.setN o9 (n:=3) ω23 rfl fun H10 l10 q10 k10=>?_
 have lo:=o8.lo
 have up:=o8.up
 have s1:=((r1.grow g8).grow g9).keep (b':=b4) (by have:=r1.lt;have:=g8.1;omega) k10
 have s2:=((r2.grow g8).grow g9).keep (b':=b4) (by have:=r2.lt;have:=g8.1;omega) k10
 have s3:=((r3.grow g8).grow g9).keep (b':=b4) (by have:=r3.lt;have:=g8.1;omega) k10
 have s8:=(o8.grow g9).keepA (fun x y hx hy=>by cases hx;have:=up y hy;show b4≠_;omega) (OwnS.keep1 k10)
 have G10:Grow H H10:=((G6.trans g8).trans g9).keep (by have:=G6.1;have:=g8.1;omega) k10
 refine ⟨se,(s2.rdC 1).trans rfl,?_⟩
 obtain ⟨hn8,⟨ea,hx0⟩ | ⟨c,rfl,hc,he,hlc⟩⟩:=s8
 ·rw [hx0] at w5
  have:=z5i (W:=ta) (H:=ua) w1 w2 w3 w4
  simp at w5
  omega
 subst he
 subst hn8
 obtain ⟨m,rfl⟩:∃m:Nat,se=(m:Int):=⟨se.toNat,by omega⟩
 have hcb:c≠b4:=by have:=up _ rfl;have:c<H8.length:=this;omega
 have c10:=hc.lt
 refine z1gl b1 b2 b3 b4 x (m:Int) y (fun μ t H'=>∃k:Nat,t=(k:Int)∧k≤m∧μ=m-k∧z3d c H10 H'∧Own H' c ((z9b l q ta zc x y k).map fF)) m 0 H10
  ⟨0,rfl,Nat.zero_le _,rfl,⟨Nat.le_refl _,fun _ _ _=>rfl⟩,hc⟩ ?_
 intro μ t H' hI
 obtain ⟨k,rfl,hkm,rfl,kp,oc⟩:=hI
 have lkp:=kp.1
 have t1:=s1.keep (b':=c) (by have:=r1.lt;have:=hlc;omega) kp
 have t2:=s2.keep (b':=c) (by have:=r2.lt;have:=hlc;omega) kp
 have t3:=s3.keep (b':=c) (by have:=r3.lt;have:=hlc;omega) kp
 have t4:=q10.keep (b':=c) (Ne.symm hcb) kp
 have GG:Grow H H':=G10.keep (by have:=G6.1;omega) kp
 rw [z1go]
 refine Br.intro (fun hd=>?_) (fun hd=>?_)
 ·have hd':=of_decide_eq_true hd
  obtain ⟨i1,i2,i3,i4,i5,i6⟩:=z1ct (x:=x) (y:=y) (v:=(k:Int)) (W:=ta) (H:=ua) (pw:=zc) (ph:=(m:Int)) x0 y0 ω2 pw1 hx hy hd' w2 w4
  rw [show IntKind.wrap .i64 (y+(k:Int))=y+(k:Int) from zt ω2 ω2,show IntKind.wrap .i64 ((k:Int)+1)=(k:Int)+1 from zt ω2 ω2]
  refine ⟨some ⟨c,0,none⟩,l.length,1,(t4.rdC 2).trans rfl,ta,(t1.rdC 0).trans rfl,?_⟩
  rw [show IntKind.wrap .i64 ((y+(k:Int))*ta)=(y+(k:Int))*ta from zt ω2 ω2,show IntKind.wrap .i64 ((y+(k:Int))*ta+x)=(y+(k:Int))*ta+x from zt ω2 ω2]
  refine ⟨by omega,by omega,by omega,af,q.length,jf,(t2.rdC 2).trans rfl,zc,(t2.rdC 0).trans rfl,zc,(t2.rdC 0).trans rfl,?_⟩
  rw [show IntKind.wrap .i64 ((k:Int)*zc)=(k:Int)*zc from zt ω2 ω2,show IntKind.wrap .i64 (((k:Int)+1)*zc)=((k:Int)+1)*zc from zt ω2 ω2]
  refine ⟨by omega,by omega,by omega,(((q.drop ((k:Int)*zc).toNat).take (zc).toNat)).map fF,?_,c,0+((y+(k:Int))*ta+x).toNat*1,rfl,oc.isOwn,⟨_,oc.rdN (by rw [List.length_map,z6u];omega)⟩,?_⟩
  ·have hs:=zbv (iq.grow GG) (lo:=(k:Int)*zc) (hi:=((k:Int)+1)*zc) ω2 ω2 ω2
   have e1:(((k:Int)+1)*zc-(k:Int)*zc).toNat=zc.toNat:=by omega
   have e2:min ((((k:Int)+1)*zc-(k:Int)*zc).toNat) (((l.length:Int)-((y+(k:Int))*ta+x)).toNat)=zc.toNat:=by omega
   rw [e1] at hs
   rw [e2]
   exact (z2m hs).symm ▸ congrArg (rdS H' _) (Nat.mul_one _).symm
  ·obtain ⟨u1,u2,u3⟩:=zow (((q.drop ((k:Int)*zc).toNat).take (zc).toNat).map fF) (0+((y+(k:Int))*ta+x).toNat*1) oc
   rw [zql] at u1
   unfold Lt
   refine z1gm (m-(k+1)) ω2 ⟨k+1,by omega,by omega,rfl,⟨by rw [u2];exact lkp,fun i hi hne=>(u3 i hne).trans (kp.2 i hi hne)⟩,?_⟩
   have e3:0+((y+(k:Int))*ta+x).toNat*1=((y+(k:Int))*ta+x).toNat:=by omega
   rw [e3] at u1
   rw [e3]
   exact u1
 ·have hd':=of_decide_eq_false hd
  obtain rfl:k=m:=by omega
  rw [z11h]
  refine ⟨ta,ua,some ⟨c,0,none⟩,l.length,1,(t4.rdN (Nat.le_of_ble_eq_true rfl)).trans rfl,Lt.setN t3 (n:=3) (Nat.le_of_ble_eq_true rfl) rfl fun H12 l12 q12 k12=>⟨ta,ua,some ⟨c,0,none⟩,l.length,1,(q12.rdN (Nat.le_of_ble_eq_true rfl)).trans rfl,?_⟩⟩
  rw [Int.toNat_natCast] at hk
  refine hk _ _ _ H12 (GG.keep ω2 k12) ((oc.keep (b':=b3) (by have:=r3.lt;have:=hlc;omega) k12).ownS (by rw [z6u]) (by have:=G6.1;omega))
theorem z1gn:FnOkX Tryz.prog (MainCls Tryz.prog) 105 S_flz:=FnOkX.bodyF (hLt:=fun _=>z3j) mix_ok zyc Tryz.func105 rfl ω9 ω9 fun args H=>by
 unfold F_flz
 split
 ·refine ⟨?_,?_,?_,?_,fun K hk=>z11g _ _ _ _ _ _ _ _ _ _ _ _ H K hk⟩
  ·intro K K' h hk;obtain ⟨l,q,i,i2,b,b2,k⟩:=hk;exact ⟨l,q,i,i2,b,b2,(fun sd ae zd H' gg ow0=>h _ _ (k sd ae zd H' gg ow0))⟩
  ·nofun
  ·intro K hk;obtain ⟨l,q,i,i2,b,b2,k⟩:=hk;exact z4v fun a n e H1 g o=>⟨_,_,k a n e H1 g o⟩
  ·nofun
 ·exact Nice.no
end Go.Proofs.YthheoefadijhdaaGreat.Ai
