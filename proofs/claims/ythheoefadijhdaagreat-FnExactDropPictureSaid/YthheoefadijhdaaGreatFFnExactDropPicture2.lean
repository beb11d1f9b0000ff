/- What functions of the program come to on the abstract machine, and that they do so; printed by a program of mine around proofs of mine. -/
import Derived.Test.YthheoefadijhdaaGreatFFnExactDropPicture1
set_option linter.unusedVariables false
set_option linter.unusedSimpArgs false
set_option linter.defProp false
set_option maxRecDepth 100000
set_option maxHeartbeats 1000000
namespace Go.Proofs.YthheoefadijhdaaGreat.Ai
open Go
attribute [local irreducible] z5y z1a
def zh1 (env:Env) (x:Value) (H:zq) (wide high:Int) (g:Int→Int→Nat):Prop:=
 ∀(u v:Int),0≤u→u<wide→0≤v→v<high→wide≤16→high≤16→∀(H1:zq),Grow H H1→∀K:Value→zq→Prop,(∀H2:zq,Grow H1 H2→K (.float .f32 (g u v)) H2)→zf1 env x [.int .i64 u,.int .i64 v] H1 K
def z8x (wide high:Int) (g:Int→Int→Nat):Int×Int×LN×Bool:=bif z3f wide 1 16 then (bif z3f high 1 16 then z9s wide high (picL wide.toNat high.toNat g) else (0,0,[],false)) else (0,0,[],false)
/-! fuz: function 82 -/
def z5w:Env:=envOf [(999999,zeg),(68,zfi),(83,S_f2z),(84,S_fcz),(113,S_f7z)]
def zu5 (wide high:Int) (light_f:Fn) (light_x light_y:Array Value) (H:zq) (K:Int→Int→OA→Nat→Nat→Bool→zq→Prop):Prop:=
 ∃(g:Int→Int→Nat),valQ z5w (.func light_f light_x light_y)=true∧zh1 z5w (.func light_f light_x light_y) H wide high g∧
  (∀(td:OA) (yd xd:Nat),∀H':zq,Grow H H'→OwnS fF H' H.length td yd xd ((z8x wide high g).2.2.1)→K ((z8x wide high g).1) ((z8x wide high g).2.1) td yd xd ((z8x wide high g).2.2.2) H')
theorem zu6 {wide high:Int} {light_f:Fn} {light_x light_y:Array Value} {H:zq} {K:Int→Int→OA→Nat→Nat→Bool→zq→Prop} (h:∃(g:Int→Int→Nat),valQ z5w (.func light_f light_x light_y)=true∧zh1 z5w (.func light_f light_x light_y) H wide high g∧
  (∀(td:OA) (yd xd:Nat),∀H':zq,Grow H H'→OwnS fF H' H.length td yd xd ((z8x wide high g).2.2.1)→K ((z8x wide high g).1) ((z8x wide high g).2.1) td yd xd ((z8x wide high g).2.2.2) H')):zu5 wide high light_f light_x light_y H K:=h
theorem zbj (wide high:Int) (g:Int→Int→Nat):((z8x wide high g).2.2.1.length:Int)≤256:=by
 unfold z8x
 cases h1:z3f wide 1 16 with
 | false=>show ((0:Nat):Int)≤256;omega
 | true=>
  cases h2:z3f high 1 16 with
  | false=>show ((0:Nat):Int)≤256;omega
  | true=>
   have w1:=z4v h1
   have w2:=z4v h2
   rw [cond_true,cond_true,z4g]
   cases !(z1p wide high (picL wide.toNat high.toNat g)) with
   | true=>show ((0:Nat):Int)≤256;omega
   | false=>
    show ((picL wide.toNat high.toNat g).length:Int)≤256
    rw [z2r]
    have:high.toNat*wide.toNat≤16*16:=Nat.mul_le_mul ω2 ω2
    omega
theorem zxl (u:Nat) (F:Int→Nat):rowL (u+1) F=rowL u F++[F (u:Int)]:=by
 unfold rowL
 rw [List.range_succ,List.map_append];rfl
def F_fuz (args:List Value) (H:zq):(Value→zq→Prop)→Prop:=match args with
 | [.int .i64 wide,.int .i64 high,.func light_f light_x light_y]=>fun K=>zu5 wide high light_f light_x light_y H fun (sd:Int) (pd:Int) (ja:OA) (oa:Nat) (ma:Nat) (r2:Bool) (H':zq)=>K (.tuple #[.agg #[.int .i64 sd,.int .i64 pd,.slice ja oa ma],.bool r2]) H'
 | _=>fun _=>False
def S_fuz:FSpec:={F:=F_fuz,quiet:=false,tame:=true}
theorem z1hk (wide high:Int) (light_f:Fn) (light_x:Array Value) (light_y:Array Value) (H:zq) (K:KT):z1a Tryz.prog z5w Tryz.f82 [.int .i64 wide,.int .i64 high,.func light_f light_x light_y] H K=
 (Al [.int .i64 0,.int .i64 0,.slice none 0 0] H fun b1 H1=>z5e wide 1 16 H1 fun (r1:Bool) (H2:zq)=>Br (!r1) (isOwn H2 b1∧(∃l,rdN H2 b1 0 3=some l)∧Lt (setN H2 b1 0 [.int .i64 0,.int .i64 0,.slice none 0 0]) fun H3=>∃c1:Int,∃c2:Int,∃kh:OA,∃mh:Nat,∃lh:Nat,  rdN H3 b1 0 3=some [.int .i64 c1,.int .i64 c2,.slice kh mh lh]∧K (.tuple #[.agg #[.int .i64 c1,.int .i64 c2,.slice kh mh lh],.bool false]) H3) (z5e high 1 16 H2 fun (r2:Bool) (H4:zq)=>Br (!r2) (isOwn H4 b1∧(∃l,rdN H4 b1 0 3=some l)∧Lt (setN H4 b1 0 [.int .i64 0,.int .i64 0,.slice none 0 0]) fun H5=>∃c4:Int,∃c5:Int,∃th:OA,∃vh:Nat,∃uh:Nat,  rdN H5 b1 0 3=some [.int .i64 c4,.int .i64 c5,.slice th vh uh]∧K (.tuple #[.agg #[.int .i64 c4,.int .i64 c5,.slice th vh uh],.bool false]) H5) (Al [.int .i64 0,.int .i64 0,.slice none 0 0] H4 fun b2 H6=>isOwn H6 b2∧(∃l,rdN H6 b2 0 3=some l)∧Lt (setN H6 b2 0 [.int .i64 wide,.int .i64 high,.slice none 0 0]) fun H7=>z1j (exL Tryz.prog z5w (cl (cl (cr (cl (cr (cr (cr (zr Tryz.f82)))))))) 25166149 192 [(0,320)]) (.int .i64 wide::ud::.func light_f light_x light_y::ud3 (.pointer (some ⟨b1,0,none⟩)::ud::.pointer (some ⟨b2,0,none⟩)::ud14 (.int .i64 high::.int .i64 0::ud21 []))) H7 (zx 0 (seqQ (exL Tryz.prog z5w (cr (cr (cr (cr (zr Tryz.f82))))) 192 192 []) (retK Tryz.prog Tryz.f82 K)))))):=by kernel_rfl
abbrev zjs (b1 b2:Nat) (high:Int) (light_f:Fn) (light_x:Array Value) (light_y:Array Value) (wide t24:Int)  :List Value:=(.int .i64 wide::ud::.func light_f light_x light_y::ud3 (.pointer (some ⟨b1,0,none⟩)::ud::.pointer (some ⟨b2,0,none⟩)::ud14 (.int .i64 high::.int .i64 t24::ud21 [])))
theorem z1hi (b1 b2:Nat) (high:Int) (light_f:Fn) (light_x:Array Value) (light_y:Array Value) (wide t24:Int)  (H:zq) (R:Post):exL Tryz.prog z5w (cl (cl (cr (cl (cr (cr (cr (zr Tryz.f82)))))))) 25166149 192 [(0,320)] (zjs b1 b2 high light_f light_x light_y wide t24) H R=
 (Br (decide ((t24:Int)<high)) (z1j (exL Tryz.prog z5w (cl (cl (cr (cr (cl (cl (cr (cr (cl (cl (cr (cl (cr (cr (cr (zr Tryz.f82)))))))))))))))) 427819845 192 [(2,25166149),(1,25166149),(0,320)]) (.int .i64 wide::ud::.func light_f light_x light_y::ud3 (.pointer (some ⟨b1,0,none⟩)::ud::.pointer (some ⟨b2,0,none⟩)::.int .i64 t24::ud13 (.int .i64 high::.int .i64 t24::ud2 (.int .i64 wide::.int .i64 0::ud17 [])))) H (zx 2 (zx 1 (seqQ (exL Tryz.prog z5w (cr (cr (cr (cl (cl (cr (cl (cr (cr (cr (zr Tryz.f82))))))))))) 25166149 192 [(0,320)]) (R))))) (R (.exit 0) (ud6 (.pointer (some ⟨b1,0,none⟩)::ud::.pointer (some ⟨b2,0,none⟩)::ud37 [])) H)):=by kernel_rfl
def zwg (b1 b2:Nat) (high:Int) (light_f:Fn) (light_x:Array Value) (light_y:Array Value) (wide:Int) (Inv:Nat→Int→zq→Prop):Nat→List Value→zq→Prop:=fun μ tm H=>∃(t24:Int),tm=(zjs b1 b2 high light_f light_x light_y wide t24)∧Inv μ t24 H
theorem z1he (b1 b2:Nat) (high:Int) (light_f:Fn) (light_x:Array Value) (light_y:Array Value) (wide:Int) {Q:Post} (Inv:Nat→Int→zq→Prop) (ν:Nat) (t24:Int)  (H:zq) (h0:Inv ν t24 H)
  (hs:∀(μ:Nat) (t24:Int)  (H:zq),Inv μ t24 H→exL Tryz.prog z5w (cl (cl (cr (cl (cr (cr (cr (zr Tryz.f82)))))))) 25166149 192 [(0,320)] (zjs b1 b2 high light_f light_x light_y wide t24) H (z1b (zwg b1 b2 high light_f light_x light_y wide Inv) μ Q)):z1j (exL Tryz.prog z5w (cl (cl (cr (cl (cr (cr (cr (zr Tryz.f82)))))))) 25166149 192 [(0,320)]) (zjs b1 b2 high light_f light_x light_y wide t24) H Q:=
 ⟨zwg b1 b2 high light_f light_x light_y wide Inv,ν,⟨t24,rfl,h0⟩,fun μ tm H h=>by obtain ⟨t24,rfl,hI⟩:=h;exact hs μ t24  H hI⟩
theorem z1hg {b1 b2:Nat} {high:Int} {light_f:Fn} {light_x:Array Value} {light_y:Array Value} {wide:Int} {Q:Post} {Inv:Nat→Int→zq→Prop} {μ:Nat} (μ':Nat) {t24:Int}  {H:zq} (hm:μ'<μ) (hI:Inv μ' t24 H):z1b (zwg b1 b2 high light_f light_x light_y wide Inv) μ Q .normal (zjs b1 b2 high light_f light_x light_y wide t24) H:=⟨μ',hm,t24,rfl,hI⟩
theorem z12k (b1 b2:Nat) (H:zq) (K:KT)  {I:Nat→List Value→zq→Prop} {μ:Nat}:z1b I μ (zx 0 (seqQ (exL Tryz.prog z5w (cr (cr (cr (cr (zr Tryz.f82))))) 192 192 []) (retK Tryz.prog Tryz.f82 K))) (.exit 0) (ud6 (.pointer (some ⟨b1,0,none⟩)::ud::.pointer (some ⟨b2,0,none⟩)::ud37 [])) H=
 (∃c7:Int,∃c8:Int,∃fi:OA,∃ii:Nat,∃gi:Nat,  rdN H b2 0 3=some [.int .i64 c7,.int .i64 c8,.slice fi ii gi]∧ztl c7 c8 fi ii gi H fun (r3:Int) (r4:Int) (a1:OA) (r5:Nat) (r6:Nat) (r7:Bool) (H12:zq)=>isOwn H12 b1∧(∃l,rdN H12 b1 0 3=some l)∧Lt (setN H12 b1 0 [.int .i64 r3,.int .i64 r4,.slice a1 r5 r6]) fun H13=>∃c10:Int,∃c11:Int,∃ti:OA,∃vi:Nat,∃ui:Nat,  rdN H13 b1 0 3=some [.int .i64 c10,.int .i64 c11,.slice ti vi ui]∧K (.tuple #[.agg #[.int .i64 c10,.int .i64 c11,.slice ti vi ui],.bool r7]) H13):=by kernel_rfl
abbrev zjt (b1 b2:Nat) (high:Int) (light_f:Fn) (light_x:Array Value) (light_y:Array Value) (t24 wide t28:Int)  :List Value:=(.int .i64 wide::ud::.func light_f light_x light_y::ud3 (.pointer (some ⟨b1,0,none⟩)::ud::.pointer (some ⟨b2,0,none⟩)::.int .i64 t24::ud13 (.int .i64 high::.int .i64 t24::ud2 (.int .i64 wide::.int .i64 t28::ud17 []))))
theorem z1hj (b1 b2:Nat) (high:Int) (light_f:Fn) (light_x:Array Value) (light_y:Array Value) (t24 wide t28:Int)  (H:zq) (R:Post):exL Tryz.prog z5w (cl (cl (cr (cr (cl (cl (cr (cr (cl (cl (cr (cl (cr (cr (cr (zr Tryz.f82)))))))))))))))) 427819845 192 [(2,25166149),(1,25166149),(0,320)] (zjt b1 b2 high light_f light_x light_y t24 wide t28) H R=
 (Br (decide ((t28:Int)<wide)) (∃fh:OA,∃bh:Nat,∃qh:Nat,  rdC H b2 2=some (.slice fh bh qh)∧chk (valQ z5w (.func light_f light_x light_y)) (zf1 z5w (.func light_f light_x light_y) [.int .i64 t28,.int .i64 t24] H fun (w1:Value) (H8:zq)=>bsV (.float .f32 0) w1 H8 fun b3 H9=>∃o1 w2:List Value,ownB H9 fh bh qh 1=some o1∧rdS H9 (some ⟨b3,0,none⟩) (1*1)=some w2∧((fh:OA)=none→0<(1:Nat))∧(bh:Nat)+1<most∧Ap H9 (z2y H9 fh++[some ⟨o1++w2,true⟩]) fun b4 H10=>isOwn H10 b2∧(∃l,rdN H10 b2 2 1=some l)∧Lt (setC H10 b2 2 (.slice (some ⟨b4,0,none⟩) (bh+1) 1)) fun H11=>R .normal (.int .i64 wide::ud::.func light_f light_x light_y::ud3 (.pointer (some ⟨b1,0,none⟩)::ud::.pointer (some ⟨b2,0,none⟩)::.int .i64 t24::ud13 (.int .i64 high::.int .i64 t24::ud2 (.int .i64 wide::.int .i64 (IntKind.wrap .i64 (t28+1))::ud17 [])))) H11)) (R (.exit 2) (.int .i64 wide::ud::.func light_f light_x light_y::ud3 (.pointer (some ⟨b1,0,none⟩)::ud::.pointer (some ⟨b2,0,none⟩)::ud14 (.int .i64 high::.int .i64 t24::ud21 []))) H)):=by kernel_rfl
def zwh (b1 b2:Nat) (high:Int) (light_f:Fn) (light_x:Array Value) (light_y:Array Value) (t24 wide:Int) (Inv:Nat→Int→zq→Prop):Nat→List Value→zq→Prop:=fun μ tm H=>∃(t28:Int),tm=(zjt b1 b2 high light_f light_x light_y t24 wide t28)∧Inv μ t28 H
theorem z1hf (b1 b2:Nat) (high:Int) (light_f:Fn) (light_x:Array Value) (light_y:Array Value) (t24 wide:Int) {Q:Post} (Inv:Nat→Int→zq→Prop) (ν:Nat) (t28:Int)  (H:zq) (h0:Inv ν t28 H)
  (hs:∀(μ:Nat) (t28:Int)  (H:zq),Inv μ t28 H→exL Tryz.prog z5w (cl (cl (cr (cr (cl (cl (cr (cr (cl (cl (cr (cl (cr (cr (cr (zr Tryz.f82)))))))))))))))) 427819845 192 [(2,25166149),(1,25166149),(0,320)] (zjt b1 b2 high light_f light_x light_y t24 wide t28) H (z1b (zwh b1 b2 high light_f light_x light_y t24 wide Inv) μ Q)):z1j (exL Tryz.prog z5w (cl (cl (cr (cr (cl (cl (cr (cr (cl (cl (cr (cl (cr (cr (cr (zr Tryz.f82)))))))))))))))) 427819845 192 [(2,25166149),(1,25166149),(0,320)]) (zjt b1 b2 high light_f light_x light_y t24 wide t28) H Q:=
 ⟨zwh b1 b2 high light_f light_x light_y t24 wide Inv,ν,⟨t28,rfl,h0⟩,fun μ tm H h=>by obtain ⟨t28,rfl,hI⟩:=h;exact hs μ t28  H hI⟩
theorem z1hh {b1 b2:Nat} {high:Int} {light_f:Fn} {light_x:Array Value} {light_y:Array Value} {t24 wide:Int} {Q:Post} {Inv:Nat→Int→zq→Prop} {μ:Nat} (μ':Nat) {t28:Int}  {H:zq} (hm:μ'<μ) (hI:Inv μ' t28 H):z1b (zwh b1 b2 high light_f light_x light_y t24 wide Inv) μ Q .normal (zjt b1 b2 high light_f light_x light_y t24 wide t28) H:=⟨μ',hm,t28,rfl,hI⟩
theorem z12l (b1 b2:Nat) (high:Int) (light_f:Fn) (light_x:Array Value) (light_y:Array Value) (t24 wide:Int) (H:zq)  (R:Post) {I:Nat→List Value→zq→Prop} {μ:Nat}:z1b I μ (zx 2 (zx 1 (seqQ (exL Tryz.prog z5w (cr (cr (cr (cl (cl (cr (cl (cr (cr (cr (zr Tryz.f82))))))))))) 25166149 192 [(0,320)]) (R)))) (.exit 2) (.int .i64 wide::ud::.func light_f light_x light_y::ud3 (.pointer (some ⟨b1,0,none⟩)::ud::.pointer (some ⟨b2,0,none⟩)::ud14 (.int .i64 high::.int .i64 t24::ud21 []))) H=
 (R .normal (.int .i64 wide::ud::.func light_f light_x light_y::ud3 (.pointer (some ⟨b1,0,none⟩)::ud::.pointer (some ⟨b2,0,none⟩)::ud14 (.int .i64 high::.int .i64 (IntKind.wrap .i64 (t24+1))::ud21 []))) H):=by kernel_rfl
theorem zyy:∀g,FnOk Tryz.prog g (z5w g):=FnOk.envOf (by
 intro x hx
 simp only [List.mem_cons,List.not_mem_nil,or_false] at hx
 rcases hx with rfl | rfl | rfl | rfl | rfl
 ·exact zl3 _
 ·exact zdj
 ·exact f2z_ok
 ·exact z1fj
 ·exact f7z_ok)
theorem z12j (wide high:Int) (light_f:Fn) (light_x:Array Value) (light_y:Array Value) (H:zq) (K:KT) (h:zu5 wide high light_f light_x light_y H fun (sd:Int) (pd:Int) (ja:OA) (oa:Nat) (ma:Nat) (r2:Bool) (H':zq)=>K (.tuple #[.agg #[.int .i64 sd,.int .i64 pd,.slice ja oa ma],.bool r2]) H'):z1a Tryz.prog z5w Tryz.f82 [.int .i64 wide,.int .i64 high,.func light_f light_x light_y] H K:=by
 rw [z1hk]
 obtain ⟨g,hq,hch,hk⟩:=h
 have ep:z8x wide high g=(bif z3f wide 1 16 then (bif z3f high 1 16 then z9s wide high (picL wide.toNat high.toNat g) else (0,0,[],false)) else (0,0,[],false)):=rfl
 rw [ep] at hk
 refine Al.intro fun b1 H1 e1 l1 g1 o1=>?_
 unfold z5e
 refine Br.intro (fun hb=>?_) (fun hb=>?_)
 ·refine Lt.setN o1 (n:=3) ω23 rfl fun H3 l3 q3 k3=>⟨0,0,none,0,0,(q3.rdN (Nat.le_of_ble_eq_true rfl)).trans rfl,?_⟩
  rw [z1f hb,cond_false] at hk
  exact hk none 0 0 H3 (g1.keep ω2 k3) (OwnS.nil _ _ _ _)
 have hw:=z4v (z1e hb)
 rw [z1e hb,cond_true] at hk
 refine Br.intro (fun hb2=>?_) (fun hb2=>?_)
 ·refine Lt.setN o1 (n:=3) ω23 rfl fun H3 l3 q3 k3=>⟨0,0,none,0,0,(q3.rdN (Nat.le_of_ble_eq_true rfl)).trans rfl,?_⟩
  rw [z1f hb2,cond_false] at hk
  exact hk none 0 0 H3 (g1.keep ω2 k3) (OwnS.nil _ _ _ _)
 have hh:=z4v (z1e hb2)
 rw [z1e hb2,cond_true] at hk
 refine Al.intro fun b2 H6 e6 l6 g6 o6=>Lt.setN o6 (n:=3) ω23 rfl fun H7 l7 q7 k7=>?_
 have p1:=(o1.grow g6).keep (b':=b2) ω2 k7
 have G7:Grow H H7:=(g1.trans g6).keep (by have:=g1.1;omega) k7
 obtain ⟨w,rfl⟩:∃w:Nat,wide=(w:Int):=⟨wide.toNat,by omega⟩
 obtain ⟨h,rfl⟩:∃h:Nat,high=(h:Int):=⟨high.toNat,by omega⟩
 simp only [Int.toNat_natCast] at hk
 refine z1he b1 b2 (h:Int) light_f light_x light_y (w:Int) (fun μ t H'=>∃k:Nat,t=(k:Int)∧k≤h∧μ=h-k∧z3a b2 H7 H'∧∃(a:OA) (n e:Nat),Own H' b2 [.int .i64 (w:Int),.int .i64 (h:Int),.slice a n e]∧OwnS fF H' H7.length a n e (picL w k g)) h 0 H7
  ⟨0,rfl,Nat.zero_le _,rfl,⟨Nat.le_refl _,fun _ _ _=>rfl⟩,none,0,0,q7,OwnS.nil _ _ _ _⟩ ?_
 intro μ t H' hI
 obtain ⟨k,rfl,hkm,rfl,kp,a,n,e,ob,os⟩:=hI
 have hn:=os.len
 rw [z2r] at hn
 have hkw:k*w≤16*16:=Nat.mul_le_mul ω2 ω2
 have lkp:=kp.1
 rw [z1hi]
 refine Br.intro (fun hc=>?_) (fun hc=>?_)
 ·have hc':=of_decide_eq_true hc
  have hkm':k<h:=by omega
  refine z1hf b1 b2 (h:Int) light_f light_x light_y (k:Int) (w:Int) (fun μ t H2=>∃u:Nat,t=(u:Int)∧u≤w∧μ=w-u∧z3a b2 H7 H2∧∃(a:OA) (n e:Nat),Own H2 b2 [.int .i64 (w:Int),.int .i64 (h:Int),.slice a n e]∧OwnS fF H2 H7.length a n e (picL w k g++rowL u fun u=>g u (k:Int))) w 0 H'
   ⟨0,rfl,Nat.zero_le _,rfl,kp,a,n,e,ob,by rw [show rowL 0 (fun u=>g u (k:Int))=[] from rfl,List.append_nil];exact os⟩ ?_
  intro μ2 t2 H2 hI2
  obtain ⟨u,rfl,hum,rfl,kp2,a2,n2,e2,ob2,os2⟩:=hI2
  have hn2:=os2.len
  rw [List.length_append,z2r,zai] at hn2
  have lkp2:=kp2.1
  rw [z1hj]
  refine Br.intro (fun hd=>?_) (fun hd=>?_)
  ·have hd':=of_decide_eq_true hd
   have hum':u<w:=by omega
   refine ⟨a2,n2,e2,(ob2.rdC 2).trans rfl,?_⟩
   rw [hq]
   refine hch (u:Int) (k:Int) ω2 hd' ω2 hc' hw.2 hh.2 H2 (G7.keep (by have:=g1.1;omega) kp2) _ fun H8 g8=>?_
   have os3:=os2.grow g8
   have ob3:=ob2.grow g8
   rw [z1a0]
   refine Al.intro fun b3 H9 e9 l9 g9 o9=>?_
   have os4:=os3.grow g9
   have ob4:=ob3.grow g9
   refine ⟨_,_,os4.ownB,o9.rdAll rfl,(fun _=>by omega),ω25,?_⟩
   refine Ap.appS (ys:=[g (u:Int) (k:Int)]) os4 rfl rfl fun b13 H17 e17 l17 o17 k17=>?_
   have lo:=os4.lo
   have:=g8.1
   have:=ob2.lt
   have hup:∀x,a2=some x→x.block≠b2:=fun x hx=>by have:=lo x hx;omega
   have ob5:=ob4.keepA hup k17
   refine Lt.set ob5 (Nat.le_of_ble_eq_true rfl) fun H18 l18 q18 k18=>?_
   refine z1hh (w-(u+1)) ω2 ⟨u+1,by rw [zu ω2 ω2];omega,by omega,rfl,?_,some ⟨b13,0,none⟩,n2+1,1,q18,?_⟩
   ·refine ⟨by omega,fun i hi hne=>?_⟩
    rw [k18.2 i ω2 hne,k17.2 i ω2 (fun x hx=>by have:=lo x hx;omega),g9.2 i ω2,g8.2 i ω2,kp2.2 i hi hne]
   ·rw [zxl,←List.append_assoc]
    exact (o17.keep (b':=b2) ω2 k18).ownS (by simp only [List.length_append,z2r,zai,List.length_cons,List.length_nil];omega) ω2
  ·have hd':=of_decide_eq_false hd
   obtain rfl:u=w:=by omega
   rw [z12l]
   refine z1hg (h-(k+1)) ω2 ⟨k+1,by rw [zu ω2 ω2];omega,by omega,rfl,kp2,a2,n2,e2,ob2,?_⟩
   rw [zef]
   exact os2
 ·have hc':=of_decide_eq_false hc
  obtain rfl:k=h:=by omega
  rw [z12k]
  have c1:=p1.keep (b':=b2) ω2 kp
  have lo:=os.lo
  have G5:Grow H H':=G7.keep (by have:=g1.1;omega) kp
  refine ⟨(w:Int),(k:Int),a,n,e,(ob.rdN (Nat.le_of_ble_eq_true rfl)).trans rfl,ztm ⟨picL w k g,os.isL,by rw [z2r];omega,fun H19 g19=>?_⟩⟩
  refine Br.intro (fun hb=>?_) (fun hb=>?_)
  ·refine Lt.setN (c1.grow g19) (n:=3) ω23 rfl fun H20 l20 q20 k20=>⟨(w:Int),(k:Int),a,n,e,(q20.rdN (Nat.le_of_ble_eq_true rfl)).trans rfl,?_⟩
   have ev:z9s (w:Int) (k:Int) (picL w k g)=((w:Int),(k:Int),picL w k g,true):=by
    rw [z4g] at hb ⊢
    cases hq:!(z1p (w:Int) (k:Int) (picL w k g)) with
    | true=>rw [hq] at hb;cases hb
    | false=>rfl
   rw [ev] at hk
   exact hk a n e H20 ((G5.trans g19).keep ω2 k20) (((os.grow g19).keepA (fun x y hx hy=>by cases hx;have:=lo y hy;have:=o1.lt;have:=g6.1;show b1≠_;omega) (OwnS.keep1 k20)).weak (by have:=G7.1;omega))
  ·refine Lt.setN (c1.grow g19) (n:=3) ω23 rfl fun H20 l20 q20 k20=>⟨0,0,none,0,0,(q20.rdN (Nat.le_of_ble_eq_true rfl)).trans rfl,?_⟩
   have ev:z9s (w:Int) (k:Int) (picL w k g)=(0,0,[],false):=by
    rw [z4g] at hb ⊢
    cases hq:!(z1p (w:Int) (k:Int) (picL w k g)) with
    | true=>rfl
    | false=>rw [hq] at hb;cases hb
   rw [ev] at hk
   exact hk none 0 0 H20 ((G5.trans g19).keep ω2 k20) (OwnS.nil _ _ _ _)
theorem z17q:FnOk Tryz.prog 82 S_fuz:=FnOk.bodyF mix_ok zyy Tryz.func82 rfl ω9 ω9 fun args H=>by
 unfold F_fuz
 split
 ·refine ⟨?_,?_,?_,?_,fun K hk=>z12j _ _ _ _ _ H K hk⟩
  ·intro K K' h hk;obtain ⟨g,hq,hch,k⟩:=hk;exact ⟨g,hq,hch,(fun td yd xd H' gg ow0=>h _ _ (k td yd xd H' gg ow0))⟩
  ·nofun
  ·intro K hk;obtain ⟨g,hq,hch,k⟩:=hk;exact z4m fun a n e H1 g o=>⟨_,_,k a n e H1 g o⟩
  ·intro _ K hk;obtain ⟨g,hq,hch,k⟩:=hk;exact ⟨g,hq,hch,(fun td yd xd H' gg ow0=>⟨gg,k td yd xd H' gg ow0⟩)⟩
 ·exact Nice.no
def z8w (ua va:Int) (ga:LN) (x y wide high:Int):Int×Int×LN×Bool:=bif z8d ua va ga x y wide high then z8x wide high (z5a ga x y ua) else (0,0,[],false)
def zzv (ua va:Int) (ta:OA) (xa ya:Nat) (x y wide high:Int) (H:zq) (K:Int→Int→OA→Nat→Nat→Bool→zq→Prop):Prop:=
 ∃(ga:LN),IsL fF H ta xa ga∧ga.length<1073741824∧
  (∀(td:OA) (yd xd:Nat),∀H':zq,Grow H H'→OwnS fF H' H.length td yd xd ((z8w ua va ga x y wide high).2.2.1)→K ((z8w ua va ga x y wide high).1) ((z8w ua va ga x y wide high).2.1) td yd xd ((z8w ua va ga x y wide high).2.2.2) H')
theorem z19q {ua va:Int} {ta:OA} {xa ya:Nat} {x y wide high:Int} {H:zq} {K:Int→Int→OA→Nat→Nat→Bool→zq→Prop} (h:∃(ga:LN),IsL fF H ta xa ga∧ga.length<1073741824∧
  (∀(td:OA) (yd xd:Nat),∀H':zq,Grow H H'→OwnS fF H' H.length td yd xd ((z8w ua va ga x y wide high).2.2.1)→K ((z8w ua va ga x y wide high).1) ((z8w ua va ga x y wide high).2.1) td yd xd ((z8w ua va ga x y wide high).2.2.2) H')):zzv ua va ta xa ya x y wide high H K:=h
theorem z1cf (W Hi:Int) (l:LN) (x y wide high:Int):((z8w W Hi l x y wide high).2.2.1.length:Int)≤256:=by
 unfold z8w
 cases z8d W Hi l x y wide high with
 | false=>show ((0:Nat):Int)≤256;omega
 | true=>exact zbj _ _ _
/-! faz: function 36 -/
def E_faz:Env:=envOf [(81,ztd),(82,S_fuz)]
def F_faz (args:List Value) (H:zq):(Value→zq→Prop)→Prop:=match args with
 | [.agg ⟨[.int .i64 ua,.int .i64 va,.slice ta xa ya]⟩,.int .i64 x,.int .i64 y,.int .i64 wide,.int .i64 high]=>fun K=>zzv ua va ta xa ya x y wide high H fun (sd:Int) (pd:Int) (ja:OA) (oa:Nat) (ma:Nat) (r2:Bool) (H':zq)=>K (.tuple #[.agg #[.int .i64 sd,.int .i64 pd,.slice ja oa ma],.bool r2]) H'
 | _=>fun _=>False
def S_faz:FSpec:={F:=F_faz,quiet:=false,tame:=true}
theorem z1fd (ua va:Int) (ta:OA) (xa ya:Nat) (x y wide high:Int) (H:zq) (K:KT):z1a Tryz.prog E_faz Tryz.f36 [.agg #[.int .i64 ua,.int .i64 va,.slice ta xa ya],.int .i64 x,.int .i64 y,.int .i64 wide,.int .i64 high] H K=
 (Al [.int .i64 ua,.int .i64 va,.slice ta xa ya] H fun b1 H1=>Al [.int .i64 x] H1 fun b2 H2=>Al [.int .i64 y] H2 fun b3 H3=>Al [.int .i64 0,.int .i64 0,.slice none 0 0] H3 fun b4 H4=>∃c1:Int,∃c2:Int,∃kh:OA,∃mh:Nat,∃lh:Nat,  rdN H4 b1 0 3=some [.int .i64 c1,.int .i64 c2,.slice kh mh lh]∧∃x1:Int,  rdC H4 b2 0=some (.int .i64 x1)∧∃x2:Int,  rdC H4 b3 0=some (.int .i64 x2)∧zim c1 c2 kh mh lh x1 x2 wide high H4 fun (r1:Bool) (H5:zq)=>Br (!r1) (isOwn H5 b4∧(∃l,rdN H5 b4 0 3=some l)∧Lt (setN H5 b4 0 [.int .i64 0,.int .i64 0,.slice none 0 0]) fun H6=>∃c4:Int,∃c5:Int,∃th:OA,∃vh:Nat,∃uh:Nat,  rdN H6 b4 0 3=some [.int .i64 c4,.int .i64 c5,.slice th vh uh]∧K (.tuple #[.agg #[.int .i64 c4,.int .i64 c5,.slice th vh uh],.bool false]) H6) (zu5 wide high (.func 83) #[] #[.pointer (some ⟨b1,0,none⟩),.pointer (some ⟨b3,0,none⟩),.pointer (some ⟨b2,0,none⟩)] H5 fun (r2:Int) (r3:Int) (a1:OA) (r4:Nat) (r5:Nat) (r6:Bool) (H7:zq)=>isOwn H7 b4∧(∃l,rdN H7 b4 0 3=some l)∧Lt (setN H7 b4 0 [.int .i64 r2,.int .i64 r3,.slice a1 r4 r5]) fun H8=>∃c7:Int,∃c8:Int,∃fi:OA,∃ii:Nat,∃gi:Nat,  rdN H8 b4 0 3=some [.int .i64 c7,.int .i64 c8,.slice fi ii gi]∧K (.tuple #[.agg #[.int .i64 c7,.int .i64 c8,.slice fi ii gi],.bool r6]) H8)):=by kernel_rfl
theorem zyf:∀g,FnOk Tryz.prog g (E_faz g):=FnOk.envOf (by
 intro x hx
 simp only [List.mem_cons,List.not_mem_nil,or_false] at hx
 rcases hx with rfl | rfl
 ·exact f19z_ok
 ·exact z17q)
theorem zev {H:zq} {b bx bY:Nat} {la:OA} {ln le:Nat} {l:LN} {W Hi x y w h:Int} (o:Own H b [.int .i64 W,.int .i64 Hi,.slice la ln le]) (ox:Own H bx [.int .i64 x]) (oy:Own H bY [.int .i64 y]) (il:IsL fF H la ln l) (bl:l.length<1073741824) (h2:W≤16) (h4:Hi≤16) (hl:(l.length:Int)=W*Hi) (x0:0≤x) (y0:0≤y) (hx:x+w≤W) (hy:y+h≤Hi):
  zh1 z5w (.func (.func 83) #[] #[.pointer (some ⟨b,0,none⟩),.pointer (some ⟨bY,0,none⟩),.pointer (some ⟨bx,0,none⟩)]) H w h (z5a l x y W):=by
 intro u v u0 u1 v0 v1 _ _ H1 gg K hK
 refine (?_:T_f2z u v b bY bx H1 fun r H'=>K (.float .f32 r) H')
 exact ⟨W,Hi,la,ln,le,y,x,l,((o.grow gg).rdN (Nat.le_of_ble_eq_true rfl)).trans rfl,((oy.grow gg).rdN (Nat.le_of_ble_eq_true rfl)).trans rfl,((ox.grow gg).rdN (Nat.le_of_ble_eq_true rfl)).trans rfl,il.grow gg,bl,u0,v0,y0,x0,by omega,by omega,h2,h4,hl,hK H1 (Grow.refl H1)⟩
theorem z10v (ua va:Int) (ta:OA) (xa ya:Nat) (x y wide high:Int) (H:zq) (K:KT) (h:zzv ua va ta xa ya x y wide high H fun (sd:Int) (pd:Int) (ja:OA) (oa:Nat) (ma:Nat) (r2:Bool) (H':zq)=>K (.tuple #[.agg #[.int .i64 sd,.int .i64 pd,.slice ja oa ma],.bool r2]) H'):z1a Tryz.prog E_faz Tryz.f36 [.agg #[.int .i64 ua,.int .i64 va,.slice ta xa ya],.int .i64 x,.int .i64 y,.int .i64 wide,.int .i64 high] H K:=by
 rw [z1fd]
 obtain ⟨l,il,bl,hk⟩:=h
 obtain rfl:=il.eqn
 have ep:z8w ua va l x y wide high=(bif z8d ua va l x y wide high then z8x wide high (z5a l x y ua) else (0,0,[],false)):=rfl
 rw [ep] at hk
 refine Al.intro fun b1 H1 e1 l1 g1 o1=>Al.intro fun b2 H2 e2 l2 g2 o2=>Al.intro fun b3 H3 e3 l3 g3 o3=>Al.intro fun b4 H4 e4 l4 g4 o4=>?_
 have p1:=((o1.grow g2).grow g3).grow g4
 have p2:=(o2.grow g3).grow g4
 have p3:=o3.grow g4
 have G4:Grow H H4:=((g1.trans g2).trans g3).trans g4
 refine ⟨ua,va,ta,l.length,ya,(p1.rdN (Nat.le_of_ble_eq_true rfl)).trans rfl,x,(p2.rdC 0).trans rfl,y,(p3.rdC 0).trans rfl,zng ⟨l,il.grow G4,bl,fun H5 g5=>?_⟩⟩
 have q4:=o4.grow g5
 refine Br.intro (fun hp=>?_) (fun hp=>?_)
 ·refine Lt.setN q4 (n:=3) ω23 rfl fun H6 l6 q6 k6=>⟨0,0,none,0,0,(q6.rdN (Nat.le_of_ble_eq_true rfl)).trans rfl,?_⟩
  rw [z1f hp,cond_false] at hk
  exact hk none 0 0 H6 ((G4.trans g5).keep ω2 k6) (OwnS.nil _ _ _ _)
 have hpv:=z1e hp
 rw [hpv,cond_true] at hk
 obtain ⟨_,w2,_,w4,w5,_,x0,y0,_,_,hx,hy⟩:=f19z_t hpv
 have G5:Grow H H5:=G4.trans g5
 refine zu6 ⟨z5a l x y ua,rfl,zev (p1.grow g5) (p2.grow g5) (p3.grow g5) (il.grow G5) bl w2 w4 w5 x0 y0 hx hy,fun a n e H7 g7 o7=>?_⟩
 have lo:=o7.lo
 have hle:=G5.1
 refine Lt.setN (q4.grow g7) (n:=3) ω23 rfl fun H8 l8 q8 k8=>⟨_,_,a,n,e,(q8.rdN (Nat.le_of_ble_eq_true rfl)).trans rfl,?_⟩
 exact hk a n e H8 ((G5.trans g7).keep ω2 k8) ((o7.keepA (fun x y hx hy=>by cases hx;have:=lo y hy;have:=q4.lt;show b4≠_;omega) (OwnS.keep1 k8)).weak hle)
theorem z1fc:FnOk Tryz.prog 36 S_faz:=FnOk.bodyF mix_ok zyf Tryz.func36 rfl ω9 ω9 fun args H=>by
 unfold F_faz
 split
 ·refine ⟨?_,?_,?_,?_,fun K hk=>z10v _ _ _ _ _ _ _ _ _ H K hk⟩
  ·intro K K' h hk;obtain ⟨l,i,b,k⟩:=hk;exact ⟨l,i,b,(fun td yd xd H' gg ow0=>h _ _ (k td yd xd H' gg ow0))⟩
  ·nofun
  ·intro K hk;obtain ⟨l,i,b,k⟩:=hk;exact z4m fun a n e H1 g o=>⟨_,_,k a n e H1 g o⟩
  ·intro _ K hk;obtain ⟨l,i,b,k⟩:=hk;exact ⟨l,i,b,(fun td yd xd H' gg ow0=>⟨gg,k td yd xd H' gg ow0⟩)⟩
 ·exact Nice.no
def swapF (l:LN) (W x y:Int):Nat:=l.getD (x*W+y).toNat 0
def z7y (ua va:Int) (ga:LN):Int×Int×LN×Bool:=bif z1p ua va ga then z8x va ua (swapF ga ua) else (0,0,[],false)
def zu2 (ua va:Int) (ta:OA) (xa ya:Nat) (H:zq) (K:Int→Int→OA→Nat→Nat→Bool→zq→Prop):Prop:=
 ∃(ga:LN),IsL fF H ta xa ga∧ga.length<1073741824∧
  (∀(td:OA) (yd xd:Nat),∀H':zq,Grow H H'→OwnS fF H' H.length td yd xd ((z7y ua va ga).2.2.1)→K ((z7y ua va ga).1) ((z7y ua va ga).2.1) td yd xd ((z7y ua va ga).2.2.2) H')
theorem zu3 {ua va:Int} {ta:OA} {xa ya:Nat} {H:zq} {K:Int→Int→OA→Nat→Nat→Bool→zq→Prop} (h:∃(ga:LN),IsL fF H ta xa ga∧ga.length<1073741824∧
  (∀(td:OA) (yd xd:Nat),∀H':zq,Grow H H'→OwnS fF H' H.length td yd xd ((z7y ua va ga).2.2.1)→K ((z7y ua va ga).1) ((z7y ua va ga).2.1) td yd xd ((z7y ua va ga).2.2.2) H')):zu2 ua va ta xa ya H K:=h
theorem zwb (W Hi:Int) (l:LN):((z7y W Hi l).2.2.1.length:Int)≤256:=by
 unfold z7y
 cases z1p W Hi l with
 | false=>show ((0:Nat):Int)≤256;omega
 | true=>exact zbj _ _ _
/-! fqz: function 38 -/
def E_fqz:Env:=envOf [(50,zll),(82,S_fuz)]
def F_fqz (args:List Value) (H:zq):(Value→zq→Prop)→Prop:=match args with
 | [.agg ⟨[.int .i64 ua,.int .i64 va,.slice ta xa ya]⟩]=>fun K=>zu2 ua va ta xa ya H fun (sd:Int) (pd:Int) (ja:OA) (oa:Nat) (ma:Nat) (r2:Bool) (H':zq)=>K (.tuple #[.agg #[.int .i64 sd,.int .i64 pd,.slice ja oa ma],.bool r2]) H'
 | _=>fun _=>False
def S_fqz:FSpec:={F:=F_fqz,quiet:=false,tame:=true}
theorem z1h4 (ua va:Int) (ta:OA) (xa ya:Nat) (H:zq) (K:KT):z1a Tryz.prog E_fqz Tryz.f38 [.agg #[.int .i64 ua,.int .i64 va,.slice ta xa ya]] H K=
 (Al [.int .i64 ua,.int .i64 va,.slice ta xa ya] H fun b1 H1=>Al [.int .i64 0,.int .i64 0,.slice none 0 0] H1 fun b2 H2=>∃c1:Int,∃c2:Int,∃kh:OA,∃mh:Nat,∃lh:Nat,  rdN H2 b1 0 3=some [.int .i64 c1,.int .i64 c2,.slice kh mh lh]∧zh7 c1 c2 kh mh lh H2 fun (r1:Bool) (H3:zq)=>Br (!r1) (isOwn H3 b2∧(∃l,rdN H3 b2 0 3=some l)∧Lt (setN H3 b2 0 [.int .i64 0,.int .i64 0,.slice none 0 0]) fun H4=>∃c4:Int,∃c5:Int,∃th:OA,∃vh:Nat,∃uh:Nat,  rdN H4 b2 0 3=some [.int .i64 c4,.int .i64 c5,.slice th vh uh]∧K (.tuple #[.agg #[.int .i64 c4,.int .i64 c5,.slice th vh uh],.bool false]) H4) (∃x1:Int,  rdC H3 b1 1=some (.int .i64 x1)∧∃x2:Int,  rdC H3 b1 0=some (.int .i64 x2)∧zu5 x1 x2 (.func 84) #[] #[.pointer (some ⟨b1,0,none⟩)] H3 fun (r2:Int) (r3:Int) (a1:OA) (r4:Nat) (r5:Nat) (r6:Bool) (H5:zq)=>isOwn H5 b2∧(∃l,rdN H5 b2 0 3=some l)∧Lt (setN H5 b2 0 [.int .i64 r2,.int .i64 r3,.slice a1 r4 r5]) fun H6=>∃c7:Int,∃c8:Int,∃fi:OA,∃ii:Nat,∃gi:Nat,  rdN H6 b2 0 3=some [.int .i64 c7,.int .i64 c8,.slice fi ii gi]∧K (.tuple #[.agg #[.int .i64 c7,.int .i64 c8,.slice fi ii gi],.bool r6]) H6)):=by kernel_rfl
theorem zyv:∀g,FnOk Tryz.prog g (E_fqz g):=FnOk.envOf (by
 intro x hx
 simp only [List.mem_cons,List.not_mem_nil,or_false] at hx
 rcases hx with rfl | rfl
 ·exact f6z_ok
 ·exact z17q)
theorem zil {H:zq} {b:Nat} {la:OA} {ln le:Nat} {l:LN} {W Hi:Int} (o:Own H b [.int .i64 W,.int .i64 Hi,.slice la ln le]) (il:IsL fF H la ln l) (bl:l.length<1073741824) (h2:W≤16) (h4:Hi≤16) (hl:(l.length:Int)=W*Hi):
  zh1 z5w (.func (.func 84) #[] #[.pointer (some ⟨b,0,none⟩)]) H Hi W (swapF l W):=by
 intro u v u0 u1 v0 v1 _ _ H1 gg K hK
 refine (?_:T_fcz u v b H1 fun r H'=>K (.float .f32 r) H')
 exact ⟨W,Hi,la,ln,le,l,((o.grow gg).rdN (Nat.le_of_ble_eq_true rfl)).trans rfl,il.grow gg,bl,u0,v0,u1,v1,h2,h4,hl,hK H1 (Grow.refl H1)⟩
theorem z12b (ua va:Int) (ta:OA) (xa ya:Nat) (H:zq) (K:KT) (h:zu2 ua va ta xa ya H fun (sd:Int) (pd:Int) (ja:OA) (oa:Nat) (ma:Nat) (r2:Bool) (H':zq)=>K (.tuple #[.agg #[.int .i64 sd,.int .i64 pd,.slice ja oa ma],.bool r2]) H'):z1a Tryz.prog E_fqz Tryz.f38 [.agg #[.int .i64 ua,.int .i64 va,.slice ta xa ya]] H K:=by
 rw [z1h4]
 obtain ⟨l,il,bl,hk⟩:=h
 obtain rfl:=il.eqn
 have ep:z7y ua va l=(bif z1p ua va l then z8x va ua (swapF l ua) else (0,0,[],false)):=rfl
 rw [ep] at hk
 refine Al.intro fun b1 H1 e1 l1 g1 o1=>Al.intro fun b2 H2 e2 l2 g2 o2=>?_
 have p1:=o1.grow g2
 have G2:Grow H H2:=g1.trans g2
 refine ⟨ua,va,ta,l.length,ya,(p1.rdN (Nat.le_of_ble_eq_true rfl)).trans rfl,zbo ⟨l,il.grow G2,bl,fun H3 g3=>?_⟩⟩
 have q2:=o2.grow g3
 refine Br.intro (fun hp=>?_) (fun hp=>?_)
 ·refine Lt.setN q2 (n:=3) ω23 rfl fun H4 l4 q4 k4=>⟨0,0,none,0,0,(q4.rdN (Nat.le_of_ble_eq_true rfl)).trans rfl,?_⟩
  rw [z1f hp,cond_false] at hk
  exact hk none 0 0 H4 ((G2.trans g3).keep ω2 k4) (OwnS.nil _ _ _ _)
 have hpv:=z1e hp
 rw [hpv,cond_true] at hk
 obtain ⟨w1,w2,w3,w4,w5,w6,w7⟩:=f6z_t hpv
 have q1:=p1.grow g3
 have G3:Grow H H3:=G2.trans g3
 refine ⟨va,(q1.rdC 1).trans rfl,ua,(q1.rdC 0).trans rfl,zu6 ⟨swapF l ua,rfl,zil q1 (il.grow G3) bl w2 w4 w5,fun a n e H5 g5 o5=>?_⟩⟩
 have lo:=o5.lo
 have hle:=G3.1
 refine Lt.setN (q2.grow g5) (n:=3) ω23 rfl fun H6 l6 q6 k6=>⟨_,_,a,n,e,(q6.rdN (Nat.le_of_ble_eq_true rfl)).trans rfl,?_⟩
 exact hk a n e H6 ((G3.trans g5).keep ω2 k6) ((o5.keepA (fun x y hx hy=>by cases hx;have:=lo y hy;have:=q2.lt;show b2≠_;omega) (OwnS.keep1 k6)).weak hle)
theorem z1h3:FnOk Tryz.prog 38 S_fqz:=FnOk.bodyF mix_ok zyv Tryz.func38 rfl ω9 ω9 fun args H=>by
 unfold F_fqz
 split
 ·refine ⟨?_,?_,?_,?_,fun K hk=>z12b _ _ _ _ _ H K hk⟩
  ·intro K K' h hk;obtain ⟨l,i,b,k⟩:=hk;exact ⟨l,i,b,(fun td yd xd H' gg ow0=>h _ _ (k td yd xd H' gg ow0))⟩
  ·nofun
  ·intro K hk;obtain ⟨l,i,b,k⟩:=hk;exact z4m fun a n e H1 g o=>⟨_,_,k a n e H1 g o⟩
  ·intro _ K hk;obtain ⟨l,i,b,k⟩:=hk;exact ⟨l,i,b,(fun td yd xd H' gg ow0=>⟨gg,k td yd xd H' gg ow0⟩)⟩
 ·exact Nice.no

def z8v (bc:LN) (j:Int):Nat×Nat:=(((bc).getD (j:Int).toNat 0),((bc).getD ((if (((bc.length:Int)-1):Int)<(j+1) then ((bc.length:Int)-1) else (j+1)):Int).toNat 0))
def zoq:=@z8v.eq_1
def zzr (xc:OA) (nc od:Nat) (j:Int) (H:zq) (K:Nat→Nat→zq→Prop):Prop:=∃(bc:LN),IsL fF H xc nc bc∧bc.length<1073741824∧0≤j∧j<bc.length∧K ((z8v bc j).1) ((z8v bc j).2) H
theorem z19l {xc:OA} {nc od:Nat} {j:Int} {H:zq} {K:Nat→Nat→zq→Prop} (h:∃(bc:LN),IsL fF H xc nc bc∧bc.length<1073741824∧0≤j∧j<bc.length∧K ((z8v bc j).1) ((z8v bc j).2) H):zzr xc nc od j H K:=h

/-! f1z: function 145 -/
def E_f1z:Env:=envOf []
def F_f1z (args:List Value) (H:zq):(Value→zq→Prop)→Prop:=match args with
 | [.slice xc nc od,.int .i64 j]=>fun K=>zzr xc nc od j H fun (r1:Nat) (r2:Nat) (H':zq)=>K (.tuple #[.float .f32 r1,.float .f32 r2]) H'
 | _=>fun _=>False
def S_f1z:FSpec:={F:=F_f1z,quiet:=true,tame:=false}
theorem f1z_vc (xc:OA) (nc od:Nat) (j:Int) (H:zq) (K:KT):z1a Tryz.prog E_f1z Tryz.f145 [.slice xc nc od,.int .i64 j] H K=
 ((0:Int)≤j∧j<(nc:Int)∧∃b1 f1,(xc:OA)=some ⟨b1,f1,none⟩∧∃x1:Nat,  rdC H b1 (f1+(j:Int).toNat*1)=some (.float .f32 x1)∧(0:Int)≤(if (IntKind.wrap .i64 ((nc:Int)-1):Int)<IntKind.wrap .i64 (j+1) then IntKind.wrap .i64 ((nc:Int)-1) else IntKind.wrap .i64 (j+1))∧(if (IntKind.wrap .i64 ((nc:Int)-1):Int)<IntKind.wrap .i64 (j+1) then IntKind.wrap .i64 ((nc:Int)-1) else IntKind.wrap .i64 (j+1))<(nc:Int)∧∃b2 f2,(xc:OA)=some ⟨b2,f2,none⟩∧∃x2:Nat,  rdC H b2 (f2+((if (IntKind.wrap .i64 ((nc:Int)-1):Int)<IntKind.wrap .i64 (j+1) then IntKind.wrap .i64 ((nc:Int)-1) else IntKind.wrap .i64 (j+1)):Int).toNat*1)=some (.float .f32 x2)∧K (.tuple #[.float .f32 x1,.float .f32 x2]) H):=by kernel_rfl
theorem zy6:∀g,FnOk Tryz.prog g (E_f1z g):=FnOk.envOf (by
 intro x hx;cases hx)
theorem f1z_main (xc:OA) (nc od:Nat) (j:Int) (H:zq) (K:KT) (h:zzr xc nc od j H fun (r1:Nat) (r2:Nat) (H':zq)=>K (.tuple #[.float .f32 r1,.float .f32 r2]) H'):z1a Tryz.prog E_f1z Tryz.f145 [.slice xc nc od,.int .i64 j] H K:=by
 rw [f1z_vc]
 obtain ⟨bc,i_evens,bd_7,pr0,pr1,hk⟩:=h
 obtain rfl:=i_evens.eqn
 have e:(z8v bc j)=_:=rfl
 have e:=e.trans (zoq bc j)
 have g0:=Grow.refl H
 obtain ⟨b_1,f_2,q_3⟩:=((i_evens.grow g0)).pos ω0
 refine ⟨by omega,by omega,b_1,f_2,q_3,?_⟩
 refine ⟨((bc).getD (j:Int).toNat 0),(i_evens).rd g0 q_3 ω2 _,?_⟩
 rw [show IntKind.wrap .i64 (j+1)=(j+1) from zu ω2 ω2]
 rw [show IntKind.wrap .i64 ((bc.length:Int)-1)=((bc.length:Int)-1) from zu ω2 ω2]
 obtain ⟨b_4,f_5,q_6⟩:=((i_evens.grow g0)).pos ω0
 refine ⟨by omega,by omega,b_4,f_5,q_6,?_⟩
 refine ⟨((bc).getD ((if (((bc.length:Int)-1):Int)<(j+1) then ((bc.length:Int)-1) else (j+1)):Int).toNat 0),(i_evens).rd g0 q_6 ω2 _,?_⟩
 rw [e] at hk
 exact hk
theorem f1z_ok:FnOk Tryz.prog 145 S_f1z:=FnOk.bodyF mix_ok zy6 Tryz.func145 rfl ω9 ω9 fun args H=>by
 unfold F_f1z
 split
 ·refine ⟨?_,?_,?_,?_,fun K hk=>f1z_main _ _ _ _ H K hk⟩
  ·intro K K' h hk;obtain ⟨bc,i_evens,bd_7,pr0,pr1,k⟩:=hk;exact ⟨bc,i_evens,bd_7,pr0,pr1,h _ _ k⟩
  ·intro _ K hk;obtain ⟨bc,i_evens,bd_7,pr0,pr1,k⟩:=hk;exact ⟨_,k,fun K' k'=>⟨bc,i_evens,bd_7,pr0,pr1,k'⟩⟩
  ·intro K hk;obtain ⟨bc,i_evens,bd_7,pr0,pr1,k⟩:=hk;exact ⟨_,_,k⟩
  ·nofun
 ·exact Nice.no
def zfk (x x_o a b cap0 cap1:Nat) (H:zq) (K:zq→Prop):Prop:=∃x1:Nat,  rdC H cap0 0=some (.float .f32 x1)∧∃x2:Bool,  rdC H cap1 0=some (.bool x2)∧Br x2 (∃x3:Nat,  rdC H x x_o=some (.float .f32 x3)∧isOwn H x∧(∃l,rdN H x x_o 1=some l)∧Lt (setC H x x_o (.float .f32 (fsub .f32 x3 (fmul .f32 x1 (fadd .f32 a b))))) fun H1=>K  H1) (∃x4:Nat,  rdC H x x_o=some (.float .f32 x4)∧isOwn H x∧(∃l,rdN H x x_o 1=some l)∧Lt (setC H x x_o (.float .f32 (fadd .f32 x4 (fmul .f32 x1 (fadd .f32 a b))))) fun H2=>K  H2)
/-! f1jz: function 144 -/
def z14r:Env:=envOf []
def zn7:List Value→zq→(Value→zq→Prop)→Prop
 | [.pointer (some ⟨x,x_o,none⟩),.float .f32 a,.float .f32 b,.pointer (some ⟨cap0,0,none⟩),.pointer (some ⟨cap1,0,none⟩)],H,K=>zfk x x_o a b cap0 cap1 H fun  (H':zq)=>K (.tuple #[]) H'
 | _,_,_=>False
def zij:FSpec:={F:=zn7,quiet:=false,tame:=false}
theorem zcu:∀g,FnOk Tryz.prog g (z14r g):=FnOk.envOf (by
 intro x hx;cases hx)
theorem zm0 (x x_o a b cap0 cap1:Nat) (H:zq) (K:KT):z5y Tryz.prog z14r Tryz.f144 [.pointer (some ⟨x,x_o,none⟩),.float .f32 a,.float .f32 b,.pointer (some ⟨cap0,0,none⟩),.pointer (some ⟨cap1,0,none⟩)] H K=zfk x x_o a b cap0 cap1 H (fun  (H':zq)=>K (.tuple #[]) H'):=by kernel_rfl
theorem z1aw:FnOk Tryz.prog 144 zij:=by
 refine FnOk.body mix_ok zcu Tryz.func144 rfl ω9 ω9 ?_ ?_ ?_ ?_ ?_
 ·intro args H K K' h hk
  simp only [zij] at *
  unfold zn7 at *
  split at hk
  ·rw [←zm0] at hk ⊢;exact zfo zcu h hk
  ·exact hk.elim
 ·intro hq;cases hq
 ·intro args H K hk
  simp only [zij] at *
  unfold zn7 at *
  split at hk
  ·rw [←zm0] at hk;exact zfn zcu hk
  ·exact hk.elim
 ·intro hq;cases hq
 ·intro args H K hk
  simp only [zij] at *
  unfold zn7 at *
  split at hk
  ·rw [←zm0] at hk;exact hk
  ·exact hk.elim

def z8n (bd:LN) (j:Int):Nat×Nat:=(((bd).getD ((if (0:Int) > (j-1) then 0 else (j-1)):Int).toNat 0),((bd).getD ((if (((bd.length:Int)-1):Int)<j then ((bd.length:Int)-1) else j):Int).toNat 0))
def zoo:=@z8n.eq_1
def zz7 (zd:OA) (vd ue:Nat) (j:Int) (H:zq) (K:Nat→Nat→zq→Prop):Prop:=∃(bd:LN),IsL fF H zd vd bd∧bd.length<1073741824∧0≤j∧j≤bd.length∧1≤bd.length∧K ((z8n bd j).1) ((z8n bd j).2) H
theorem z19k {zd:OA} {vd ue:Nat} {j:Int} {H:zq} {K:Nat→Nat→zq→Prop} (h:∃(bd:LN),IsL fF H zd vd bd∧bd.length<1073741824∧0≤j∧j≤bd.length∧1≤bd.length∧K ((z8n bd j).1) ((z8n bd j).2) H):zz7 zd vd ue j H K:=h

/-! f0z: function 146 -/
def E_f0z:Env:=envOf []
def F_f0z (args:List Value) (H:zq):(Value→zq→Prop)→Prop:=match args with
 | [.slice zd vd ue,.int .i64 j]=>fun K=>zz7 zd vd ue j H fun (r1:Nat) (r2:Nat) (H':zq)=>K (.tuple #[.float .f32 r1,.float .f32 r2]) H'
 | _=>fun _=>False
def S_f0z:FSpec:={F:=F_f0z,quiet:=true,tame:=false}
theorem f0z_vc (zd:OA) (vd ue:Nat) (j:Int) (H:zq) (K:KT):z1a Tryz.prog E_f0z Tryz.f146 [.slice zd vd ue,.int .i64 j] H K=
 ((0:Int)≤(if (0:Int) > IntKind.wrap .i64 (j-1) then 0 else IntKind.wrap .i64 (j-1))∧(if (0:Int) > IntKind.wrap .i64 (j-1) then 0 else IntKind.wrap .i64 (j-1))<(vd:Int)∧∃b1 f1,(zd:OA)=some ⟨b1,f1,none⟩∧∃x1:Nat,  rdC H b1 (f1+((if (0:Int) > IntKind.wrap .i64 (j-1) then 0 else IntKind.wrap .i64 (j-1)):Int).toNat*1)=some (.float .f32 x1)∧(0:Int)≤(if (IntKind.wrap .i64 ((vd:Int)-1):Int)<j then IntKind.wrap .i64 ((vd:Int)-1) else j)∧(if (IntKind.wrap .i64 ((vd:Int)-1):Int)<j then IntKind.wrap .i64 ((vd:Int)-1) else j)<(vd:Int)∧∃b2 f2,(zd:OA)=some ⟨b2,f2,none⟩∧∃x2:Nat,  rdC H b2 (f2+((if (IntKind.wrap .i64 ((vd:Int)-1):Int)<j then IntKind.wrap .i64 ((vd:Int)-1) else j):Int).toNat*1)=some (.float .f32 x2)∧K (.tuple #[.float .f32 x1,.float .f32 x2]) H):=by kernel_rfl
theorem zy5:∀g,FnOk Tryz.prog g (E_f0z g):=FnOk.envOf (by
 intro x hx;cases hx)
theorem f0z_main (zd:OA) (vd ue:Nat) (j:Int) (H:zq) (K:KT) (h:zz7 zd vd ue j H fun (r1:Nat) (r2:Nat) (H':zq)=>K (.tuple #[.float .f32 r1,.float .f32 r2]) H'):z1a Tryz.prog E_f0z Tryz.f146 [.slice zd vd ue,.int .i64 j] H K:=by
 rw [f0z_vc]
 obtain ⟨bd,i_odds,bd_7,pr0,pr1,pr2,hk⟩:=h
 obtain rfl:=i_odds.eqn
 have e:(z8n bd j)=_:=rfl
 have e:=e.trans (zoo bd j)
 have g0:=Grow.refl H
 rw [show IntKind.wrap .i64 (j-1)=(j-1) from zu ω2 ω2]
 obtain ⟨b_1,f_2,q_3⟩:=((i_odds.grow g0)).pos ω0
 refine ⟨by omega,by omega,b_1,f_2,q_3,?_⟩
 refine ⟨((bd).getD ((if (0:Int) > (j-1) then 0 else (j-1)):Int).toNat 0),(i_odds).rd g0 q_3 ω2 _,?_⟩
 rw [show IntKind.wrap .i64 ((bd.length:Int)-1)=((bd.length:Int)-1) from zu ω2 ω2]
 obtain ⟨b_4,f_5,q_6⟩:=((i_odds.grow g0)).pos ω0
 refine ⟨by omega,by omega,b_4,f_5,q_6,?_⟩
 refine ⟨((bd).getD ((if (((bd.length:Int)-1):Int)<j then ((bd.length:Int)-1) else j):Int).toNat 0),(i_odds).rd g0 q_6 ω2 _,?_⟩
 rw [e] at hk
 exact hk
theorem f0z_ok:FnOk Tryz.prog 146 S_f0z:=FnOk.bodyF mix_ok zy5 Tryz.func146 rfl ω9 ω9 fun args H=>by
 unfold F_f0z
 split
 ·refine ⟨?_,?_,?_,?_,fun K hk=>f0z_main _ _ _ _ H K hk⟩
  ·intro K K' h hk;obtain ⟨bd,i_odds,bd_7,pr0,pr1,pr2,k⟩:=hk;exact ⟨bd,i_odds,bd_7,pr0,pr1,pr2,h _ _ k⟩
  ·intro _ K hk;obtain ⟨bd,i_odds,bd_7,pr0,pr1,pr2,k⟩:=hk;exact ⟨_,k,fun K' k'=>⟨bd,i_odds,bd_7,pr0,pr1,pr2,k'⟩⟩
  ·intro K hk;obtain ⟨bd,i_odds,bd_7,pr0,pr1,pr2,k⟩:=hk;exact ⟨_,_,k⟩
  ·nofun
 ·exact Nice.no
def zfh (back:Bool) (x y:Nat):Nat:=bif back then fsub .f32 x y else fadd .f32 x y
def z9f (k:Int) (w:Nat) (back:Bool) (low high:LN):LN:=bif Int.tmod k 2==0 then high.mapIdx (fun i x=>zfh back x (fmul .f32 w (fadd .f32 ((z8v low (i:Int)).1) ((z8v low (i:Int)).2)))) else high
def zet (k:Int) (w:Nat) (back:Bool) (low high:LN):LN:=bif Int.tmod k 2==0 then low else low.mapIdx (fun i x=>zfh back x (fmul .f32 w (fadd .f32 ((z8n high (i:Int)).1) ((z8n high (i:Int)).2))))
@[simp] theorem z8b (k:Int) (w:Nat) (back:Bool) (low high:LN):(z9f k w back low high).length=high.length:=by
 unfold z9f;cases (Int.tmod k 2==0)<;>simp
@[simp] theorem z9g (k:Int) (w:Nat) (back:Bool) (low high:LN):(zet k w back low high).length=low.length:=by
 unfold zet;cases (Int.tmod k 2==0)<;>simp
def z7i (bc bd:LN) (i:Int) (w:Nat) (back:Bool):Nat→Int→LN→LN×LN
 | 0,_,_=>([],[])
 | μ+1,t23,y1_1=>(bif decide ((t23:Int)<(bd.length:Int)) then (bif back then (z7i bc bd i w back μ (t23+1) (((y1_1).set (t23:Int).toNat ((fsub .f32 (((y1_1).getD (t23:Int).toNat 0)) (fmul .f32 w (fadd .f32 ((z8v bc t23).1) ((z8v bc t23).2)))))))) else (z7i bc bd i w back μ (t23+1) (((y1_1).set (t23:Int).toNat ((fadd .f32 (((y1_1).getD (t23:Int).toNat 0)) (fmul .f32 w (fadd .f32 ((z8v bc t23).1) ((z8v bc t23).2))))))))) else (bc,y1_1))
def ze9:=fun bc bd i w back μ t23 y1_1=>@z7i.eq_2 bc bd i w back t23 y1_1 μ
def z7j (bc bd:LN) (i:Int) (w:Nat) (back:Bool):Nat→Int→LN→LN×LN
 | 0,_,_=>([],[])
 | μ+1,t42,y2_1=>(bif decide ((t42:Int)<(bc.length:Int)) then (bif back then (z7j bc bd i w back μ (t42+1) (((y2_1).set (t42:Int).toNat ((fsub .f32 (((y2_1).getD (t42:Int).toNat 0)) (fmul .f32 w (fadd .f32 ((z8n bd t42).1) ((z8n bd t42).2)))))))) else (z7j bc bd i w back μ (t42+1) (((y2_1).set (t42:Int).toNat ((fadd .f32 (((y2_1).getD (t42:Int).toNat 0)) (fmul .f32 w (fadd .f32 ((z8n bd t42).1) ((z8n bd t42).2))))))))) else (y2_1,bd))
def zea:=fun bc bd i w back μ t42 y2_1=>@z7j.eq_2 bc bd i w back t42 y2_1 μ
def ze8 (bc bd:LN) (i:Int) (w:Nat) (back:Bool):LN×LN:=((bif (Int.tmod i 2:Int)==0 then (z7i bc bd i w back (Int.toNat ((bd.length:Int)-(0:Int))+1) (0:Int) bd) else (z7j bc bd i w back (Int.toNat ((bc.length:Int)-(0:Int))+1) (0:Int) bc)))
def zku:=@ze8.eq_1
def zny (xc:OA) (nc od:Nat) (zd:OA) (vd ue:Nat) (i:Int) (w:Nat) (back:Bool) (H:zq) (K:zq→Prop):Prop:=∃lo:Nat,∃lob:Nat,∃(bc bd:LN),OwnS fF H lo xc nc od bc∧OwnS fF H lob zd vd ue bd∧SepA xc zd∧bc.length<1073741824∧bd.length<1073741824∧bd.length≤bc.length∧bc.length≤bd.length+1∧1≤bd.length∧((∀H':zq,z2t xc zd H H'→OwnS fF H' lo xc nc od (zet i w back bc bd)→OwnS fF H' lob zd vd ue (z9f i w back bc bd)→K  H'))
theorem znz {xc:OA} {nc od:Nat} {zd:OA} {vd ue:Nat} {i:Int} {w:Nat} {back:Bool} {H:zq} {K:zq→Prop} (h:∃lo:Nat,∃lob:Nat,∃(bc bd:LN),OwnS fF H lo xc nc od bc∧OwnS fF H lob zd vd ue bd∧SepA xc zd∧bc.length<1073741824∧bd.length<1073741824∧bd.length≤bc.length∧bc.length≤bd.length+1∧1≤bd.length∧((∀H':zq,z2t xc zd H H'→OwnS fF H' lo xc nc od (zet i w back bc bd)→OwnS fF H' lob zd vd ue (z9f i w back bc bd)→K  H'))):zny xc nc od zd vd ue i w back H K:=h
theorem z9k (W ys:LN) (i:Nat) (hi:i<ys.length) (hl:W.length=ys.length):(W.take i++ys.drop i).getD i 0=ys.getD i 0:=by
 rw [List.getD_eq_getElem?_getD,List.getD_eq_getElem?_getD,List.getElem?_append_right (by simp;omega)]
 have:(W.take i).length=i:=by simp;omega
 rw [this,Nat.sub_self,List.getElem?_drop,Nat.add_zero]
theorem f1zz_go1 (low high:LN) (k:Int) (w:Nat) (back:Bool) (W:LN) (hW:W=high.mapIdx (fun i x=>zfh back x (fmul .f32 w (fadd .f32 ((z8v low (i:Int)).1) ((z8v low (i:Int)).2))))):
  ∀(μ i:Nat),i≤high.length→high.length-i<μ→z7i low high k w back μ (i:Int) (W.take i++high.drop i)=(low,W):=by
 have hl:W.length=high.length:=by rw [hW];simp
 intro μ
 induction μ with
 | zero=>intro i _ h;omega
 | succ μ ih=>
  intro i hi hm
  rw [ze9]
  by_cases h:i<high.length
  ·rw [decide_eq_true (show (i:Int)<(high.length:Int) by omega),cond_true,Int.toNat_natCast]
   have:=ih (i+1) ω2 ω2
   have key:∀x,W[i]? =some x→(W.take i++high.drop i).set i x=W.take (i+1)++high.drop (i+1):=fun x hx=>z3h W high i h hl x hx
   have hx:W[i]? =some (zfh back (high.getD i 0) (fmul .f32 w (fadd .f32 ((z8v low (i:Int)).1) ((z8v low (i:Int)).2)))):=by
    rw [hW];simp [List.getD_eq_getElem?_getD,h]
   rw [z9k W high i h hl]
   have k2:=key _ hx
   cases back
   ·rw [cond_false];simp only [zfh,cond_false] at k2;rw [k2];exact this
   ·rw [cond_true];simp only [zfh,cond_true] at k2;rw [k2];exact this
  ·have e:i=high.length:=by omega
   rw [decide_eq_false (show ¬(i:Int)<(high.length:Int) by omega),cond_false,e]
   simp [←hl]
theorem f1zz_go2 (low high:LN) (k:Int) (w:Nat) (back:Bool) (W:LN) (hW:W=low.mapIdx (fun i x=>zfh back x (fmul .f32 w (fadd .f32 ((z8n high (i:Int)).1) ((z8n high (i:Int)).2))))):
  ∀(μ i:Nat),i≤low.length→low.length-i<μ→z7j low high k w back μ (i:Int) (W.take i++low.drop i)=(W,high):=by
 have hl:W.length=low.length:=by rw [hW];simp
 intro μ
 induction μ with
 | zero=>intro i _ h;omega
 | succ μ ih=>
  intro i hi hm
  rw [zea]
  by_cases h:i<low.length
  ·rw [decide_eq_true (show (i:Int)<(low.length:Int) by omega),cond_true,Int.toNat_natCast]
   have:=ih (i+1) ω2 ω2
   have key:∀x,W[i]? =some x→(W.take i++low.drop i).set i x=W.take (i+1)++low.drop (i+1):=fun x hx=>z3h W low i h hl x hx
   have hx:W[i]? =some (zfh back (low.getD i 0) (fmul .f32 w (fadd .f32 ((z8n high (i:Int)).1) ((z8n high (i:Int)).2)))):=by
    rw [hW];simp [List.getD_eq_getElem?_getD,h]
   rw [z9k W low i h hl]
   have k2:=key _ hx
   cases back
   ·rw [cond_false];simp only [zfh,cond_false] at k2;rw [k2];exact this
   ·rw [cond_true];simp only [zfh,cond_true] at k2;rw [k2];exact this
  ·have e:i=low.length:=by omega
   rw [decide_eq_false (show ¬(i:Int)<(low.length:Int) by omega),cond_false,e]
   simp [←hl]
theorem f1zz_val (low high:LN) (k:Int) (w:Nat) (back:Bool):ze8 low high k w back=(zet k w back low high,z9f k w back low high):=by
 rw [zku]
 unfold zet z9f
 cases h:(Int.tmod k 2==0)
 ·rw [cond_false,cond_false,cond_false]
  have:=f1zz_go2 low high k w back _ rfl (Int.toNat ((low.length:Int)-0)+1) 0 ω2 ω2
  simpa using this
 ·rw [cond_true,cond_true,cond_true]
  have:=f1zz_go1 low high k w back _ rfl (Int.toNat ((high.length:Int)-0)+1) 0 ω2 ω2
  simpa using this
/-! f1zz: function 116 -/
def z5v:Env:=envOf [(145,S_f1z),(144,zij),(146,S_f0z)]
def z15y (args:List Value) (H:zq):(Value→zq→Prop)→Prop:=match args with
 | [.slice xc nc od,.slice zd vd ue,.int .i64 i,.float .f32 w,.bool back]=>fun K=>zny xc nc od zd vd ue i w back H fun  (H':zq)=>K (.tuple #[]) H'
 | _=>fun _=>False
def z17a:FSpec:={F:=z15y,quiet:=false,tame:=false}
theorem f1zz_vc (xc:OA) (nc od:Nat) (zd:OA) (vd ue:Nat) (i:Int) (w:Nat) (back:Bool) (H:zq) (K:KT):z1a Tryz.prog z5v Tryz.f116 [.slice xc nc od,.slice zd vd ue,.int .i64 i,.float .f32 w,.bool back] H K=
 (Al [.float .f32 w] H fun b1 H1=>Al [.bool back] H1 fun b2 H2=>2≠(0:Int)∧Br ((Int.tmod i 2:Int)==0) (z1j (exL Tryz.prog z5v (cl (cl (cr (cl (cl (cr (cl (cr (cr (zr Tryz.f116)))))))))) 12583939 0 [(0,0)]) (.slice xc nc od::.slice zd vd ue::ud8 (.func (.func 144) #[] #[.pointer (some ⟨b1,0,none⟩),.pointer (some ⟨b2,0,none⟩)]::ud11 (.int .i64 (vd:Int)::.int .i64 0::ud35 []))) H2 (zx 0 (seqQ (exL Tryz.prog z5v (cr (cl (cr (cl (cr (cr (zr Tryz.f116))))))) 1027 0 []) (seqQ (exL Tryz.prog z5v (cr (cr (cr (zr Tryz.f116)))) 0 0 []) (retK Tryz.prog Tryz.f116 K))))) (z1j (exL Tryz.prog z5v (cl (cl (cr (cr (cr (cr (zr Tryz.f116))))))) 6597069767683 0 [(2,0)]) (.slice xc nc od::.slice zd vd ue::ud8 (.func (.func 144) #[] #[.pointer (some ⟨b1,0,none⟩),.pointer (some ⟨b2,0,none⟩)]::ud30 (.int .i64 (nc:Int)::.int .i64 0::ud16 []))) H2 (zx 2 (retK Tryz.prog Tryz.f116 K)))):=by kernel_rfl
abbrev f1zz_P1 (b1 b2:Nat) (xc:OA) (od nc:Nat) (zd:OA) (ue vd:Nat) (t23:Int)  :List Value:=(.slice xc nc od::.slice zd vd ue::ud8 (.func (.func 144) #[] #[.pointer (some ⟨b1,0,none⟩),.pointer (some ⟨b2,0,none⟩)]::ud11 (.int .i64 (vd:Int)::.int .i64 t23::ud35 [])))
theorem f1zz_r1 (b1 b2:Nat) (xc:OA) (od nc:Nat) (zd:OA) (ue vd:Nat) (t23:Int)  (H:zq) (R:Post):exL Tryz.prog z5v (cl (cl (cr (cl (cl (cr (cl (cr (cr (zr Tryz.f116)))))))))) 12583939 0 [(0,0)] (f1zz_P1 b1 b2 xc od nc zd ue vd t23) H R=
 (Br (decide ((t23:Int)<(vd:Int))) (zzr xc nc od t23 H fun (r1:Nat) (r2:Nat) (H3:zq)=>(0:Int)≤t23∧t23<(vd:Int)∧∃b3 f1,(zd:OA)=some ⟨b3,f1,none⟩∧zfk b3 (f1+(t23:Int).toNat*1) r1 r2 b1 b2 H3 fun  (H4:zq)=>R .normal (.slice xc nc od::.slice zd vd ue::ud8 (.func (.func 144) #[] #[.pointer (some ⟨b1,0,none⟩),.pointer (some ⟨b2,0,none⟩)]::ud11 (.int .i64 (vd:Int)::.int .i64 (IntKind.wrap .i64 (t23+1))::ud35 []))) H4) (R (.exit 0) (ud59 []) H)):=by kernel_rfl
def f1zz_I1 (b1 b2:Nat) (xc:OA) (od nc:Nat) (zd:OA) (ue vd:Nat) (Inv:Nat→Int→zq→Prop):Nat→List Value→zq→Prop:=fun μ tm H=>∃(t23:Int),tm=(f1zz_P1 b1 b2 xc od nc zd ue vd t23)∧Inv μ t23 H
theorem f1zz_L1 (b1 b2:Nat) (xc:OA) (od nc:Nat) (zd:OA) (ue vd:Nat) {Q:Post} (Inv:Nat→Int→zq→Prop) (ν:Nat) (t23:Int)  (H:zq) (h0:Inv ν t23 H)
  (hs:∀(μ:Nat) (t23:Int)  (H:zq),Inv μ t23 H→exL Tryz.prog z5v (cl (cl (cr (cl (cl (cr (cl (cr (cr (zr Tryz.f116)))))))))) 12583939 0 [(0,0)] (f1zz_P1 b1 b2 xc od nc zd ue vd t23) H (z1b (f1zz_I1 b1 b2 xc od nc zd ue vd Inv) μ Q)):z1j (exL Tryz.prog z5v (cl (cl (cr (cl (cl (cr (cl (cr (cr (zr Tryz.f116)))))))))) 12583939 0 [(0,0)]) (f1zz_P1 b1 b2 xc od nc zd ue vd t23) H Q:=
 ⟨f1zz_I1 b1 b2 xc od nc zd ue vd Inv,ν,⟨t23,rfl,h0⟩,fun μ tm H h=>by obtain ⟨t23,rfl,hI⟩:=h;exact hs μ t23  H hI⟩
theorem f1zz_n1 {b1 b2:Nat} {xc:OA} {od nc:Nat} {zd:OA} {ue vd:Nat} {Q:Post} {Inv:Nat→Int→zq→Prop} {μ:Nat} (μ':Nat) {t23:Int}  {H:zq} (hm:μ'<μ) (hI:Inv μ' t23 H):z1b (f1zz_I1 b1 b2 xc od nc zd ue vd Inv) μ Q .normal (f1zz_P1 b1 b2 xc od nc zd ue vd t23) H:=⟨μ',hm,t23,rfl,hI⟩
theorem f1zz_x1_0  (H:zq) (K:KT)  {I:Nat→List Value→zq→Prop} {μ:Nat}:z1b I μ (zx 0 (seqQ (exL Tryz.prog z5v (cr (cl (cr (cl (cr (cr (zr Tryz.f116))))))) 1027 0 []) (seqQ (exL Tryz.prog z5v (cr (cr (cr (zr Tryz.f116)))) 0 0 []) (retK Tryz.prog Tryz.f116 K)))) (.exit 0) (ud59 []) H=
 (K (.tuple #[]) H):=by kernel_rfl
abbrev f1zz_P2 (b1 b2:Nat) (xc:OA) (od nc:Nat) (zd:OA) (ue vd:Nat) (t42:Int)  :List Value:=(.slice xc nc od::.slice zd vd ue::ud8 (.func (.func 144) #[] #[.pointer (some ⟨b1,0,none⟩),.pointer (some ⟨b2,0,none⟩)]::ud30 (.int .i64 (nc:Int)::.int .i64 t42::ud16 [])))
theorem f1zz_r2 (b1 b2:Nat) (xc:OA) (od nc:Nat) (zd:OA) (ue vd:Nat) (t42:Int)  (H:zq) (R:Post):exL Tryz.prog z5v (cl (cl (cr (cr (cr (cr (zr Tryz.f116))))))) 6597069767683 0 [(2,0)] (f1zz_P2 b1 b2 xc od nc zd ue vd t42) H R=
 (Br (decide ((t42:Int)<(nc:Int))) (zz7 zd vd ue t42 H fun (r3:Nat) (r4:Nat) (H5:zq)=>(0:Int)≤t42∧t42<(nc:Int)∧∃b4 f2,(xc:OA)=some ⟨b4,f2,none⟩∧zfk b4 (f2+(t42:Int).toNat*1) r3 r4 b1 b2 H5 fun  (H6:zq)=>R .normal (.slice xc nc od::.slice zd vd ue::ud8 (.func (.func 144) #[] #[.pointer (some ⟨b1,0,none⟩),.pointer (some ⟨b2,0,none⟩)]::ud30 (.int .i64 (nc:Int)::.int .i64 (IntKind.wrap .i64 (t42+1))::ud16 []))) H6) (R (.exit 2) (ud59 []) H)):=by kernel_rfl
def f1zz_I2 (b1 b2:Nat) (xc:OA) (od nc:Nat) (zd:OA) (ue vd:Nat) (Inv:Nat→Int→zq→Prop):Nat→List Value→zq→Prop:=fun μ tm H=>∃(t42:Int),tm=(f1zz_P2 b1 b2 xc od nc zd ue vd t42)∧Inv μ t42 H
theorem f1zz_L2 (b1 b2:Nat) (xc:OA) (od nc:Nat) (zd:OA) (ue vd:Nat) {Q:Post} (Inv:Nat→Int→zq→Prop) (ν:Nat) (t42:Int)  (H:zq) (h0:Inv ν t42 H)
  (hs:∀(μ:Nat) (t42:Int)  (H:zq),Inv μ t42 H→exL Tryz.prog z5v (cl (cl (cr (cr (cr (cr (zr Tryz.f116))))))) 6597069767683 0 [(2,0)] (f1zz_P2 b1 b2 xc od nc zd ue vd t42) H (z1b (f1zz_I2 b1 b2 xc od nc zd ue vd Inv) μ Q)):z1j (exL Tryz.prog z5v (cl (cl (cr (cr (cr (cr (zr Tryz.f116))))))) 6597069767683 0 [(2,0)]) (f1zz_P2 b1 b2 xc od nc zd ue vd t42) H Q:=
 ⟨f1zz_I2 b1 b2 xc od nc zd ue vd Inv,ν,⟨t42,rfl,h0⟩,fun μ tm H h=>by obtain ⟨t42,rfl,hI⟩:=h;exact hs μ t42  H hI⟩
theorem f1zz_n2 {b1 b2:Nat} {xc:OA} {od nc:Nat} {zd:OA} {ue vd:Nat} {Q:Post} {Inv:Nat→Int→zq→Prop} {μ:Nat} (μ':Nat) {t42:Int}  {H:zq} (hm:μ'<μ) (hI:Inv μ' t42 H):z1b (f1zz_I2 b1 b2 xc od nc zd ue vd Inv) μ Q .normal (f1zz_P2 b1 b2 xc od nc zd ue vd t42) H:=⟨μ',hm,t42,rfl,hI⟩
theorem f1zz_x2_2  (H:zq) (K:KT)  {I:Nat→List Value→zq→Prop} {μ:Nat}:z1b I μ (zx 2 (retK Tryz.prog Tryz.f116 K)) (.exit 2) (ud59 []) H=
 (K (.tuple #[]) H):=by kernel_rfl
theorem zt6:∀g,FnOk Tryz.prog g (z5v g):=FnOk.envOf (by
 intro x hx
 simp only [List.mem_cons,List.not_mem_nil,or_false] at hx
 rcases hx with rfl | rfl | rfl
 ·exact f1z_ok
 ·exact z1aw
 ·exact f0z_ok)
theorem f1zz_main (xc:OA) (nc od:Nat) (zd:OA) (vd ue:Nat) (i:Int) (w:Nat) (back:Bool) (H:zq) (K:KT) (h:zny xc nc od zd vd ue i w back H fun  (H':zq)=>K (.tuple #[]) H'):z1a Tryz.prog z5v Tryz.f116 [.slice xc nc od,.slice zd vd ue,.int .i64 i,.float .f32 w,.bool back] H K:=by
 rw [f1zz_vc]
 obtain ⟨lo,lob,bc,bd,i_evens,i_odds,sp_m,bd_112,bd_113,pr0,pr1,pr2,hk⟩:=h
 have hk:(∀H':zq,z2t xc zd H H'→OwnS fF H' lo xc nc od ((ze8 bc bd i w back).1)→OwnS fF H' lob zd vd ue ((ze8 bc bd i w back).2)→(fun  (H':zq)=>K (.tuple #[]) H')  H'):=by rw [f1zz_val bc bd i w back];exact hk
 obtain rfl:=i_evens.len
 obtain rfl:=i_odds.len
 have up_p:=i_evens.up
 have lo_p:=i_evens.lo
 have up_q:=i_odds.up
 have lo_q:=i_odds.lo
 have e:(ze8 bc bd i w back)=_:=rfl
 have e:=e.trans (zku bc bd i w back)
 have g0:=z2t.refl xc zd H
 refine Al.intro (fun b_1 H_1 hb_2 hl_3 g_4 o_5=>?_)
 have l_7:=g_4.1
 have g_8:=g0.trans g_4
 have l_9:=g_8.1
 have r_10:=i_evens.grow g_4
 have r_11:=i_odds.grow g_4
 have w111:=o_5.lt
 refine Al.intro (fun b_12 H_2 hb_13 hl_14 g15 o16=>?_)
 have l_18:=g15.1
 have g_19:=g_8.trans g15
 have l_20:=g_19.1
 have o21:=o_5.grow g15
 have w22:=o21.lt
 have r_23:=r_10.grow g15
 have r_24:=r_11.grow g15
 have w110:=o16.lt
 refine ⟨ω24,?_⟩
 have z25:=zbm i 2
 have z26:=zer i 2
 refine Br.intro (fun c_27=>?_) (fun c_27=>?_)
 ·have e:=e.trans (zw c_27)
  have c_27':=zjv c_27
  refine f1zz_L1 _ _ _ _ _ _ _ _ (fun (μ:Nat) (t23:Int) (H_3:zq)=>∃(y1_1:LN),Own H_3 b_1 ([.float .f32 w])∧Own H_3 b_12 ([.bool back])∧OwnS fF H_3 lo xc bc.length od bc∧OwnS fF H_3 lob zd bd.length ue y1_1∧y1_1.length=(bd).length∧(b_12≠b_1)∧H.length≤H_3.length∧H.length≤H_3.length∧z2t xc zd H H_3∧(0:Int)≤t23∧t23≤(bd.length:Int)∧(bd.length:Int)-t23≤(μ:Int)∧ze8 bc bd i w back=z7i bc bd i w back (μ+1) t23 y1_1) (Int.toNat ((bd.length:Int)-(0:Int))) _ H_2 ?_ ?_
  ·exact ⟨_,o21,o16,r_23,r_24,ω15,ω2,ω2,ω2,g_19,ω7,ω7,ω2,e⟩
  ·intro μ t23  H_3 hI
   obtain ⟨y1_1,o28,o29,r_30,r_31,y32,n33,n34,n35,g36,v_37,v_38,hμ,e⟩:=hI
   rw [f1zz_r1]
   have e:=e.trans (ze9 bc bd i w back μ t23 y1_1)
   have w39:=o28.lt
   have w40:=o29.lt
   have l41:=g36.1
   refine Br.intro (fun c_42=>?_) (fun c_42=>?_)
   ·have e:=e.trans (zw c_42)
    have c_42':=of_decide_eq_true c_42
    refine z19l ⟨_,r_30.isL,ω0,ω16,ω16,?_⟩
    obtain ⟨b43,f_44,q45⟩:=(r_31.isL).pos ω0
    refine ⟨by omega,by omega,b43,f_44,q45,?_⟩
    unfold zfk
    refine ⟨w,(o28.rdC _).trans rfl,?_⟩
    refine ⟨back,(o29.rdC _).trans rfl,?_⟩
    refine Br.intro (fun c_46=>?_) (fun c_46=>?_)
    ·have e:=e.trans (zw c_46)
     refine ⟨((y1_1).getD (t23:Int).toNat 0),(r_31.isL).rd (Grow.refl _) q45 ω2 _,?_⟩
     refine Lt.setS r_31 q45 ω6 (fun H_4 hl_47 o49 k48=>?_)
     have l50:=k48.1
     have g51:=g36.transB k48
     have l52:=g51.1
     have o53:=o28.keepA (fun x hx=>by have:=lo_q x hx;have:=up_q x hx;omega) k48
     have w54:=o53.lt
     have o55:=o29.keepA (fun x hx=>by have:=lo_q x hx;have:=up_q x hx;omega) k48
     have w56:=o55.lt
     have r57:=r_30.keepA (sp_m).symm k48
     rw [show IntKind.wrap .i64 (t23+1)=(t23+1) from zu ω2 ω2]
     refine f1zz_n1 (μ-1) ω17 ⟨_,o53,o55,r57,o49,ω22,ω2,ω2,ω2,ω2,ω1,ω1,ω17,ω13⟩
    ·have e:=e.trans (zv c_46)
     refine ⟨((y1_1).getD (t23:Int).toNat 0),(r_31.isL).rd (Grow.refl _) q45 ω2 _,?_⟩
     refine Lt.setS r_31 q45 ω6 (fun H_5 hl_58 o60 k59=>?_)
     have l61:=k59.1
     have g62:=g36.transB k59
     have l63:=g62.1
     have o64:=o28.keepA (fun x hx=>by have:=lo_q x hx;have:=up_q x hx;omega) k59
     have w65:=o64.lt
     have o66:=o29.keepA (fun x hx=>by have:=lo_q x hx;have:=up_q x hx;omega) k59
     have w67:=o66.lt
     have r68:=r_30.keepA (sp_m).symm k59
     rw [show IntKind.wrap .i64 (t23+1)=(t23+1) from zu ω2 ω2]
     refine f1zz_n1 (μ-1) ω17 ⟨_,o64,o66,r68,o60,ω22,ω2,ω2,ω2,ω2,ω1,ω1,ω17,ω13⟩
   ·have e:=e.trans (zv c_42)
    have c_42':=of_decide_eq_false c_42
    rw [f1zz_x1_0]
    rw [e] at hk
    exact hk H_3 g36 r_30 r_31
 ·have e:=e.trans (zv c_27)
  have c_27':=zju c_27
  refine f1zz_L2 _ _ _ _ _ _ _ _ (fun (μ:Nat) (t42:Int) (H_6:zq)=>∃(y2_1:LN),Own H_6 b_1 ([.float .f32 w])∧Own H_6 b_12 ([.bool back])∧OwnS fF H_6 lo xc bc.length od y2_1∧y2_1.length=(bc).length∧OwnS fF H_6 lob zd bd.length ue bd∧(b_12≠b_1)∧H.length≤H_6.length∧H.length≤H_6.length∧z2t xc zd H H_6∧(0:Int)≤t42∧t42≤(bc.length:Int)∧(bc.length:Int)-t42≤(μ:Int)∧ze8 bc bd i w back=z7j bc bd i w back (μ+1) t42 y2_1) (Int.toNat ((bc.length:Int)-(0:Int))) _ H_2 ?_ ?_
  ·exact ⟨_,o21,o16,r_23,ω15,r_24,ω2,ω2,ω2,g_19,ω7,ω7,ω2,e⟩
  ·intro μ t42  H_6 hI
   obtain ⟨y2_1,o69,o70,r71,y72,r73,n74,n75,n76,g77,v_78,v_79,hμ,e⟩:=hI
   rw [f1zz_r2]
   have e:=e.trans (zea bc bd i w back μ t42 y2_1)
   have w80:=o69.lt
   have w81:=o70.lt
   have l82:=g77.1
   refine Br.intro (fun c83=>?_) (fun c83=>?_)
   ·have e:=e.trans (zw c83)
    have c_83':=of_decide_eq_true c83
    refine z19k ⟨_,r73.isL,ω0,ω16,ω16,ω16,?_⟩
    obtain ⟨b84,f85,q86⟩:=(r71.isL).pos ω0
    refine ⟨by omega,by omega,b84,f85,q86,?_⟩
    unfold zfk
    refine ⟨w,(o69.rdC _).trans rfl,?_⟩
    refine ⟨back,(o70.rdC _).trans rfl,?_⟩
    refine Br.intro (fun c87=>?_) (fun c87=>?_)
    ·have e:=e.trans (zw c87)
     refine ⟨((y2_1).getD (t42:Int).toNat 0),(r71.isL).rd (Grow.refl _) q86 ω2 _,?_⟩
     refine Lt.setS r71 q86 ω6 (fun H_7 hl_88 o90 k89=>?_)
     have l91:=k89.1
     have g92:=g77.transA k89
     have l93:=g92.1
     have o94:=o69.keepA (fun x hx=>by have:=lo_p x hx;have:=up_p x hx;omega) k89
     have w95:=o94.lt
     have o96:=o70.keepA (fun x hx=>by have:=lo_p x hx;have:=up_p x hx;omega) k89
     have w97:=o96.lt
     have r98:=r73.keepA (sp_m) k89
     rw [show IntKind.wrap .i64 (t42+1)=(t42+1) from zu ω2 ω2]
     refine f1zz_n2 (μ-1) ω17 ⟨_,o94,o96,o90,ω22,r98,ω2,ω2,ω2,ω2,ω1,ω1,ω17,ω13⟩
    ·have e:=e.trans (zv c87)
     refine ⟨((y2_1).getD (t42:Int).toNat 0),(r71.isL).rd (Grow.refl _) q86 ω2 _,?_⟩
     refine Lt.setS r71 q86 ω6 (fun H_8 hl_99 o101 k100=>?_)
     have l102:=k100.1
     have g103:=g77.transA k100
     have l104:=g103.1
     have o105:=o69.keepA (fun x hx=>by have:=lo_p x hx;have:=up_p x hx;omega) k100
     have w106:=o105.lt
     have o107:=o70.keepA (fun x hx=>by have:=lo_p x hx;have:=up_p x hx;omega) k100
     have w108:=o107.lt
     have r109:=r73.keepA (sp_m) k100
     rw [show IntKind.wrap .i64 (t42+1)=(t42+1) from zu ω2 ω2]
     refine f1zz_n2 (μ-1) ω17 ⟨_,o105,o107,o101,ω22,r109,ω2,ω2,ω2,ω2,ω1,ω1,ω17,ω13⟩
   ·have e:=e.trans (zv c83)
    have c_83':=of_decide_eq_false c83
    rw [f1zz_x2_2]
    rw [e] at hk
    exact hk H_6 g77 r71 r73
theorem f1zz_ok:FnOk Tryz.prog 116 z17a:=FnOk.bodyF mix_ok zt6 Tryz.func116 rfl ω9 ω9 fun args H=>by
 unfold z15y
 split
 ·refine ⟨?_,?_,?_,?_,fun K hk=>f1zz_main _ _ _ _ _ _ _ _ _ H K hk⟩
  ·intro K K' h hk;obtain ⟨lo,lob,bc,bd,i_evens,i_odds,sp_m,bd_112,bd_113,pr0,pr1,pr2,k⟩:=hk;exact ⟨lo,lob,bc,bd,i_evens,i_odds,sp_m,bd_112,bd_113,pr0,pr1,pr2,(fun H' gg ow ow2=>h _ _ (k H' gg ow ow2))⟩
  ·nofun
  ·intro K hk;obtain ⟨lo,lob,bc,bd,i_evens,i_odds,sp_m,bd_112,bd_113,pr0,pr1,pr2,k⟩:=hk;exact (i_evens.put2 i_odds sp_m _ _ (by rw [z9g]) (by rw [z8b])).elim fun H1 h=>⟨_,_,k H1 h.1 h.2.1 h.2.2⟩
  ·nofun
 ·exact Nice.no

def z9o (bc bd:LN):Nat→LN→Int→LN
 | 0,_,_=>[]
 | μ+1,zf,t11=>(bif decide ((t11:Int)<(bc.length:Int)) then (bif decide ((t11:Int)<(bd.length:Int)) then (z9o bc bd μ (((zf++[(((bc).getD (t11:Int).toNat 0))])++[(((bd).getD (t11:Int).toNat 0))])) (t11+1)) else (z9o bc bd μ ((zf++[(((bc).getD (t11:Int).toNat 0))])) (t11+1))) else zf)
def zg2:=fun bc bd μ zf t11=>@z9o.eq_2 bc bd zf t11 μ
def z4h (bc bd:LN):LN:=(z9o bc bd (Int.toNat ((bc.length:Int)-(0:Int))+1) ([]:LN) (0:Int))
def zor:=@z4h.eq_1
def zzt (xc:OA) (nc od:Nat) (zd:OA) (vd ue:Nat) (H:zq) (K:OA→Nat→Nat→zq→Prop):Prop:=∃(bc bd:LN),IsL fF H xc nc bc∧IsL fF H zd vd bd∧bc.length<1073741824∧bd.length<1073741824∧((∀(td:OA) (yd xd:Nat),∀H':zq,Grow H H'→OwnS fF H' H.length td yd xd (z4h bc bd)→K td yd xd H'))
theorem ztk {xc:OA} {nc od:Nat} {zd:OA} {vd ue:Nat} {H:zq} {K:OA→Nat→Nat→zq→Prop} (h:∃(bc bd:LN),IsL fF H xc nc bc∧IsL fF H zd vd bd∧bc.length<1073741824∧bd.length<1073741824∧((∀(td:OA) (yd xd:Nat),∀H':zq,Grow H H'→OwnS fF H' H.length td yd xd (z4h bc bd)→K td yd xd H'))):zzt xc nc od zd vd ue H K:=h

theorem zhi (e o:LN):∀(μ k:Nat),k≤e.length→e.length-k<μ→z9o e o μ (wv e o k) (k:Int)=wv e o e.length:=by
 intro μ
 induction μ with
 | zero=>intro k _ h;omega
 | succ μ ih=>
  intro k hk hm
  rw [zg2]
  by_cases h:k<e.length
  ·rw [decide_eq_true (show (k:Int)<(e.length:Int) by omega),cond_true,Int.toNat_natCast]
   have:=ih (k+1) ω2 ω2
   rw [zeu] at this
   by_cases h2:k<o.length
   ·rw [decide_eq_true (show (k:Int)<(o.length:Int) by omega),cond_true]
    rw [show wvF e o k=[e.getD k 0,o.getD k 0] from if_pos h2] at this
    rw [List.append_assoc]
    exact this
   ·rw [decide_eq_false (show ¬(k:Int)<(o.length:Int) by omega),cond_false]
    rw [show wvF e o k=[e.getD k 0] from if_neg h2] at this
    exact this
  ·obtain rfl:k=e.length:=by omega
   rw [decide_eq_false (show ¬((e.length:Nat):Int)<(e.length:Int) by omega),cond_false]
theorem za1 (e o:LN):z4h e o=wv e o e.length:=by
 rw [zor]
 exact zhi e o (Int.toNat ((e.length:Int)-(0:Int))+1) 0 ω2 ω2
theorem za0 (e o:LN):(z4h e o).length≤2*e.length:=by
 rw [za1,zpd];omega
/-! f5z: function 117 -/
def zh2:Env:=envOf []
def F_f5z (args:List Value) (H:zq):(Value→zq→Prop)→Prop:=match args with
 | [.slice xc nc od,.slice zd vd ue]=>fun K=>zzt xc nc od zd vd ue H fun (td:OA) (yd:Nat) (xd:Nat) (H':zq)=>K (.slice td yd xd) H'
 | _=>fun _=>False
def S_f5z:FSpec:={F:=F_f5z,quiet:=false,tame:=true}
theorem f5z_vc (xc:OA) (nc od:Nat) (zd:OA) (vd ue:Nat) (H:zq) (K:KT):z1a Tryz.prog zh2 Tryz.f117 [.slice xc nc od,.slice zd vd ue] H K=
 (Al [] H fun b1 H1=>z1j (exL Tryz.prog zh2 (cl (cl (cr (cl (cr (cr (zr Tryz.f117))))))) 3618 16 [(0,32)]) (ud::.slice zd vd ue::ud3 (.slice (some ⟨b1,0,none⟩) 0 1::ud3 (.slice xc nc od::.int .i64 (nc:Int)::.int .i64 0::ud21 []))) H1 (zx 0 (seqQ (exL Tryz.prog zh2 (cr (cr (cr (zr Tryz.f117)))) 16 16 []) (retK Tryz.prog Tryz.f117 K)))):=by kernel_rfl
abbrev f5z_P1 (xc:OA) (od nc:Nat) (zd:OA) (ue vd:Nat) (xf:OA) (mf ig:Nat) (t11:Int)  :List Value:=(ud::.slice zd vd ue::ud3 (.slice xf mf ig::ud3 (.slice xc nc od::.int .i64 (nc:Int)::.int .i64 t11::ud21 [])))
theorem f5z_r1 (xc:OA) (od nc:Nat) (zd:OA) (ue vd:Nat) (xf:OA) (mf ig:Nat) (t11:Int)  (H:zq) (R:Post):exL Tryz.prog zh2 (cl (cl (cr (cl (cr (cr (zr Tryz.f117))))))) 3618 16 [(0,32)] (f5z_P1 xc od nc zd ue vd xf mf ig t11) H R=
 (Br (decide ((t11:Int)<(nc:Int))) ((0:Int)≤t11∧t11<(nc:Int)∧∃b2 f1,(xc:OA)=some ⟨b2,f1,none⟩∧∃x1:Nat,  rdC H b2 (f1+(t11:Int).toNat*1)=some (.float .f32 x1)∧Al [.float .f32 x1] H fun b3 H2=>∃o1 w1:List Value,ownB H2 xf mf ig 1=some o1∧rdS H2 (some ⟨b3,0,none⟩) (1*1)=some w1∧((xf:OA)=none→0<(1:Nat))∧(mf:Nat)+1<most∧Ap H2 (z2y H2 xf++[some ⟨o1++w1,true⟩]) fun b4 H3=>Br (decide ((t11:Int)<(vd:Int))) ((0:Int)≤t11∧t11<(vd:Int)∧∃b5 f2,(zd:OA)=some ⟨b5,f2,none⟩∧∃x2:Nat,  rdC H3 b5 (f2+(t11:Int).toNat*1)=some (.float .f32 x2)∧Al [.float .f32 x2] H3 fun b6 H4=>∃o2 w2:List Value,ownB H4 (some ⟨b4,0,none⟩) (mf+1) 1 1=some o2∧rdS H4 (some ⟨b6,0,none⟩) (1*1)=some w2∧((some ⟨b4,0,none⟩:OA)=none→0<(1:Nat))∧(mf+1:Nat)+1<most∧Ap H4 (z2y H4 (some ⟨b4,0,none⟩)++[some ⟨o2++w2,true⟩]) fun b7 H5=>R .normal (ud::.slice zd vd ue::ud3 (.slice (some ⟨b7,0,none⟩) ((mf+1)+1) 1::ud3 (.slice xc nc od::.int .i64 (nc:Int)::.int .i64 (IntKind.wrap .i64 (t11+1))::ud21 []))) H5) (R .normal (ud::.slice zd vd ue::ud3 (.slice (some ⟨b4,0,none⟩) (mf+1) 1::ud3 (.slice xc nc od::.int .i64 (nc:Int)::.int .i64 (IntKind.wrap .i64 (t11+1))::ud21 []))) H3)) (R (.exit 0) (ud5 (.slice xf mf ig::ud27 [])) H)):=by kernel_rfl
def f5z_I1 (xc:OA) (od nc:Nat) (zd:OA) (ue vd:Nat) (Inv:Nat→OA→Nat→Nat→Int→zq→Prop):Nat→List Value→zq→Prop:=fun μ tm H=>∃(xf:OA),∃(mf ig:Nat),∃(t11:Int),tm=(f5z_P1 xc od nc zd ue vd xf mf ig t11)∧Inv μ xf mf ig t11 H
theorem f5z_L1 (xc:OA) (od nc:Nat) (zd:OA) (ue vd:Nat) {Q:Post} (Inv:Nat→OA→Nat→Nat→Int→zq→Prop) (ν:Nat) (xf:OA) (mf ig:Nat) (t11:Int)  (H:zq) (h0:Inv ν xf mf ig t11 H)
  (hs:∀(μ:Nat) (xf:OA) (mf:Nat) (ig:Nat) (t11:Int)  (H:zq),Inv μ xf mf ig t11 H→exL Tryz.prog zh2 (cl (cl (cr (cl (cr (cr (zr Tryz.f117))))))) 3618 16 [(0,32)] (f5z_P1 xc od nc zd ue vd xf mf ig t11) H (z1b (f5z_I1 xc od nc zd ue vd Inv) μ Q)):z1j (exL Tryz.prog zh2 (cl (cl (cr (cl (cr (cr (zr Tryz.f117))))))) 3618 16 [(0,32)]) (f5z_P1 xc od nc zd ue vd xf mf ig t11) H Q:=
 ⟨f5z_I1 xc od nc zd ue vd Inv,ν,⟨xf,mf,ig,t11,rfl,h0⟩,fun μ tm H h=>by obtain ⟨xf,mf,ig,t11,rfl,hI⟩:=h;exact hs μ xf mf ig t11  H hI⟩
theorem f5z_n1 {xc:OA} {od nc:Nat} {zd:OA} {ue vd:Nat} {Q:Post} {Inv:Nat→OA→Nat→Nat→Int→zq→Prop} {μ:Nat} (μ':Nat) {xf:OA} {mf ig:Nat} {t11:Int}  {H:zq} (hm:μ'<μ) (hI:Inv μ' xf mf ig t11 H):z1b (f5z_I1 xc od nc zd ue vd Inv) μ Q .normal (f5z_P1 xc od nc zd ue vd xf mf ig t11) H:=⟨μ',hm,xf,mf,ig,t11,rfl,hI⟩
theorem f5z_x1_0 (xf:OA) (mf ig:Nat) (H:zq) (K:KT)  {I:Nat→List Value→zq→Prop} {μ:Nat}:z1b I μ (zx 0 (seqQ (exL Tryz.prog zh2 (cr (cr (cr (zr Tryz.f117)))) 16 16 []) (retK Tryz.prog Tryz.f117 K))) (.exit 0) (ud5 (.slice xf mf ig::ud27 [])) H=
 (K (.slice xf mf ig) H):=by kernel_rfl
theorem zya:∀g,FnOk Tryz.prog g (zh2 g):=FnOk.envOf (by
 intro x hx;cases hx)
theorem f5z_main (xc:OA) (nc od:Nat) (zd:OA) (vd ue:Nat) (H:zq) (K:KT) (h:zzt xc nc od zd vd ue H fun (td:OA) (yd:Nat) (xd:Nat) (H':zq)=>K (.slice td yd xd) H'):z1a Tryz.prog zh2 Tryz.f117 [.slice xc nc od,.slice zd vd ue] H K:=by
 rw [f5z_vc]
 obtain ⟨bc,bd,i_evens,i_odds,bd_80,bd_81,hk⟩:=h
 obtain rfl:=i_evens.eqn
 obtain rfl:=i_odds.eqn
 have e:(z4h bc bd)=_:=rfl
 have e:=e.trans (zor bc bd)
 have g0:=Grow.refl H
 refine Al.intro (fun b_1 H_1 hb_2 hl_3 g_4 o_5=>?_)
 have o_5:Own H_1 b_1 ((([]:LN)).map fF):=o_5
 have l_7:=g_4.1
 have g_8:=g0.trans g_4
 have l_9:=g_8.1
 have w79:=o_5.lt
 refine f5z_L1 _ _ _ _ _ _ (fun (μ:Nat) (xf:OA) (mf:Nat) (ig:Nat) (t11:Int) (H_2:zq)=>∃(zf:LN),∃(b_10:Nat),xf=some ⟨b_10,0,none⟩∧mf=zf.length∧ig=1∧Own H_2 b_10 (zf.map fF)∧Grow H H_2∧H.length≤b_10∧(0:Int)≤t11∧t11≤(bc.length:Int)∧(zf.length:Int)≤2*(t11)∧(bc.length:Int)-t11≤(μ:Int)∧z4h bc bd=z9o bc bd (μ+1) zf t11) (Int.toNat ((bc.length:Int)-(0:Int))) _ _ _ _ H_1 ?_ ?_
 ·exact ⟨_,_,rfl,ω5,rfl,o_5,g_8,ω2,ω7,ω7,ω7,ω2,e⟩
 ·intro μ xf mf ig t11  H_2 hI
  obtain ⟨zf,b_10,rfl,rfl,rfl,o_11,g_12,l_13,v_14,v_15,v_16,hμ,e⟩:=hI
  rw [f5z_r1]
  have e:=e.trans (zg2 bc bd μ zf t11)
  have w_17:=o_11.lt
  have l_18:=g_12.1
  refine Br.intro (fun c_19=>?_) (fun c_19=>?_)
  ·have e:=e.trans (zw c_19)
   have c_19':=of_decide_eq_true c_19
   obtain ⟨b20,f21,q_22⟩:=((i_evens.grow g_12)).pos ω0
   refine ⟨by omega,by omega,b20,f21,q_22,?_⟩
   refine ⟨((bc).getD (t11:Int).toNat 0),(i_evens).rd g_12 q_22 ω2 _,?_⟩
   refine Al.intro (fun b_23 H_3 hb_24 hl_25 g26 o27=>?_)
   have o27:Own H_3 b_23 (([(((bc).getD (t11:Int).toNat 0))]).map fF):=o27
   have l29:=g26.1
   have g30:=g_12.trans g26
   have l31:=g30.1
   have o32:=o_11.grow g26
   have w33:=o32.lt
   have w78:=o27.lt
   refine ⟨_,_,o32.ownB ω3 rfl,(z2q (o27.isL ω5)),(fun h=>by cases h),ω25,?_⟩
   refine Ap.app o32 rfl rfl (fun b38 H_4 q76 hl_34 o35 k36=>?_)
   have o35:=z2b o35
   have l39:=k36.1
   have g40:=g30.keep (b:=b_10) ω2 k36
   have l41:=g40.1
   have o42:=o27.keep ω2 k36
   have w43:=o42.lt
   have w77:=o35.lt
   refine Br.intro (fun c44=>?_) (fun c44=>?_)
   ·have e:=e.trans (zw c44)
    have c_44':=of_decide_eq_true c44
    obtain ⟨b45,f_46,q47⟩:=((i_odds.grow g40)).pos ω0
    refine ⟨by omega,by omega,b45,f_46,q47,?_⟩
    refine ⟨((bd).getD (t11:Int).toNat 0),(i_odds).rd g40 q47 ω2 _,?_⟩
    refine Al.intro (fun b48 H_5 hb_49 hl_50 g51 o52=>?_)
    have o52:Own H_5 b48 (([(((bd).getD (t11:Int).toNat 0))]).map fF):=o52
    have l54:=g51.1
    have g55:=g40.trans g51
    have l56:=g55.1
    have o57:=o42.grow g51
    have w58:=o57.lt
    have o59:=o35.grow g51
    have w60:=o59.lt
    have w75:=o52.lt
    refine ⟨_,_,o59.ownB ω3 rfl,(z2q (o52.isL ω5)),(fun h=>by cases h),ω25,?_⟩
    refine Ap.app o59 rfl rfl (fun b65 H_6 q73 hl_61 o62 k63=>?_)
    have o62:=z2b o62
    have l66:=k63.1
    have g67:=g55.keep (b:=b38) ω2 k63
    have l68:=g67.1
    have o69:=o57.keep ω2 k63
    have w70:=o69.lt
    have o71:=o52.keep ω2 k63
    have w72:=o71.lt
    have w74:=o62.lt
    rw [show IntKind.wrap .i64 (t11+1)=(t11+1) from zu ω2 ω2]
    refine f5z_n1 (μ-1) ω17 ⟨_,_,rfl,ω8,rfl,o62,g67,ω2,ω1,ω1,ω1,ω17,ω13⟩
   ·have e:=e.trans (zv c44)
    have c_44':=of_decide_eq_false c44
    rw [show IntKind.wrap .i64 (t11+1)=(t11+1) from zu ω2 ω2]
    refine f5z_n1 (μ-1) ω17 ⟨_,_,rfl,ω8,rfl,o35,g40,ω2,ω1,ω1,ω1,ω17,ω13⟩
  ·have e:=e.trans (zv c_19)
   have c_19':=of_decide_eq_false c_19
   rw [f5z_x1_0]
   rw [e] at hk
   exact hk _ _ _ H_2 g_12 (o_11.ownS ω5 ω2)
theorem f5z_ok:FnOk Tryz.prog 117 S_f5z:=FnOk.bodyF mix_ok zya Tryz.func117 rfl ω9 ω9 fun args H=>by
 unfold F_f5z
 split
 ·refine ⟨?_,?_,?_,?_,fun K hk=>f5z_main _ _ _ _ _ _ H K hk⟩
  ·intro K K' h hk;obtain ⟨bc,bd,i_evens,i_odds,bd_80,bd_81,k⟩:=hk;exact ⟨bc,bd,i_evens,i_odds,bd_80,bd_81,(fun td yd xd H' gg ow0=>h _ _ (k td yd xd H' gg ow0))⟩
  ·nofun
  ·intro K hk;obtain ⟨bc,bd,i_evens,i_odds,bd_80,bd_81,k⟩:=hk;exact z4m fun a n e H1 g o=>⟨_,_,k a n e H1 g o⟩
  ·intro _ K hk;obtain ⟨bc,bd,i_evens,i_odds,bd_80,bd_81,k⟩:=hk;exact ⟨bc,bd,i_evens,i_odds,bd_80,bd_81,(fun td yd xd H' gg ow0=>⟨gg,k td yd xd H' gg ow0⟩)⟩
 ·exact Nice.no

def zah (qb:LN):LN×Bool:=(bif !((z4y ([qb]))) then ([],false) else (qb,true))
def zox:=@zah.eq_1
def T_flz (ld:OA) (tc ee:Nat) (H:zq) (K:OA→Nat→Nat→Bool→zq→Prop):Prop:=∃(qb:LN),IsL fF H ld tc qb∧qb.length<1073741824∧((∀H':zq,Grow H H'→Br ((zah qb).2) (K ld tc ee true H') (K none 0 0 false H')))
theorem ztv {ld:OA} {tc ee:Nat} {H:zq} {K:OA→Nat→Nat→Bool→zq→Prop} (h:∃(qb:LN),IsL fF H ld tc qb∧qb.length<1073741824∧((∀H':zq,Grow H H'→Br ((zah qb).2) (K ld tc ee true H') (K none 0 0 false H')))):T_flz ld tc ee H K:=h

/-! flz: function 75 -/
def E_flz:Env:=envOf [(104,zth)]
def F_flz (args:List Value) (H:zq):(Value→zq→Prop)→Prop:=match args with
 | [.slice ld tc ee]=>fun K=>T_flz ld tc ee H fun (td:OA) (yd:Nat) (xd:Nat) (r2:Bool) (H':zq)=>K (.tuple #[.slice td yd xd,.bool r2]) H'
 | _=>fun _=>False
def S_flz:FSpec:={F:=F_flz,quiet:=false,tame:=true}
theorem z1go (ld:OA) (tc ee:Nat) (H:zq) (K:KT):z1a Tryz.prog E_flz Tryz.f75 [.slice ld tc ee] H K=
 (Al [.slice ld tc ee] H fun b1 H1=>zit (some ⟨b1,0,none⟩) 1 1 H1 fun (r1:Bool) (H2:zq)=>Br (!r1) (K (.tuple #[.slice none 0 0,.bool false]) H2) (K (.tuple #[.slice ld tc ee,.bool true]) H2)):=by kernel_rfl
theorem zyq:∀g,FnOk Tryz.prog g (E_flz g):=FnOk.envOf (by
 intro x hx
 simp only [List.mem_cons,List.not_mem_nil,or_false] at hx
 subst hx;exact zod)
theorem z11r (ld:OA) (tc ee:Nat) (H:zq) (K:KT) (h:T_flz ld tc ee H fun (td:OA) (yd:Nat) (xd:Nat) (r2:Bool) (H':zq)=>K (.tuple #[.slice td yd xd,.bool r2]) H'):z1a Tryz.prog E_flz Tryz.f75 [.slice ld tc ee] H K:=by
 rw [z1go]
 obtain ⟨qb,i_list,bd_12,hk⟩:=h
 obtain rfl:=i_list.eqn
 have e:(zah qb)=_:=rfl
 have e:=e.trans (zox qb)
 have g0:=Grow.refl H
 refine Al.intro (fun b_1 H_1 hb_2 hl_3 g_4 o_5=>?_)
 have l_7:=g_4.1
 have g_8:=g0.trans g_4
 have l_9:=g_8.1
 have w11:=o_5.lt
 refine zd0 ⟨[qb],⟨_,o_5.rdAll rfl,LLc.cons (i_list.grow g_8) (LLc.nil _ _)⟩,ω0,ω12,?_⟩
 refine Br.intro (fun c_10=>?_) (fun c_10=>?_)
 ·have e:=e.trans (zw c_10)
  have c_10n:=z1f c_10
  have q:=hk H_1 g_8
  rw [e] at q
  exact q
 ·have e:=e.trans (zv c_10)
  have c_10n:=z1e c_10
  have q:=hk H_1 g_8
  rw [e] at q
  exact q
theorem z1gn:FnOk Tryz.prog 75 S_flz:=FnOk.bodyF mix_ok zyq Tryz.func75 rfl ω9 ω9 fun args H=>by
 unfold F_flz
 split
 ·refine ⟨?_,?_,?_,?_,fun K hk=>z11r _ _ _ H K hk⟩
  ·intro K K' h hk;obtain ⟨qb,i_list,bd_12,k⟩:=hk;exact ⟨qb,i_list,bd_12,(fun H' gg=>zbn (h _ _) (h _ _) (k H' gg))⟩
  ·nofun
  ·intro K hk;obtain ⟨qb,i_list,bd_12,k⟩:=hk;exact zlj (k H (Grow.refl H))
  ·intro _ K hk;obtain ⟨qb,i_list,bd_12,k⟩:=hk;exact ⟨qb,i_list,bd_12,(fun H' gg=>zbn (fun q=>⟨gg,q⟩) (fun q=>⟨gg,q⟩) (k H' gg))⟩
 ·exact Nice.no

def z3v (ia:LN) (gb:Nat) (zb mb:LN) (t60:Int) (y1_1 y1_2:LN) (t74:Int) (y2_1 y2_2:LN) (k3_4:Int→LN→LN→(LN×Bool)):Nat→Int→LN→LN→LN×Bool
 | 0,_,_,_=>([],false)
 | μ3+1,i,y3_1,y3_2=>(bif decide ((0:Int)≤i) then (z3v ia gb zb mb t60 y1_1 y1_2 t74 y2_1 y2_2 k3_4 μ3 (i-1) ((zet i (((ia).getD (i:Int).toNat 0)) true y3_1 y3_2)) ((z9f i (((ia).getD (i:Int).toNat 0)) true y3_1 y3_2))) else (k3_4 i y3_1 y3_2))
def zab:=fun ia gb zb mb t60 y1_1 y1_2 t74 y2_1 y2_2 k3_4 μ3 i y3_1 y3_2=>@z3v.eq_2 ia gb zb mb t60 y1_1 y1_2 t74 y2_1 y2_2 k3_4 i y3_1 y3_2 μ3
def z7f (ia:LN) (gb:Nat) (zb mb:LN) (t60:Int) (y1_1 y1_2:LN) (k2_2:Int→LN→LN→(LN×Bool)):Nat→Int→LN→LN→LN×Bool
 | 0,_,_,_=>([],false)
 | μ2+1,t74,y2_1,y2_2=>(bif decide ((t74:Int)<((mb).length:Int)) then (z7f ia gb zb mb t60 y1_1 y1_2 k2_2 μ2 (t74+1) y2_1 (((y2_2).set (t74:Int).toNat ((fmul .f32 (((y2_2).getD (t74:Int).toNat 0)) gb))))) else (k2_2 t74 y2_1 y2_2))
def zaa:=fun ia gb zb mb t60 y1_1 y1_2 k2_2 μ2 t74 y2_1 y2_2=>@z7f.eq_2 ia gb zb mb t60 y1_1 y1_2 k2_2 t74 y2_1 y2_2 μ2
def z3u (ia:LN) (gb:Nat) (zb mb:LN):Nat→Int→LN→LN→LN×Bool
 | 0,_,_,_=>([],false)
 | μ+1,t60,y1_1,y1_2=>(bif decide ((t60:Int)<((zb).length:Int)) then (z3u ia gb zb mb μ (t60+1) (((y1_1).set (t60:Int).toNat ((fdiv .f32 (((y1_1).getD (t60:Int).toNat 0)) gb)))) y1_2) else (z7f ia gb zb mb t60 y1_1 y1_2 (fun (t74:Int) (y2_1:LN) (y2_2:LN)=>(z3v ia gb zb mb t60 y1_1 y1_2 t74 y2_1 y2_2 (fun (i:Int) (y3_1:LN) (y3_2:LN)=>(bif (zah (z4h y3_1 y3_2)).2 then ((z4h y3_1 y3_2),true) else ([],false))) (Int.toNat (((((ia.length:Int)-1)))-0+1)+1) ((((ia.length:Int)-1))) y2_1 y2_2)) (Int.toNat (((mb).length:Int)-(0:Int))+1) (0:Int) y1_1 y1_2))
def z6c:=fun ia gb zb mb μ t60 y1_1 y1_2=>@z3u.eq_2 ia gb zb mb t60 y1_1 y1_2 μ
def z3e (ia:LN) (gb:Nat) (zb mb:LN):LN×Bool:=((bif !(z5k ia gb) then ([],false) else (bif decide (((zb.length:Int):Int)<1) then ([],false) else (bif ((mb.length:Int):Int) != (zb.length:Int) then (bif ((mb.length:Int):Int) != ((zb.length:Int)-1) then ([],false) else (bif decide ((128:Int)<((zb.length:Int)+(mb.length:Int))) then ([],false) else (bif !((z4y ([zb,mb]))) then ([],false) else (bif (((mb).length:Int):Int)==0 then (zb,true) else (z3u ia gb zb mb (Int.toNat (((zb).length:Int)-(0:Int))+1) (0:Int) zb mb))))) else (bif decide ((128:Int)<((zb.length:Int)+(mb.length:Int))) then ([],false) else (bif !((z4y ([zb,mb]))) then ([],false) else (bif (((mb).length:Int):Int)==0 then (zb,true) else (z3u ia gb zb mb (Int.toNat (((zb).length:Int)-(0:Int))+1) (0:Int) zb mb))))))))
def zkg:=@z3e.eq_1
def zne (sb:OA) (fc xb gb:Nat) (uc:OA) (yc cd:Nat) (tb:OA) (wb yb:Nat) (H:zq) (K:OA→Nat→Nat→Bool→zq→Prop):Prop:=∃(ia zb mb:LN),IsL fF H sb fc ia∧IsL fF H uc yc zb∧IsL fF H tb wb mb∧ia.length<1073741824∧zb.length<1073741824∧mb.length<1073741824∧((∀(td:OA) (yd xd:Nat),∀H':zq,Grow H H'→OwnS fF H' H.length td yd xd ((z3e ia gb zb mb).1)→K td yd xd ((z3e ia gb zb mb).2) H'))
theorem zza {sb:OA} {fc xb gb:Nat} {uc:OA} {yc cd:Nat} {tb:OA} {wb yb:Nat} {H:zq} {K:OA→Nat→Nat→Bool→zq→Prop} (h:∃(ia zb mb:LN),IsL fF H sb fc ia∧IsL fF H uc yc zb∧IsL fF H tb wb mb∧ia.length<1073741824∧zb.length<1073741824∧mb.length<1073741824∧((∀(td:OA) (yd xd:Nat),∀H':zq,Grow H H'→OwnS fF H' H.length td yd xd ((z3e ia gb zb mb).1)→K td yd xd ((z3e ia gb zb mb).2) H'))):zne sb fc xb gb uc yc cd tb wb yb H K:=h

def dfI (ws:LN):Nat→LN→LN→LN×LN
 | 0,lo,hi=>(lo,hi)
 | k+1,lo,hi=>dfI ws k (zet (k:Int) (ws.getD k 0) true lo hi) (z9f (k:Int) (ws.getD k 0) true lo hi)
theorem zfp (ws:LN):∀(k:Nat) (lo hi:LN),(dfI ws k lo hi).1.length=lo.length∧(dfI ws k lo hi).2.length=hi.length:=by
 intro k
 induction k with
 | zero=>intro lo hi;exact ⟨rfl,rfl⟩
 | succ k ih=>
  intro lo hi
  obtain ⟨h1,h2⟩:=ih (zet (k:Int) (ws.getD k 0) true lo hi) (z9f (k:Int) (ws.getD k 0) true lo hi)
  exact ⟨h1.trans (z9g _ _ _ _ _),h2.trans (z8b _ _ _ _ _)⟩
theorem zqa (ws:LN) (sc:Nat) (l1 l2:LN) (i:Int) (a b:LN) (i2:Int) (c d:LN) (K:Int→LN→LN→LN×Bool):∀(μ k:Nat) (y1 y2:LN),k<μ→
  z3v ws sc l1 l2 i a b i2 c d K μ ((k:Int)-1) y1 y2=K (-1) (dfI ws k y1 y2).1 (dfI ws k y1 y2).2:=by
 intro μ
 induction μ with
 | zero=>intro k y1 y2 h;omega
 | succ μ ih=>
  intro k y1 y2 hm
  rw [zab]
  cases k with
  | zero=>rfl
  | succ k=>
   have e:((k+1:Nat):Int)-1=(k:Int):=by omega
   rw [e,decide_eq_true (show (0:Int)≤(k:Int) by omega),cond_true,Int.toNat_natCast]
   exact ih k _ _ ω2
theorem zq8 (ws:LN) (sc:Nat) (l1 l2 y2:LN) (K:Int→LN→LN→LN×Bool)
  (hK:∀(k:Int) (y1 y2:LN),z3u ws sc l1 l2 1 k y1 y2=bif decide (k<(l1.length:Int)) then z3u ws sc l1 l2 0 (k+1) (y1.set k.toNat (fdiv .f32 (y1.getD k.toNat 0) sc)) y2 else K k y1 y2) (A:LN) (hA:A.length=l1.length):∀(μ j:Nat),j≤l1.length→l1.length-j<μ→
  z3u ws sc l1 l2 μ (j:Int) ((A.map fun x=>fdiv .f32 x sc).take j++A.drop j) y2=K (l1.length:Int) (A.map fun x=>fdiv .f32 x sc) y2:=by
 intro μ
 induction μ with
 | zero=>intro k _ h;omega
 | succ μ ih=>
  intro j hj hm
  by_cases h:j<l1.length
  ·rw [z6c]
   rw [decide_eq_true (show (j:Int)<(l1.length:Int) by omega),cond_true,Int.toNat_natCast,z9k _ _ _ ω2 (by simp)]
   have:=ih (j+1) ω2 ω2
   rw [z3h (A.map fun x=>fdiv .f32 x sc) A j ω2 (by simp) _ (by simp [List.getD_eq_getElem?_getD,show j<A.length by omega])]
   exact this
  ·have e:j=l1.length:=by omega
   have h1:=hK (j:Int) ((A.map fun x=>fdiv .f32 x sc).take j++A.drop j) y2
   rw [z6c] at h1 ⊢
   rw [decide_eq_false (show ¬(j:Int)<(l1.length:Int) by omega),cond_false,cond_false] at h1
   rw [decide_eq_false (show ¬(j:Int)<(l1.length:Int) by omega),cond_false]
   refine h1.trans ?_
   rw [e,List.take_of_length_le (by simp [hA]),List.drop_of_length_le ω2,List.append_nil]
theorem zq9 (ws:LN) (sc:Nat) (l1 l2:LN) (i:Int) (a b y1:LN) (K:Int→LN→LN→LN×Bool) (A:LN) (hA:A.length=l2.length):∀(μ j:Nat),j≤l2.length→l2.length-j<μ→
  z7f ws sc l1 l2 i a b K μ (j:Int) y1 ((A.map fun x=>fmul .f32 x sc).take j++A.drop j)=K (l2.length:Int) y1 (A.map fun x=>fmul .f32 x sc):=by
 intro μ
 induction μ with
 | zero=>intro k _ h;omega
 | succ μ ih=>
  intro j hj hm
  rw [zaa]
  by_cases h:j<l2.length
  ·rw [decide_eq_true (show (j:Int)<(l2.length:Int) by omega),cond_true,Int.toNat_natCast,z9k _ _ _ ω2 (by simp)]
   have:=ih (j+1) ω2 ω2
   rw [z3h (A.map fun x=>fmul .f32 x sc) A j ω2 (by simp) _ (by simp [List.getD_eq_getElem?_getD,show j<A.length by omega])]
   exact this
  ·have e:j=l2.length:=by omega
   rw [decide_eq_false (show ¬(j:Int)<(l2.length:Int) by omega),cond_false,e,List.take_of_length_le (by simp [hA]),List.drop_of_length_le ω2,List.append_nil]
theorem z1cl (v:LN):(bif (zah v).2 then (v,true) else ([],false))=(bif z4y [v] then (v,true) else ([],false)):=by
 rw [zox]
 cases z4y [v]<;>rfl
def zd7 (ws:LN) (sc:Nat) (e o:LN):LN:=(dfI ws ws.length (e.map fun x=>fdiv .f32 x sc) (o.map fun x=>fmul .f32 x sc)).1
def zfr (ws:LN) (sc:Nat) (e o:LN):LN:=(dfI ws ws.length (e.map fun x=>fdiv .f32 x sc) (o.map fun x=>fmul .f32 x sc)).2
def z6z (ws:LN) (sc:Nat) (e o:LN):LN:=wv (zd7 ws sc e o) (zfr ws sc e o) e.length
theorem zpp (ws:LN) (sc:Nat) (e o:LN):(z6z ws sc e o).length=e.length+min e.length o.length:=by
 unfold z6z zd7 zfr
 obtain ⟨g1,g2⟩:=zfp ws ws.length (e.map fun x=>fdiv .f32 x sc) (o.map fun x=>fmul .f32 x sc)
 rw [zpd,g2,List.length_map]
theorem zq7 (ws:LN) (sc:Nat) (e o:LN):z3u ws sc e o (Int.toNat ((e.length:Int)-(0:Int))+1) (0:Int) e o=(bif z4y [z6z ws sc e o] then (z6z ws sc e o,true) else ([],false)):=by
 have h1:=zq8 ws sc e o o _ (fun k y1 y2=>z6c ws sc e o 0 k y1 y2) e rfl (Int.toNat ((e.length:Int)-(0:Int))+1) 0 ω2 ω2
 simp only [List.take_zero,List.drop_zero,List.nil_append] at h1
 refine Eq.trans h1 ?_
 have h2:=fun i a b y1 K=>zq9 ws sc e o i a b y1 K o rfl (Int.toNat ((o.length:Int)-(0:Int))+1) 0 ω2 ω2
 simp only [List.take_zero,List.drop_zero,List.nil_append] at h2
 refine Eq.trans (h2 _ _ _ _ _) ?_
 refine Eq.trans (zqa ws sc e o _ _ _ _ _ _ _ (Int.toNat (((((ws.length:Int)-1)))-0+1)+1) ws.length _ _ ω2) ?_
 obtain ⟨g1,g2⟩:=zfp ws ws.length (e.map fun x=>fdiv .f32 x sc) (o.map fun x=>fmul .f32 x sc)
 have ew:z4h (zd7 ws sc e o) (zfr ws sc e o)=z6z ws sc e o:=by
  rw [za1]
  unfold z6z
  rw [show (zd7 ws sc e o).length=e.length from g1.trans (List.length_map ..)]
 show (bif (zah (z4h (zd7 ws sc e o) (zfr ws sc e o))).2 then (z4h (zd7 ws sc e o) (zfr ws sc e o),true) else ([],false))=_
 rw [ew,z1cl]
theorem za6 (ws:LN) (sc:Nat) (e o:LN):z3e ws sc e o=(bif z5k ws sc && decide (1≤e.length) && (decide (o.length=e.length) || decide (o.length+1=e.length)) && decide (e.length+o.length≤128) && z4y [e,o] then (bif decide (o.length=0) then (e,true) else (bif z4y [z6z ws sc e o] then (z6z ws sc e o,true) else ([],false))) else ([],false)):=by
 rw [zkg]
 rw [zq7]
 have ez:(((o.length:Int):Int)==0)=decide (o.length=0):=by
  by_cases h:o.length=0<;>simp [h]
 rw [ez]
 cases z5k ws sc with
 | false=>rfl
 | true=>
  simp only [Bool.not_true,cond_false,Bool.true_and]
  by_cases h1:1≤e.length
  ·rw [decide_eq_false (show ¬(e.length:Int)<1 by omega),decide_eq_true h1,cond_false,Bool.true_and]
   have h4:decide ((128:Int)<(e.length:Int)+(o.length:Int))=!decide (e.length+o.length≤128):=by
    by_cases c:e.length+o.length≤128
    ·rw [decide_eq_true c,decide_eq_false ω2];rfl
    ·rw [decide_eq_false c,decide_eq_true ω2];rfl
   rw [h4]
   by_cases h2:o.length=e.length
   ·rw [decide_eq_true h2,show (((o.length:Int):Int) != (e.length:Int))=false by simp [h2],cond_false,Bool.true_or,Bool.true_and]
    cases decide (e.length+o.length≤128)<;>cases z4y [e,o]<;>rfl
   ·rw [decide_eq_false h2,show (((o.length:Int):Int) != (e.length:Int))=true by simp;omega,cond_true,Bool.false_or]
    by_cases h3:o.length+1=e.length
    ·rw [decide_eq_true h3,show (((o.length:Int):Int) != (e.length:Int)-1)=false by simp;omega,cond_false,Bool.true_and]
     cases decide (e.length+o.length≤128)<;>cases z4y [e,o]<;>rfl
    ·rw [decide_eq_false h3,show (((o.length:Int):Int) != (e.length:Int)-1)=true by simp;omega,cond_true,Bool.false_and,Bool.false_and]
     rfl
  ·rw [decide_eq_true (show (e.length:Int)<1 by omega),decide_eq_false h1,cond_true]
   rfl
theorem zft (ws:LN) (sc:Nat) (e o:LN) (h:(z3e ws sc e o).2=true):(z3e ws sc e o).1.length=e.length+o.length∧1≤e.length:=by
 rw [za6] at h ⊢
 cases hc:z5k ws sc && decide (1≤e.length) && (decide (o.length=e.length) || decide (o.length+1=e.length)) && decide (e.length+o.length≤128) && z4y [e,o] with
 | false=>rw [hc] at h;cases h
 | true=>
  rw [hc] at h
  rw [cond_true] at h ⊢
  simp only [Bool.and_eq_true,Bool.or_eq_true,decide_eq_true_eq] at hc
  have hl:=zpp ws sc e o
  by_cases h0:o.length=0
  ·rw [decide_eq_true h0,cond_true]
   exact ⟨by show e.length=_;omega,by omega⟩
  ·rw [decide_eq_false h0,cond_false] at h ⊢
   cases hf:z4y [z6z ws sc e o] with
   | false=>rw [hf] at h;cases h
   | true=>rw [cond_true];exact ⟨by show (z6z ws sc e o).length=_;omega,by omega⟩
theorem zdq (ws:LN) (sc:Nat) (e o:LN):(z3e ws sc e o).1.length≤e.length+o.length:=by
 cases h:(z3e ws sc e o).2 with
 | true=>exact Nat.le_of_eq (zft ws sc e o h).1
 | false=>
  rw [za6] at h ⊢
  cases hc:z5k ws sc && decide (1≤e.length) && (decide (o.length=e.length) || decide (o.length+1=e.length)) && decide (e.length+o.length≤128) && z4y [e,o] with
  | false=>exact Nat.zero_le _
  | true=>
   rw [hc] at h
   rw [cond_true] at h ⊢
   by_cases h0:o.length=0
   ·rw [decide_eq_true h0] at h;cases h
   ·rw [decide_eq_false h0,cond_false] at h ⊢
    cases hf:z4y [z6z ws sc e o] with
    | false=>exact Nat.zero_le _
    | true=>rw [hf] at h;cases h
/-! f16z: function 73 -/
def z3b:Env:=envOf [(49,zz6),(104,zth),(53,zna),(116,z17a),(117,S_f5z),(75,S_flz)]
def z14y (args:List Value) (H:zq):(Value→zq→Prop)→Prop:=match args with
 | [.agg ⟨[.slice sb fc xb,.float .f32 gb]⟩,.slice uc yc cd,.slice tb wb yb]=>fun K=>zne sb fc xb gb uc yc cd tb wb yb H fun (td:OA) (yd:Nat) (xd:Nat) (r2:Bool) (H':zq)=>K (.tuple #[.slice td yd xd,.bool r2]) H'
 | _=>fun _=>False
def z16g:FSpec:={F:=z14y,quiet:=false,tame:=true}
theorem f16z_vc (sb:OA) (fc xb gb:Nat) (uc:OA) (yc cd:Nat) (tb:OA) (wb yb:Nat) (H:zq) (K:KT):z1a Tryz.prog z3b Tryz.f73 [.agg #[.slice sb fc xb,.float .f32 gb],.slice uc yc cd,.slice tb wb yb] H K=
 (Al [.slice sb fc xb,.float .f32 gb] H fun b1 H1=>∃zi:OA,∃bj:Nat,∃aj:Nat,∃c2:Nat,  rdN H1 b1 0 2=some [.slice zi bj aj,.float .f32 c2]∧zpg zi bj aj c2 H1 fun (r1:Bool) (H2:zq)=>Br (!r1) (K (.tuple #[.slice none 0 0,.bool false]) H2) (Br (decide (((yc:Int):Int)<1)) (K (.tuple #[.slice none 0 0,.bool false]) H2) (Br (((wb:Int):Int) != (yc:Int)) (Br (((wb:Int):Int) != IntKind.wrap .i64 ((yc:Int)-1)) (K (.tuple #[.slice none 0 0,.bool false]) H2) (Br (decide ((128:Int)<IntKind.wrap .i64 ((yc:Int)+(wb:Int)))) (K (.tuple #[.slice none 0 0,.bool false]) H2) (Al [.slice uc yc cd,.slice tb wb yb] H2 fun b2 H3=>zit (some ⟨b2,0,none⟩) 2 1 H3 fun (r2:Bool) (H4:zq)=>Br (!r2) (K (.tuple #[.slice none 0 0,.bool false]) H4) (zat uc yc cd H4 fun (a1:OA) (r3:Nat) (r4:Nat) (H5:zq)=>zat tb wb yb H5 fun (a2:OA) (r5:Nat) (r6:Nat) (H6:zq)=>Br (((r5:Int):Int)==0) (K (.tuple #[.slice a1 r3 r4,.bool true]) H6) (z1j (exL Tryz.prog z3b (cl (cl (cr (cl (cr (cr (cr (cr (cr (zr Tryz.f73)))))))))) 1729382256910272008 192 [(0,1544)]) (ud3 (.pointer (some ⟨b1,0,none⟩)::ud5 (.slice a1 r3 r4::.slice a2 r5 r6::ud48 (.int .i64 (r3:Int)::.int .i64 0::ud48 [])))) H6 (zx 0 (seqQ (exL Tryz.prog z3b (cr (cr (cr (cr (cr (cr (zr Tryz.f73))))))) 192 192 []) (retK Tryz.prog Tryz.f73 K)))))))) (Br (decide ((128:Int)<IntKind.wrap .i64 ((yc:Int)+(wb:Int)))) (K (.tuple #[.slice none 0 0,.bool false]) H2) (Al [.slice uc yc cd,.slice tb wb yb] H2 fun b8 H12=>zit (some ⟨b8,0,none⟩) 2 1 H12 fun (r12:Bool) (H13:zq)=>Br (!r12) (K (.tuple #[.slice none 0 0,.bool false]) H13) (zat uc yc cd H13 fun (a5:OA) (r13:Nat) (r14:Nat) (H14:zq)=>zat tb wb yb H14 fun (a6:OA) (r15:Nat) (r16:Nat) (H15:zq)=>Br (((r15:Int):Int)==0) (K (.tuple #[.slice a5 r13 r14,.bool true]) H15) (z1j (exL Tryz.prog z3b (cl (cl (cr (cl (cr (cr (cr (cr (cr (zr Tryz.f73)))))))))) 1729382256910272008 192 [(0,1544)]) (ud3 (.pointer (some ⟨b1,0,none⟩)::ud5 (.slice a5 r13 r14::.slice a6 r15 r16::ud48 (.int .i64 (r13:Int)::.int .i64 0::ud48 [])))) H15 (zx 0 (seqQ (exL Tryz.prog z3b (cr (cr (cr (cr (cr (cr (zr Tryz.f73))))))) 192 192 []) (retK Tryz.prog Tryz.f73 K)))))))))):=by kernel_rfl
abbrev f16z_P1 (b1:Nat) (ze:OA) (ff ye:Nat) (z1_59:Int) (dg:OA) (lg fg:Nat) (t60:Int)  :List Value:=(ud3 (.pointer (some ⟨b1,0,none⟩)::ud5 (.slice dg fg lg::.slice ze ye ff::ud48 (.int .i64 z1_59::.int .i64 t60::ud48 []))))
theorem f16z_r1 (b1:Nat) (ze:OA) (ff ye:Nat) (z1_59:Int) (dg:OA) (lg fg:Nat) (t60:Int)  (H:zq) (R:Post):exL Tryz.prog z3b (cl (cl (cr (cl (cr (cr (cr (cr (cr (zr Tryz.f73)))))))))) 1729382256910272008 192 [(0,1544)] (f16z_P1 b1 ze ff ye z1_59 dg lg fg t60) H R=
 (Br (decide ((t60:Int)<z1_59)) ((0:Int)≤t60∧t60<(fg:Int)∧∃b3 f1,(dg:OA)=some ⟨b3,f1,none⟩∧∃x1:Nat,  rdC H b3 (f1+(t60:Int).toNat*1)=some (.float .f32 x1)∧∃x2:Nat,  rdC H b1 1=some (.float .f32 x2)∧(0:Int)≤t60∧t60<(fg:Int)∧∃b4 f2,(dg:OA)=some ⟨b4,f2,none⟩∧isOwn H b4∧(∃l,rdN H b4 (f2+(t60:Int).toNat*1) 1=some l)∧Lt (setC H b4 (f2+(t60:Int).toNat*1) (.float .f32 (fdiv .f32 x1 x2))) fun H7=>R .normal (ud3 (.pointer (some ⟨b1,0,none⟩)::ud5 (.slice dg fg lg::.slice ze ye ff::ud48 (.int .i64 z1_59::.int .i64 (IntKind.wrap .i64 (t60+1))::ud48 [])))) H7) (R (.exit 0) (ud3 (.pointer (some ⟨b1,0,none⟩)::ud5 (.slice dg fg lg::.slice ze ye ff::ud98 []))) H)):=by kernel_rfl
def f16z_I1 (b1:Nat) (ze:OA) (ff ye:Nat) (z1_59:Int) (dg:OA) (lg fg:Nat) (Inv:Nat→Int→zq→Prop):Nat→List Value→zq→Prop:=fun μ tm H=>∃(t60:Int),tm=(f16z_P1 b1 ze ff ye z1_59 dg lg fg t60)∧Inv μ t60 H
theorem f16z_L1 (b1:Nat) (ze:OA) (ff ye:Nat) (z1_59:Int) (dg:OA) (lg fg:Nat) {Q:Post} (Inv:Nat→Int→zq→Prop) (ν:Nat) (t60:Int)  (H:zq) (h0:Inv ν t60 H)
  (hs:∀(μ:Nat) (t60:Int)  (H:zq),Inv μ t60 H→exL Tryz.prog z3b (cl (cl (cr (cl (cr (cr (cr (cr (cr (zr Tryz.f73)))))))))) 1729382256910272008 192 [(0,1544)] (f16z_P1 b1 ze ff ye z1_59 dg lg fg t60) H (z1b (f16z_I1 b1 ze ff ye z1_59 dg lg fg Inv) μ Q)):z1j (exL Tryz.prog z3b (cl (cl (cr (cl (cr (cr (cr (cr (cr (zr Tryz.f73)))))))))) 1729382256910272008 192 [(0,1544)]) (f16z_P1 b1 ze ff ye z1_59 dg lg fg t60) H Q:=
 ⟨f16z_I1 b1 ze ff ye z1_59 dg lg fg Inv,ν,⟨t60,rfl,h0⟩,fun μ tm H h=>by obtain ⟨t60,rfl,hI⟩:=h;exact hs μ t60  H hI⟩
theorem f16z_n1 {b1:Nat} {ze:OA} {ff ye:Nat} {z1_59:Int} {dg:OA} {lg fg:Nat} {Q:Post} {Inv:Nat→Int→zq→Prop} {μ:Nat} (μ':Nat) {t60:Int}  {H:zq} (hm:μ'<μ) (hI:Inv μ' t60 H):z1b (f16z_I1 b1 ze ff ye z1_59 dg lg fg Inv) μ Q .normal (f16z_P1 b1 ze ff ye z1_59 dg lg fg t60) H:=⟨μ',hm,t60,rfl,hI⟩
theorem f16z_x1_0 (b1:Nat) (ze:OA) (ff ye:Nat) (dg:OA) (lg fg:Nat) (H:zq) (K:KT)  {I:Nat→List Value→zq→Prop} {μ:Nat}:z1b I μ (zx 0 (seqQ (exL Tryz.prog z3b (cr (cr (cr (cr (cr (cr (zr Tryz.f73))))))) 192 192 []) (retK Tryz.prog Tryz.f73 K))) (.exit 0) (ud3 (.pointer (some ⟨b1,0,none⟩)::ud5 (.slice dg fg lg::.slice ze ye ff::ud98 []))) H=
 (z1j (exL Tryz.prog z3b (cl (cl (cr (cl (cr (cr (cr (cr (cr (cr (zr Tryz.f73))))))))))) 28334198897217871283720 192 [(2,1544)]) (ud3 (.pointer (some ⟨b1,0,none⟩)::ud5 (.slice dg fg lg::.slice ze ye ff::ud62 (.int .i64 (ye:Int)::.int .i64 0::ud34 [])))) H (zx 2 (seqQ (exL Tryz.prog z3b (cr (cr (cr (cr (cr (cr (cr (zr Tryz.f73)))))))) 192 192 []) (retK Tryz.prog Tryz.f73 K)))):=by kernel_rfl
abbrev f16z_P2 (b1:Nat) (ze:OA) (ff ye:Nat) (dg:OA) (lg fg:Nat) (t74:Int)  :List Value:=(ud3 (.pointer (some ⟨b1,0,none⟩)::ud5 (.slice dg fg lg::.slice ze ye ff::ud62 (.int .i64 (ye:Int)::.int .i64 t74::ud34 []))))
theorem f16z_r2 (b1:Nat) (ze:OA) (ff ye:Nat) (dg:OA) (lg fg:Nat) (t74:Int)  (H:zq) (R:Post):exL Tryz.prog z3b (cl (cl (cr (cl (cr (cr (cr (cr (cr (cr (zr Tryz.f73))))))))))) 28334198897217871283720 192 [(2,1544)] (f16z_P2 b1 ze ff ye dg lg fg t74) H R=
 (Br (decide ((t74:Int)<(ye:Int))) ((0:Int)≤t74∧t74<(ye:Int)∧∃b5 f3,(ze:OA)=some ⟨b5,f3,none⟩∧∃x3:Nat,  rdC H b5 (f3+(t74:Int).toNat*1)=some (.float .f32 x3)∧∃x4:Nat,  rdC H b1 1=some (.float .f32 x4)∧(0:Int)≤t74∧t74<(ye:Int)∧∃b6 f4,(ze:OA)=some ⟨b6,f4,none⟩∧isOwn H b6∧(∃l,rdN H b6 (f4+(t74:Int).toNat*1) 1=some l)∧Lt (setC H b6 (f4+(t74:Int).toNat*1) (.float .f32 (fmul .f32 x3 x4))) fun H8=>R .normal (ud3 (.pointer (some ⟨b1,0,none⟩)::ud5 (.slice dg fg lg::.slice ze ye ff::ud62 (.int .i64 (ye:Int)::.int .i64 (IntKind.wrap .i64 (t74+1))::ud34 [])))) H8) (R (.exit 2) (ud3 (.pointer (some ⟨b1,0,none⟩)::ud5 (.slice dg fg lg::.slice ze ye ff::ud98 []))) H)):=by kernel_rfl
def f16z_I2 (b1:Nat) (ze:OA) (ff ye:Nat) (dg:OA) (lg fg:Nat) (Inv:Nat→Int→zq→Prop):Nat→List Value→zq→Prop:=fun μ tm H=>∃(t74:Int),tm=(f16z_P2 b1 ze ff ye dg lg fg t74)∧Inv μ t74 H
theorem f16z_L2 (b1:Nat) (ze:OA) (ff ye:Nat) (dg:OA) (lg fg:Nat) {Q:Post} (Inv:Nat→Int→zq→Prop) (ν:Nat) (t74:Int)  (H:zq) (h0:Inv ν t74 H)
  (hs:∀(μ:Nat) (t74:Int)  (H:zq),Inv μ t74 H→exL Tryz.prog z3b (cl (cl (cr (cl (cr (cr (cr (cr (cr (cr (zr Tryz.f73))))))))))) 28334198897217871283720 192 [(2,1544)] (f16z_P2 b1 ze ff ye dg lg fg t74) H (z1b (f16z_I2 b1 ze ff ye dg lg fg Inv) μ Q)):z1j (exL Tryz.prog z3b (cl (cl (cr (cl (cr (cr (cr (cr (cr (cr (zr Tryz.f73))))))))))) 28334198897217871283720 192 [(2,1544)]) (f16z_P2 b1 ze ff ye dg lg fg t74) H Q:=
 ⟨f16z_I2 b1 ze ff ye dg lg fg Inv,ν,⟨t74,rfl,h0⟩,fun μ tm H h=>by obtain ⟨t74,rfl,hI⟩:=h;exact hs μ t74  H hI⟩
theorem f16z_n2 {b1:Nat} {ze:OA} {ff ye:Nat} {dg:OA} {lg fg:Nat} {Q:Post} {Inv:Nat→Int→zq→Prop} {μ:Nat} (μ':Nat) {t74:Int}  {H:zq} (hm:μ'<μ) (hI:Inv μ' t74 H):z1b (f16z_I2 b1 ze ff ye dg lg fg Inv) μ Q .normal (f16z_P2 b1 ze ff ye dg lg fg t74) H:=⟨μ',hm,t74,rfl,hI⟩
theorem f16z_x2_2 (b1:Nat) (ze:OA) (ff ye:Nat) (dg:OA) (lg fg:Nat) (H:zq) (K:KT)  {I:Nat→List Value→zq→Prop} {μ:Nat}:z1b I μ (zx 2 (seqQ (exL Tryz.prog z3b (cr (cr (cr (cr (cr (cr (cr (zr Tryz.f73)))))))) 192 192 []) (retK Tryz.prog Tryz.f73 K))) (.exit 2) (ud3 (.pointer (some ⟨b1,0,none⟩)::ud5 (.slice dg fg lg::.slice ze ye ff::ud98 []))) H=
 (∃dj:OA,∃yi:Nat,∃sj:Nat,  rdC H b1 0=some (.slice dj yi sj)∧z1j (exL Tryz.prog z3b (cl (cl (cr (cl (cr (cr (cr (cr (cr (cr (cr (zr Tryz.f73)))))))))))) 9736 192 [(4,1536)]) (ud3 (.pointer (some ⟨b1,0,none⟩)::ud5 (.slice dg fg lg::.slice ze ye ff::ud2 (.int .i64 (IntKind.wrap .i64 ((yi:Int)-1))::ud95 [])))) H (zx 4 (seqQ (exL Tryz.prog z3b (cr (cr (cr (cr (cr (cr (cr (cr (zr Tryz.f73))))))))) 192 192 []) (retK Tryz.prog Tryz.f73 K)))):=by kernel_rfl
abbrev f16z_P3 (b1:Nat) (ze:OA) (ff ye:Nat) (dg:OA) (lg fg:Nat) (i:Int)  :List Value:=(ud3 (.pointer (some ⟨b1,0,none⟩)::ud5 (.slice dg fg lg::.slice ze ye ff::ud2 (.int .i64 i::ud95 []))))
theorem f16z_r3 (b1:Nat) (ze:OA) (ff ye:Nat) (dg:OA) (lg fg:Nat) (i:Int)  (H:zq) (R:Post):exL Tryz.prog z3b (cl (cl (cr (cl (cr (cr (cr (cr (cr (cr (cr (zr Tryz.f73)))))))))))) 9736 192 [(4,1536)] (f16z_P3 b1 ze ff ye dg lg fg i) H R=
 (Br (decide ((0:Int)≤i)) (∃ji:OA,∃ei:Nat,∃qi:Nat,  rdC H b1 0=some (.slice ji ei qi)∧(0:Int)≤i∧i<(ei:Int)∧∃b7 f5,(ji:OA)=some ⟨b7,f5,none⟩∧∃x7:Nat,  rdC H b7 (f5+(i:Int).toNat*1)=some (.float .f32 x7)∧zny dg fg lg ze ye ff i x7 true H fun  (H9:zq)=>R .normal (ud3 (.pointer (some ⟨b1,0,none⟩)::ud5 (.slice dg fg lg::.slice ze ye ff::ud2 (.int .i64 (IntKind.wrap .i64 (i-1))::ud95 [])))) H9) (R (.exit 4) (ud9 (.slice dg fg lg::.slice ze ye ff::ud98 [])) H)):=by kernel_rfl
def f16z_I3 (b1:Nat) (ze:OA) (ff ye:Nat) (dg:OA) (lg fg:Nat) (Inv:Nat→Int→zq→Prop):Nat→List Value→zq→Prop:=fun μ tm H=>∃(i:Int),tm=(f16z_P3 b1 ze ff ye dg lg fg i)∧Inv μ i H
theorem f16z_L3 (b1:Nat) (ze:OA) (ff ye:Nat) (dg:OA) (lg fg:Nat) {Q:Post} (Inv:Nat→Int→zq→Prop) (ν:Nat) (i:Int)  (H:zq) (h0:Inv ν i H)
  (hs:∀(μ:Nat) (i:Int)  (H:zq),Inv μ i H→exL Tryz.prog z3b (cl (cl (cr (cl (cr (cr (cr (cr (cr (cr (cr (zr Tryz.f73)))))))))))) 9736 192 [(4,1536)] (f16z_P3 b1 ze ff ye dg lg fg i) H (z1b (f16z_I3 b1 ze ff ye dg lg fg Inv) μ Q)):z1j (exL Tryz.prog z3b (cl (cl (cr (cl (cr (cr (cr (cr (cr (cr (cr (zr Tryz.f73)))))))))))) 9736 192 [(4,1536)]) (f16z_P3 b1 ze ff ye dg lg fg i) H Q:=
 ⟨f16z_I3 b1 ze ff ye dg lg fg Inv,ν,⟨i,rfl,h0⟩,fun μ tm H h=>by obtain ⟨i,rfl,hI⟩:=h;exact hs μ i  H hI⟩
theorem f16z_n3 {b1:Nat} {ze:OA} {ff ye:Nat} {dg:OA} {lg fg:Nat} {Q:Post} {Inv:Nat→Int→zq→Prop} {μ:Nat} (μ':Nat) {i:Int}  {H:zq} (hm:μ'<μ) (hI:Inv μ' i H):z1b (f16z_I3 b1 ze ff ye dg lg fg Inv) μ Q .normal (f16z_P3 b1 ze ff ye dg lg fg i) H:=⟨μ',hm,i,rfl,hI⟩
theorem f16z_x3_4 (ze:OA) (ff ye:Nat) (dg:OA) (lg fg:Nat) (H:zq) (K:KT)  {I:Nat→List Value→zq→Prop} {μ:Nat}:z1b I μ (zx 4 (seqQ (exL Tryz.prog z3b (cr (cr (cr (cr (cr (cr (cr (cr (zr Tryz.f73))))))))) 192 192 []) (retK Tryz.prog Tryz.f73 K))) (.exit 4) (ud9 (.slice dg fg lg::.slice ze ye ff::ud98 [])) H=
 (zzt dg fg lg ze ye ff H fun (a3:OA) (r7:Nat) (r8:Nat) (H10:zq)=>T_flz a3 r7 r8 H10 fun (a4:OA) (r9:Nat) (r10:Nat) (r11:Bool) (H11:zq)=>K (.tuple #[.slice a4 r9 r10,.bool r11]) H11):=by kernel_rfl
theorem zs1:∀g,FnOk Tryz.prog g (z3b g):=FnOk.envOf (by
 intro x hx
 simp only [List.mem_cons,List.not_mem_nil,or_false] at hx
 rcases hx with rfl | rfl | rfl | rfl | rfl | rfl
 ·exact zvu
 ·exact zod
 ·exact zm8
 ·exact f1zz_ok
 ·exact f5z_ok
 ·exact z1gn)
theorem ω14 {P:Prop} (h:P:=by first | assumption | omega | (simp only [List.length_set,z9g,z8b];first | rfl | assumption | omega)):P:=h
theorem f16z_main (sb:OA) (fc xb gb:Nat) (uc:OA) (yc cd:Nat) (tb:OA) (wb yb:Nat) (H:zq) (K:KT) (h:zne sb fc xb gb uc yc cd tb wb yb H fun (td:OA) (yd:Nat) (xd:Nat) (r2:Bool) (H':zq)=>K (.tuple #[.slice td yd xd,.bool r2]) H'):z1a Tryz.prog z3b Tryz.f73 [.agg #[.slice sb fc xb,.float .f32 gb],.slice uc yc cd,.slice tb wb yb] H K:=by
 rw [f16z_vc]
 obtain ⟨ia,zb,mb,xg,i_low,i_high,bd_389,bd_390,bd_391,hk⟩:=h
 obtain rfl:=xg.eqn
 obtain rfl:=i_low.eqn
 obtain rfl:=i_high.eqn
 have e:(z3e ia gb zb mb)=_:=rfl
 have e:=e.trans (zkg ia gb zb mb)
 have g0:=Grow.refl H
 refine Al.intro (fun b_1 H_1 hb_2 hl_3 g_4 o_5=>?_)
 have l_7:=g_4.1
 have g_8:=g0.trans g_4
 have l_9:=g_8.1
 have w388:=o_5.lt
 refine ⟨sb,ia.length,xb,gb,(o_5.rdN (Nat.le_of_ble_eq_true rfl)).trans rfl,?_⟩
 refine zlm ⟨_,(xg.grow g_8),ω0,fun  H_2 g_10  =>?_⟩
 have l_11:=g_10.1
 have g_12:=g_8.trans g_10
 have l_13:=g_12.1
 have o_14:=o_5.grow g_10
 have w15:=o_14.lt
 refine Br.intro (fun c_16=>?_) (fun c_16=>?_)
 ·have e:=e.trans (zw c_16)
  have c_16n:=z1f c_16
  rw [e] at hk
  exact hk _ _ _ H_2 g_12 ω19
 ·have e:=e.trans (zv c_16)
  have c_16n:=z1e c_16
  refine Br.intro (fun c_17=>?_) (fun c_17=>?_)
  ·have e:=e.trans (zw c_17)
   have c_17':=of_decide_eq_true c_17
   rw [e] at hk
   exact hk _ _ _ H_2 g_12 ω19
  ·have e:=e.trans (zv c_17)
   have c_17':=of_decide_eq_false c_17
   refine Br.intro (fun c_18=>?_) (fun c_18=>?_)
   ·have e:=e.trans (zw c_18)
    have c_18':=zmk c_18
    rw [show IntKind.wrap .i64 ((zb.length:Int)-1)=((zb.length:Int)-1) from zu ω2 ω2]
    refine Br.intro (fun c_19=>?_) (fun c_19=>?_)
    ·have e:=e.trans (zw c_19)
     have c_19':=zmk c_19
     rw [e] at hk
     exact hk _ _ _ H_2 g_12 ω19
    ·have e:=e.trans (zv c_19)
     have c_19':=zmj c_19
     rw [show IntKind.wrap .i64 ((zb.length:Int)+(mb.length:Int))=((zb.length:Int)+(mb.length:Int)) from zu ω2 ω2]
     refine Br.intro (fun c_20=>?_) (fun c_20=>?_)
     ·have e:=e.trans (zw c_20)
      have c_20':=of_decide_eq_true c_20
      rw [e] at hk
      exact hk _ _ _ H_2 g_12 ω19
     ·have e:=e.trans (zv c_20)
      have c_20':=of_decide_eq_false c_20
      refine Al.intro (fun b_21 H_3 hb_22 hl_23 g24 o25=>?_)
      have l27:=g24.1
      have g28:=g_12.trans g24
      have l29:=g28.1
      have o30:=o_14.grow g24
      have w31:=o30.lt
      have w203:=o25.lt
      refine zd0 ⟨[zb,mb],⟨_,o25.rdAll rfl,LLc.cons (i_low.grow g28) (LLc.cons (i_high.grow g28) (LLc.nil _ _))⟩,ω0,ω12,?_⟩
      refine Br.intro (fun c_32=>?_) (fun c_32=>?_)
      ·have e:=e.trans (zw c_32)
       have c_32n:=z1f c_32
       rw [e] at hk
       exact hk _ _ _ H_3 g28 ω19
      ·have e:=e.trans (zv c_32)
       have c_32n:=z1e c_32
       refine z9i ⟨_,(i_low.grow g28),ω0,fun a33 n34 e35 H_4 g37 r_36=>?_⟩
       have l38:=g37.1
       have g39:=g28.trans g37
       have l40:=g39.1
       have o41:=o30.grow g37
       have w42:=o41.lt
       have o43:=o25.grow g37
       have w44:=o43.lt
       obtain rfl:=r_36.isL.eqn
       have u45:=r_36.up
       have u46:=r_36.lo
       refine z9i ⟨_,(i_high.grow g39),ω0,fun a48 n49 e50 H_5 g52 r_51=>?_⟩
       have l53:=g52.1
       have g54:=g39.trans g52
       have l55:=g54.1
       have o56:=o41.grow g52
       have w57:=o56.lt
       have o58:=o43.grow g52
       have w59:=o58.lt
       have r60:=r_36.grow g52
       obtain rfl:=r_51.isL.eqn
       have u61:=r_51.up
       have u62:=r_51.lo
       refine Br.intro (fun c64=>?_) (fun c64=>?_)
       ·have e:=e.trans (zw c64)
        have c_64':=zjv c64
        rw [e] at hk
        exact hk _ _ _ H_5 g54 (r60.weak ω2)
       ·have e:=e.trans (zv c64)
        have c_64':=zju c64
        refine f16z_L1 _ _ _ _ _ _ _ _ (fun (μ:Nat) (t60:Int) (H_6:zq)=>∃(y1_1 y1_2:LN),Own H_6 b_1 ([.slice sb ia.length xb,.float .f32 gb])∧Own H_6 b_21 ([.slice uc zb.length cd,.slice tb mb.length yb])∧OwnS fF H_6 H_3.length a33 ((zb).length) e35 y1_1∧y1_1.length=(zb).length∧OwnS fF H_6 H_4.length a48 ((mb).length) e50 y1_2∧y1_2.length=(mb).length∧(b_21≠b_1)∧H_4.length≤H_6.length∧H_5.length≤H_6.length∧Grow H H_6∧(0:Int)≤t60∧t60≤((zb).length:Int)∧((zb).length:Int)-t60≤(μ:Int)∧z3e ia gb zb mb=z3u ia gb zb mb (μ+1) t60 y1_1 y1_2) (Int.toNat (((zb).length:Int)-(0:Int))) _ H_5 ?_ ?_
        ·exact ⟨_,_,o56,o58,r60,ω15,r_51,ω15,ω2,ω2,ω2,g54,ω7,ω7,ω2,e⟩
        ·intro μ t60  H_6 hI
         obtain ⟨y1_1,y1_2,o65,o66,r67,y68,r69,y70,n71,n72,n73,g74,v_75,v_76,hμ,e⟩:=hI
         rw [f16z_r1]
         have e:=e.trans (z6c ia gb zb mb μ t60 y1_1 y1_2)
         have w77:=o65.lt
         have w78:=o66.lt
         have l79:=g74.1
         refine Br.intro (fun c80=>?_) (fun c80=>?_)
         ·have e:=e.trans (zw c80)
          have c_80':=of_decide_eq_true c80
          obtain ⟨b81,f_82,q83⟩:=(r67.isL).pos ω0
          refine ⟨by omega,by omega,b81,f_82,q83,?_⟩
          refine ⟨((y1_1).getD (t60:Int).toNat 0),(r67.isL).rd (Grow.refl _) q83 ω2 _,?_⟩
          refine ⟨gb,(o65.rdC _).trans rfl,?_⟩
          obtain ⟨b84,f85,q86⟩:=(r67.isL).pos ω0
          refine ⟨by omega,by omega,b84,f85,q86,?_⟩
          refine Lt.setS r67 q86 ω6 (fun H_7 hl_87 o89 k88=>?_)
          have l90:=k88.1
          have g91:=g74.keepA (fun x hx=>by have:=u46 x hx;omega) k88
          have l92:=g91.1
          have o93:=o65.keepA (fun x hx=>by have:=u46 x hx;have:=u45 x hx;omega) k88
          have w94:=o93.lt
          have o95:=o66.keepA (fun x hx=>by have:=u46 x hx;have:=u45 x hx;omega) k88
          have w96:=o95.lt
          have r97:=r69.keepA (fun x y hx hy=>by have:=u46 x hx;have:=u45 x hx;have:=u62 y hy;have:=u61 y hy;omega) k88
          rw [show IntKind.wrap .i64 (t60+1)=(t60+1) from zu ω2 ω2]
          refine f16z_n1 (μ-1) ω17 ⟨_,_,o93,o95,o89,ω14,r97,ω14,ω2,ω2,ω2,g91,ω1,ω1,ω17,ω13⟩
         ·have e:=e.trans (zv c80)
          have c_80':=of_decide_eq_false c80
          rw [f16z_x1_0]
          refine f16z_L2 _ _ _ _ _ _ _ (fun (μ2:Nat) (t74:Int) (H_8:zq)=>∃(y2_1 y2_2:LN),Own H_8 b_1 ([.slice sb ia.length xb,.float .f32 gb])∧Own H_8 b_21 ([.slice uc zb.length cd,.slice tb mb.length yb])∧OwnS fF H_8 H_3.length a33 ((zb).length) e35 y2_1∧y2_1.length=(zb).length∧OwnS fF H_8 H_4.length a48 ((mb).length) e50 y2_2∧y2_2.length=(mb).length∧(b_21≠b_1)∧H_4.length≤H_8.length∧H_5.length≤H_8.length∧Grow H H_8∧(0:Int)≤t74∧t74≤((mb).length:Int)∧((mb).length:Int)-t74≤(μ2:Int)∧z3e ia gb zb mb=z7f ia gb zb mb t60 y1_1 y1_2 (fun (t74:Int) (y2_1:LN) (y2_2:LN)=>(z3v ia gb zb mb t60 y1_1 y1_2 t74 y2_1 y2_2 (fun (i:Int) (y3_1:LN) (y3_2:LN)=>(bif (zah (z4h y3_1 y3_2)).2 then ((z4h y3_1 y3_2),true) else ([],false))) (Int.toNat (((((ia.length:Int)-1)))-0+1)+1) ((((ia.length:Int)-1))) y2_1 y2_2)) (μ2+1) t74 y2_1 y2_2) (Int.toNat (((mb).length:Int)-(0:Int))) _ H_6 ?_ ?_
          ·exact ⟨_,_,o65,o66,r67,ω15,r69,ω15,ω2,ω2,ω2,g74,ω7,ω7,ω2,e⟩
          ·intro μ2 t74  H_8 hI
           obtain ⟨y2_1,y2_2,o98,o99,r100,y101,r102,y103,n104,n105,n106,g107,v108,v109,hμ,e⟩:=hI
           rw [f16z_r2]
           have e:=e.trans (zaa ia gb zb mb t60 y1_1 y1_2 (fun (t74:Int) (y2_1:LN) (y2_2:LN)=>(z3v ia gb zb mb t60 y1_1 y1_2 t74 y2_1 y2_2 (fun (i:Int) (y3_1:LN) (y3_2:LN)=>(bif (zah (z4h y3_1 y3_2)).2 then ((z4h y3_1 y3_2),true) else ([],false))) (Int.toNat (((((ia.length:Int)-1)))-0+1)+1) ((((ia.length:Int)-1))) y2_1 y2_2)) μ2 t74 y2_1 y2_2)
           have w110:=o98.lt
           have w111:=o99.lt
           have l112:=g107.1
           refine Br.intro (fun c113=>?_) (fun c113=>?_)
           ·have e:=e.trans (zw c113)
            have c_113':=of_decide_eq_true c113
            obtain ⟨b114,f115,q116⟩:=(r102.isL).pos ω0
            refine ⟨by omega,by omega,b114,f115,q116,?_⟩
            refine ⟨((y2_2).getD (t74:Int).toNat 0),(r102.isL).rd (Grow.refl _) q116 ω2 _,?_⟩
            refine ⟨gb,(o98.rdC _).trans rfl,?_⟩
            obtain ⟨b117,f_118,q119⟩:=(r102.isL).pos ω0
            refine ⟨by omega,by omega,b117,f_118,q119,?_⟩
            refine Lt.setS r102 q119 ω6 (fun H_9 hl_120 o122 k121=>?_)
            have l123:=k121.1
            have g124:=g107.keepA (fun x hx=>by have:=u62 x hx;omega) k121
            have l125:=g124.1
            have o126:=o98.keepA (fun x hx=>by have:=u62 x hx;have:=u61 x hx;omega) k121
            have w127:=o126.lt
            have o128:=o99.keepA (fun x hx=>by have:=u62 x hx;have:=u61 x hx;omega) k121
            have w129:=o128.lt
            have r130:=r100.keepA (fun x y hx hy=>by have:=u62 x hx;have:=u61 x hx;have:=u46 y hy;have:=u45 y hy;omega) k121
            rw [show IntKind.wrap .i64 (t74+1)=(t74+1) from zu ω2 ω2]
            refine f16z_n2 (μ2-1) ω17 ⟨_,_,o126,o128,r130,ω14,o122,ω14,ω2,ω2,ω2,g124,ω1,ω1,ω17,ω28⟩
           ·have e:=e.trans (zv c113)
            have c_113':=of_decide_eq_false c113
            rw [f16z_x2_2]
            refine ⟨sb,ia.length,xb,(o98.rdC _).trans rfl,?_⟩
            rw [show IntKind.wrap .i64 ((ia.length:Int)-1)=((ia.length:Int)-1) from zu ω2 ω2]
            refine f16z_L3 _ _ _ _ _ _ _ (fun (μ3:Nat) (i:Int) (H_10:zq)=>∃(y3_1 y3_2:LN),Own H_10 b_1 ([.slice sb ia.length xb,.float .f32 gb])∧Own H_10 b_21 ([.slice uc zb.length cd,.slice tb mb.length yb])∧OwnS fF H_10 H_3.length a33 ((zb).length) e35 y3_1∧y3_1.length=(zb).length∧OwnS fF H_10 H_4.length a48 ((mb).length) e50 y3_2∧y3_2.length=(mb).length∧(b_21≠b_1)∧H_4.length≤H_10.length∧H_5.length≤H_10.length∧Grow H H_10∧i≤(((ia.length:Int)-1))∧i-0+1≤(μ3:Int)∧z3e ia gb zb mb=z3v ia gb zb mb t60 y1_1 y1_2 t74 y2_1 y2_2 (fun (i:Int) (y3_1:LN) (y3_2:LN)=>(bif (zah (z4h y3_1 y3_2)).2 then ((z4h y3_1 y3_2),true) else ([],false))) (μ3+1) i y3_1 y3_2) (Int.toNat (((((ia.length:Int)-1)))-0+1)) _ H_8 ?_ ?_
            ·exact ⟨_,_,o98,o99,r100,ω15,r102,ω15,ω2,ω2,ω2,g107,ω7,ω2,e⟩
            ·intro μ3 i  H_10 hI
             obtain ⟨y3_1,y3_2,o131,o132,r133,y134,r135,y136,n137,n138,n139,g140,v141,hμ,e⟩:=hI
             rw [f16z_r3]
             have e:=e.trans (zab ia gb zb mb t60 y1_1 y1_2 t74 y2_1 y2_2 (fun (i:Int) (y3_1:LN) (y3_2:LN)=>(bif (zah (z4h y3_1 y3_2)).2 then ((z4h y3_1 y3_2),true) else ([],false))) μ3 i y3_1 y3_2)
             have w142:=o131.lt
             have w143:=o132.lt
             have l144:=g140.1
             refine Br.intro (fun c145=>?_) (fun c145=>?_)
             ·have e:=e.trans (zw c145)
              have c_145':=of_decide_eq_true c145
              refine ⟨sb,ia.length,xb,(o131.rdC _).trans rfl,?_⟩
              obtain ⟨b146,f147,q148⟩:=((xg.grow g140)).pos ω0
              refine ⟨by omega,by omega,b146,f147,q148,?_⟩
              refine ⟨((ia).getD (i:Int).toNat 0),(xg).rd g140 q148 ω2 _,?_⟩
              refine znz ⟨_,_,_,_,r133,r135,(fun x y hx hy=>by have:=u45 x hx;have:=u46 x hx;have:=u61 y hy;have:=u62 y hy;intro hh;omega),ω0,ω0,ω16,ω16,ω16,(fun H_12 k149 o150 o151=>?_)⟩
              obtain ⟨H_11,k152,k153⟩:=k149.split
              have l154:=k152.1
              have g155:=g140.keepA (fun x hx=>by have:=u46 x hx;omega) k152
              have l156:=g155.1
              have o157:=o131.keepA (fun x hx=>by have:=u46 x hx;have:=u45 x hx;omega) k152
              have w158:=o157.lt
              have o159:=o132.keepA (fun x hx=>by have:=u46 x hx;have:=u45 x hx;omega) k152
              have w160:=o159.lt
              have r161:=r135.keepA (fun x y hx hy=>by have:=u46 x hx;have:=u45 x hx;have:=u62 y hy;have:=u61 y hy;omega) k152
              have l162:=k153.1
              have g163:=g155.keepA (fun x hx=>by have:=u62 x hx;omega) k153
              have l164:=g163.1
              have o165:=o157.keepA (fun x hx=>by have:=u62 x hx;have:=u61 x hx;omega) k153
              have w166:=o165.lt
              have o167:=o159.keepA (fun x hx=>by have:=u62 x hx;have:=u61 x hx;omega) k153
              have w168:=o167.lt
              rw [show IntKind.wrap .i64 (i-1)=(i-1) from zu ω2 ω2]
              refine f16z_n3 (μ3-1) ω17 ⟨_,_,o165,o167,o150,ω14,o151,ω14,ω2,ω2,ω2,g163,ω1,ω17,ω29⟩
             ·have e:=e.trans (zv c145)
              have c_145':=of_decide_eq_false c145
              rw [f16z_x3_4]
              refine ztk ⟨_,_,r133.isL,r135.isL,ω0,ω0,fun a169 n170 e171 H_13 g174 r172=>?_⟩
              have z173:=za0 y3_1 y3_2
              have l175:=g174.1
              have g176:=g140.trans g174
              have l177:=g176.1
              have o178:=o131.grow g174
              have w179:=o178.lt
              have o180:=o132.grow g174
              have w181:=o180.lt
              have r182:=r133.grow g174
              have r183:=r135.grow g174
              obtain rfl:=r172.isL.eqn
              have u184:=r172.up
              have u185:=r172.lo
              refine ztv ⟨_,r172.isL,ω0,(fun H_14 g191=>?_)⟩
              have l193:=g191.1
              have g194:=g176.trans g191
              have l195:=g194.1
              have o196:=o178.grow g191
              have w197:=o196.lt
              have o198:=o180.grow g191
              have w199:=o198.lt
              have r200:=r182.grow g191
              have r201:=r183.grow g191
              have r202:=r172.grow g191
              refine Br.intro (fun c192=>?_) (fun c192=>?_)
              ·have e:=e.trans (zw c192)
               rw [e] at hk
               exact hk _ _ _ H_14 g194 (r202.weak ω2)
              ·have e:=e.trans (zv c192)
               rw [e] at hk
               exact hk _ _ _ H_14 g194 ω19
   ·have e:=e.trans (zv c_18)
    have c_18':=zmj c_18
    rw [show IntKind.wrap .i64 ((zb.length:Int)+(mb.length:Int))=((zb.length:Int)+(mb.length:Int)) from zu ω2 ω2]
    refine Br.intro (fun c204=>?_) (fun c204=>?_)
    ·have e:=e.trans (zw c204)
     have c_204':=of_decide_eq_true c204
     rw [e] at hk
     exact hk _ _ _ H_2 g_12 ω19
    ·have e:=e.trans (zv c204)
     have c_204':=of_decide_eq_false c204
     refine Al.intro (fun b205 H_15 hb_206 hl_207 g208 o209=>?_)
     have l211:=g208.1
     have g212:=g_12.trans g208
     have l213:=g212.1
     have o214:=o_14.grow g208
     have w215:=o214.lt
     have w387:=o209.lt
     refine zd0 ⟨[zb,mb],⟨_,o209.rdAll rfl,LLc.cons (i_low.grow g212) (LLc.cons (i_high.grow g212) (LLc.nil _ _))⟩,ω0,ω12,?_⟩
     refine Br.intro (fun c216=>?_) (fun c216=>?_)
     ·have e:=e.trans (zw c216)
      have c_216n:=z1f c216
      rw [e] at hk
      exact hk _ _ _ H_15 g212 ω19
     ·have e:=e.trans (zv c216)
      have c_216n:=z1e c216
      refine z9i ⟨_,(i_low.grow g212),ω0,fun a217 n218 e219 H_16 g221 r220=>?_⟩
      have l222:=g221.1
      have g223:=g212.trans g221
      have l224:=g223.1
      have o225:=o214.grow g221
      have w226:=o225.lt
      have o227:=o209.grow g221
      have w228:=o227.lt
      obtain rfl:=r220.isL.eqn
      have u229:=r220.up
      have u230:=r220.lo
      refine z9i ⟨_,(i_high.grow g223),ω0,fun a232 n233 e234 H_17 g236 r235=>?_⟩
      have l237:=g236.1
      have g238:=g223.trans g236
      have l239:=g238.1
      have o240:=o225.grow g236
      have w241:=o240.lt
      have o242:=o227.grow g236
      have w243:=o242.lt
      have r244:=r220.grow g236
      obtain rfl:=r235.isL.eqn
      have u245:=r235.up
      have u246:=r235.lo
      refine Br.intro (fun c248=>?_) (fun c248=>?_)
      ·have e:=e.trans (zw c248)
       have c_248':=zjv c248
       rw [e] at hk
       exact hk _ _ _ H_17 g238 (r244.weak ω2)
      ·have e:=e.trans (zv c248)
       have c_248':=zju c248
       refine f16z_L1 _ _ _ _ _ _ _ _ (fun (μ:Nat) (t60:Int) (H_18:zq)=>∃(y1_1 y1_2:LN),Own H_18 b_1 ([.slice sb ia.length xb,.float .f32 gb])∧Own H_18 b205 ([.slice uc zb.length cd,.slice tb mb.length yb])∧OwnS fF H_18 H_15.length a217 ((zb).length) e219 y1_1∧y1_1.length=(zb).length∧OwnS fF H_18 H_16.length a232 ((mb).length) e234 y1_2∧y1_2.length=(mb).length∧(b205≠b_1)∧H_16.length≤H_18.length∧H_17.length≤H_18.length∧Grow H H_18∧(0:Int)≤t60∧t60≤((zb).length:Int)∧((zb).length:Int)-t60≤(μ:Int)∧z3e ia gb zb mb=z3u ia gb zb mb (μ+1) t60 y1_1 y1_2) (Int.toNat (((zb).length:Int)-(0:Int))) _ H_17 ?_ ?_
       ·exact ⟨_,_,o240,o242,r244,ω15,r235,ω15,ω2,ω2,ω2,g238,ω7,ω7,ω2,e⟩
       ·intro μ t60  H_18 hI
        obtain ⟨y1_1,y1_2,o249,o250,r251,y252,r253,y254,n255,n256,n257,g258,v259,v260,hμ,e⟩:=hI
        rw [f16z_r1]
        have e:=e.trans (z6c ia gb zb mb μ t60 y1_1 y1_2)
        have w261:=o249.lt
        have w262:=o250.lt
        have l263:=g258.1
        refine Br.intro (fun c264=>?_) (fun c264=>?_)
        ·have e:=e.trans (zw c264)
         have c_264':=of_decide_eq_true c264
         obtain ⟨b265,f266,q267⟩:=(r251.isL).pos ω0
         refine ⟨by omega,by omega,b265,f266,q267,?_⟩
         refine ⟨((y1_1).getD (t60:Int).toNat 0),(r251.isL).rd (Grow.refl _) q267 ω2 _,?_⟩
         refine ⟨gb,(o249.rdC _).trans rfl,?_⟩
         obtain ⟨b268,f269,q270⟩:=(r251.isL).pos ω0
         refine ⟨by omega,by omega,b268,f269,q270,?_⟩
         refine Lt.setS r251 q270 ω6 (fun H_19 hl_271 o273 k272=>?_)
         have l274:=k272.1
         have g275:=g258.keepA (fun x hx=>by have:=u230 x hx;omega) k272
         have l276:=g275.1
         have o277:=o249.keepA (fun x hx=>by have:=u230 x hx;have:=u229 x hx;omega) k272
         have w278:=o277.lt
         have o279:=o250.keepA (fun x hx=>by have:=u230 x hx;have:=u229 x hx;omega) k272
         have w280:=o279.lt
         have r281:=r253.keepA (fun x y hx hy=>by have:=u230 x hx;have:=u229 x hx;have:=u246 y hy;have:=u245 y hy;omega) k272
         rw [show IntKind.wrap .i64 (t60+1)=(t60+1) from zu ω2 ω2]
         refine f16z_n1 (μ-1) ω17 ⟨_,_,o277,o279,o273,ω14,r281,ω14,ω2,ω2,ω2,g275,ω1,ω1,ω17,ω13⟩
        ·have e:=e.trans (zv c264)
         have c_264':=of_decide_eq_false c264
         rw [f16z_x1_0]
         refine f16z_L2 _ _ _ _ _ _ _ (fun (μ2:Nat) (t74:Int) (H_20:zq)=>∃(y2_1 y2_2:LN),Own H_20 b_1 ([.slice sb ia.length xb,.float .f32 gb])∧Own H_20 b205 ([.slice uc zb.length cd,.slice tb mb.length yb])∧OwnS fF H_20 H_15.length a217 ((zb).length) e219 y2_1∧y2_1.length=(zb).length∧OwnS fF H_20 H_16.length a232 ((mb).length) e234 y2_2∧y2_2.length=(mb).length∧(b205≠b_1)∧H_16.length≤H_20.length∧H_17.length≤H_20.length∧Grow H H_20∧(0:Int)≤t74∧t74≤((mb).length:Int)∧((mb).length:Int)-t74≤(μ2:Int)∧z3e ia gb zb mb=z7f ia gb zb mb t60 y1_1 y1_2 (fun (t74:Int) (y2_1:LN) (y2_2:LN)=>(z3v ia gb zb mb t60 y1_1 y1_2 t74 y2_1 y2_2 (fun (i:Int) (y3_1:LN) (y3_2:LN)=>(bif (zah (z4h y3_1 y3_2)).2 then ((z4h y3_1 y3_2),true) else ([],false))) (Int.toNat (((((ia.length:Int)-1)))-0+1)+1) ((((ia.length:Int)-1))) y2_1 y2_2)) (μ2+1) t74 y2_1 y2_2) (Int.toNat (((mb).length:Int)-(0:Int))) _ H_18 ?_ ?_
         ·exact ⟨_,_,o249,o250,r251,ω15,r253,ω15,ω2,ω2,ω2,g258,ω7,ω7,ω2,e⟩
         ·intro μ2 t74  H_20 hI
          obtain ⟨y2_1,y2_2,o282,o283,r284,y285,r286,y287,n288,n289,n290,g291,v292,v293,hμ,e⟩:=hI
          rw [f16z_r2]
          have e:=e.trans (zaa ia gb zb mb t60 y1_1 y1_2 (fun (t74:Int) (y2_1:LN) (y2_2:LN)=>(z3v ia gb zb mb t60 y1_1 y1_2 t74 y2_1 y2_2 (fun (i:Int) (y3_1:LN) (y3_2:LN)=>(bif (zah (z4h y3_1 y3_2)).2 then ((z4h y3_1 y3_2),true) else ([],false))) (Int.toNat (((((ia.length:Int)-1)))-0+1)+1) ((((ia.length:Int)-1))) y2_1 y2_2)) μ2 t74 y2_1 y2_2)
          have w294:=o282.lt
          have w295:=o283.lt
          have l296:=g291.1
          refine Br.intro (fun c297=>?_) (fun c297=>?_)
          ·have e:=e.trans (zw c297)
           have c_297':=of_decide_eq_true c297
           obtain ⟨b298,f299,q300⟩:=(r286.isL).pos ω0
           refine ⟨by omega,by omega,b298,f299,q300,?_⟩
           refine ⟨((y2_2).getD (t74:Int).toNat 0),(r286.isL).rd (Grow.refl _) q300 ω2 _,?_⟩
           refine ⟨gb,(o282.rdC _).trans rfl,?_⟩
           obtain ⟨b301,f302,q303⟩:=(r286.isL).pos ω0
           refine ⟨by omega,by omega,b301,f302,q303,?_⟩
           refine Lt.setS r286 q303 ω6 (fun H_21 hl_304 o306 k305=>?_)
           have l307:=k305.1
           have g308:=g291.keepA (fun x hx=>by have:=u246 x hx;omega) k305
           have l309:=g308.1
           have o310:=o282.keepA (fun x hx=>by have:=u246 x hx;have:=u245 x hx;omega) k305
           have w311:=o310.lt
           have o312:=o283.keepA (fun x hx=>by have:=u246 x hx;have:=u245 x hx;omega) k305
           have w313:=o312.lt
           have r314:=r284.keepA (fun x y hx hy=>by have:=u246 x hx;have:=u245 x hx;have:=u230 y hy;have:=u229 y hy;omega) k305
           rw [show IntKind.wrap .i64 (t74+1)=(t74+1) from zu ω2 ω2]
           refine f16z_n2 (μ2-1) ω17 ⟨_,_,o310,o312,r314,ω14,o306,ω14,ω2,ω2,ω2,g308,ω1,ω1,ω17,ω28⟩
          ·have e:=e.trans (zv c297)
           have c_297':=of_decide_eq_false c297
           rw [f16z_x2_2]
           refine ⟨sb,ia.length,xb,(o282.rdC _).trans rfl,?_⟩
           rw [show IntKind.wrap .i64 ((ia.length:Int)-1)=((ia.length:Int)-1) from zu ω2 ω2]
           refine f16z_L3 _ _ _ _ _ _ _ (fun (μ3:Nat) (i:Int) (H_22:zq)=>∃(y3_1 y3_2:LN),Own H_22 b_1 ([.slice sb ia.length xb,.float .f32 gb])∧Own H_22 b205 ([.slice uc zb.length cd,.slice tb mb.length yb])∧OwnS fF H_22 H_15.length a217 ((zb).length) e219 y3_1∧y3_1.length=(zb).length∧OwnS fF H_22 H_16.length a232 ((mb).length) e234 y3_2∧y3_2.length=(mb).length∧(b205≠b_1)∧H_16.length≤H_22.length∧H_17.length≤H_22.length∧Grow H H_22∧i≤(((ia.length:Int)-1))∧i-0+1≤(μ3:Int)∧z3e ia gb zb mb=z3v ia gb zb mb t60 y1_1 y1_2 t74 y2_1 y2_2 (fun (i:Int) (y3_1:LN) (y3_2:LN)=>(bif (zah (z4h y3_1 y3_2)).2 then ((z4h y3_1 y3_2),true) else ([],false))) (μ3+1) i y3_1 y3_2) (Int.toNat (((((ia.length:Int)-1)))-0+1)) _ H_20 ?_ ?_
           ·exact ⟨_,_,o282,o283,r284,ω15,r286,ω15,ω2,ω2,ω2,g291,ω7,ω2,e⟩
           ·intro μ3 i  H_22 hI
            obtain ⟨y3_1,y3_2,o315,o316,r317,y318,r319,y320,n321,n322,n323,g324,v325,hμ,e⟩:=hI
            rw [f16z_r3]
            have e:=e.trans (zab ia gb zb mb t60 y1_1 y1_2 t74 y2_1 y2_2 (fun (i:Int) (y3_1:LN) (y3_2:LN)=>(bif (zah (z4h y3_1 y3_2)).2 then ((z4h y3_1 y3_2),true) else ([],false))) μ3 i y3_1 y3_2)
            have w326:=o315.lt
            have w327:=o316.lt
            have l328:=g324.1
            refine Br.intro (fun c329=>?_) (fun c329=>?_)
            ·have e:=e.trans (zw c329)
             have c_329':=of_decide_eq_true c329
             refine ⟨sb,ia.length,xb,(o315.rdC _).trans rfl,?_⟩
             obtain ⟨b330,f331,q332⟩:=((xg.grow g324)).pos ω0
             refine ⟨by omega,by omega,b330,f331,q332,?_⟩
             refine ⟨((ia).getD (i:Int).toNat 0),(xg).rd g324 q332 ω2 _,?_⟩
             refine znz ⟨_,_,_,_,r317,r319,(fun x y hx hy=>by have:=u229 x hx;have:=u230 x hx;have:=u245 y hy;have:=u246 y hy;intro hh;omega),ω0,ω0,ω16,ω16,ω16,(fun H_24 k333 o334 o335=>?_)⟩
             obtain ⟨H_23,k336,k337⟩:=k333.split
             have l338:=k336.1
             have g339:=g324.keepA (fun x hx=>by have:=u230 x hx;omega) k336
             have l340:=g339.1
             have o341:=o315.keepA (fun x hx=>by have:=u230 x hx;have:=u229 x hx;omega) k336
             have w342:=o341.lt
             have o343:=o316.keepA (fun x hx=>by have:=u230 x hx;have:=u229 x hx;omega) k336
             have w344:=o343.lt
             have r345:=r319.keepA (fun x y hx hy=>by have:=u230 x hx;have:=u229 x hx;have:=u246 y hy;have:=u245 y hy;omega) k336
             have l346:=k337.1
             have g347:=g339.keepA (fun x hx=>by have:=u246 x hx;omega) k337
             have l348:=g347.1
             have o349:=o341.keepA (fun x hx=>by have:=u246 x hx;have:=u245 x hx;omega) k337
             have w350:=o349.lt
             have o351:=o343.keepA (fun x hx=>by have:=u246 x hx;have:=u245 x hx;omega) k337
             have w352:=o351.lt
             rw [show IntKind.wrap .i64 (i-1)=(i-1) from zu ω2 ω2]
             refine f16z_n3 (μ3-1) ω17 ⟨_,_,o349,o351,o334,ω14,o335,ω14,ω2,ω2,ω2,g347,ω1,ω17,ω29⟩
            ·have e:=e.trans (zv c329)
             have c_329':=of_decide_eq_false c329
             rw [f16z_x3_4]
             refine ztk ⟨_,_,r317.isL,r319.isL,ω0,ω0,fun a353 n354 e355 H_25 g358 r356=>?_⟩
             have z357:=za0 y3_1 y3_2
             have l359:=g358.1
             have g360:=g324.trans g358
             have l361:=g360.1
             have o362:=o315.grow g358
             have w363:=o362.lt
             have o364:=o316.grow g358
             have w365:=o364.lt
             have r366:=r317.grow g358
             have r367:=r319.grow g358
             obtain rfl:=r356.isL.eqn
             have u368:=r356.up
             have u369:=r356.lo
             refine ztv ⟨_,r356.isL,ω0,(fun H_26 g375=>?_)⟩
             have l377:=g375.1
             have g378:=g360.trans g375
             have l379:=g378.1
             have o380:=o362.grow g375
             have w381:=o380.lt
             have o382:=o364.grow g375
             have w383:=o382.lt
             have r384:=r366.grow g375
             have r385:=r367.grow g375
             have r386:=r356.grow g375
             refine Br.intro (fun c376=>?_) (fun c376=>?_)
             ·have e:=e.trans (zw c376)
              rw [e] at hk
              exact hk _ _ _ H_26 g378 (r386.weak ω2)
             ·have e:=e.trans (zv c376)
              rw [e] at hk
              exact hk _ _ _ H_26 g378 ω19
theorem f16z_ok:FnOk Tryz.prog 73 z16g:=FnOk.bodyF mix_ok zs1 Tryz.func73 rfl ω9 ω9 fun args H=>by
 unfold z14y
 split
 ·refine ⟨?_,?_,?_,?_,fun K hk=>f16z_main _ _ _ _ _ _ _ _ _ _ H K hk⟩
  ·intro K K' h hk;obtain ⟨ia,zb,mb,xg,i_low,i_high,bd_389,bd_390,bd_391,k⟩:=hk;exact ⟨ia,zb,mb,xg,i_low,i_high,bd_389,bd_390,bd_391,(fun td yd xd H' gg ow0=>h _ _ (k td yd xd H' gg ow0))⟩
  ·nofun
  ·intro K hk;obtain ⟨ia,zb,mb,xg,i_low,i_high,bd_389,bd_390,bd_391,k⟩:=hk;exact z4m fun a n e H1 g o=>⟨_,_,k a n e H1 g o⟩
  ·intro _ K hk;obtain ⟨ia,zb,mb,xg,i_low,i_high,bd_389,bd_390,bd_391,k⟩:=hk;exact ⟨ia,zb,mb,xg,i_low,i_high,bd_389,bd_390,bd_391,(fun td yd xd H' gg ow0=>⟨gg,k td yd xd H' gg ow0⟩)⟩
 ·exact Nice.no

def zaf (ki dc:LN) (fe:Nat) (cap1p:Int):LN×Bool:=((z3e dc fe ((((ki).drop (0:Int).toNat).take ((cap1p:Int)-0).toNat)) ((((ki).drop (cap1p:Int).toNat).take (((ki.length:Int):Int)-cap1p).toNat))).1,(z3e dc fe ((((ki).drop (0:Int).toNat).take ((cap1p:Int)-0).toNat)) ((((ki).drop (cap1p:Int).toNat).take (((ki.length:Int):Int)-cap1p).toNat))).2)
def zhw:=@zaf.eq_1
def T_fjz (pj:OA) (cj qk cap0 cap1:Nat) (H:zq) (K:OA→Nat→Nat→Bool→zq→Prop):Prop:=∃(rf:OA),∃(kg jg fe:Nat),∃(cap1p:Int),∃(ki dc:LN),rdN H cap0 0 2=some [.slice rf kg jg,.float .f32 fe]∧rdN H cap1 0 1=some [.int .i64 cap1p]∧IsL fF H pj cj ki∧IsL fF H rf kg dc∧ki.length<1073741824∧dc.length<1073741824∧0≤cap1p∧cap1p≤ki.length∧cap1p=(ki.length+1) / 2∧((∀(td:OA) (yd xd:Nat),∀H':zq,Grow H H'→OwnS fF H' H.length td yd xd ((zaf ki dc fe cap1p).1)→K td yd xd ((zaf ki dc fe cap1p).2) H'))
/-! fjz: function 72 -/
def E_fjz:Env:=envOf [(73,z16g)]
def F_fjz (args:List Value) (H:zq):(Value→zq→Prop)→Prop:=match args with
 | [.slice pj cj qk,.pointer (some ⟨cap0,0,none⟩),.pointer (some ⟨cap1,0,none⟩)]=>fun K=>T_fjz pj cj qk cap0 cap1 H fun (td:OA) (yd:Nat) (xd:Nat) (r2:Bool) (H':zq)=>K (.tuple #[.slice td yd xd,.bool r2]) H'
 | _=>fun _=>False
def S_fjz:FSpec:={F:=F_fjz,quiet:=false,tame:=true}
theorem z1gh (pj:OA) (cj qk cap0 cap1:Nat) (H:zq) (K:KT):z1a Tryz.prog E_fjz Tryz.f72 [.slice pj cj qk,.pointer (some ⟨cap0,0,none⟩),.pointer (some ⟨cap1,0,none⟩)] H K=
 (∃x1:Int,  rdC H cap1 0=some (.int .i64 x1)∧∃x2:Int,  rdC H cap1 0=some (.int .i64 x2)∧∃zi:OA,∃bj:Nat,∃aj:Nat,∃c2:Nat,  rdN H cap0 0 2=some [.slice zi bj aj,.float .f32 c2]∧(0:Int)≤0∧0≤x2∧x2≤(cj:Int)∧(0:Int)≤x1∧x1≤(cj:Int)∧(cj:Int)≤(cj:Int)∧zne zi bj aj c2 ((pj:OA).map fun a=>⟨a.block,a.off+(0:Int).toNat*1,none⟩) (((x2:Int)-0).toNat) 0 ((pj:OA).map fun a=>⟨a.block,a.off+(x1:Int).toNat*1,none⟩) ((((cj:Int):Int)-x1).toNat) 0 H fun (a1:OA) (r1:Nat) (r2:Nat) (r3:Bool) (H1:zq)=>K (.tuple #[.slice a1 r1 r2,.bool r3]) H1):=by kernel_rfl
theorem zyo:∀g,FnOk Tryz.prog g (E_fjz g):=FnOk.envOf (by
 intro x hx
 simp only [List.mem_cons,List.not_mem_nil,or_false] at hx
 subst hx;exact f16z_ok)
theorem z11o (pj:OA) (cj qk cap0 cap1:Nat) (H:zq) (K:KT) (h:T_fjz pj cj qk cap0 cap1 H fun (td:OA) (yd:Nat) (xd:Nat) (r2:Bool) (H':zq)=>K (.tuple #[.slice td yd xd,.bool r2]) H'):z1a Tryz.prog E_fjz Tryz.f72 [.slice pj cj qk,.pointer (some ⟨cap0,0,none⟩),.pointer (some ⟨cap1,0,none⟩)] H K:=by
 rw [z1gh]
 obtain ⟨rf,kg,jg,fe,cap1p,ki,dc,i_cap0,i_cap1,i_row,qg,bd_15,bd_16,pr0,pr1,pr2,hk⟩:=h
 obtain rfl:=i_row.eqn
 obtain rfl:=qg.eqn
 have e:(zaf ki dc fe cap1p)=_:=rfl
 have e:=e.trans (zhw ki dc fe cap1p)
 have g0:=Grow.refl H
 refine ⟨cap1p,(z1h (zt g0 i_cap1) 0 (Nat.le_of_ble_eq_true rfl)).trans rfl,?_⟩
 refine ⟨cap1p,(z1h (zt g0 i_cap1) 0 (Nat.le_of_ble_eq_true rfl)).trans rfl,?_⟩
 refine ⟨rf,dc.length,jg,fe,zt g0 i_cap0,?_⟩
 refine ⟨by omega,by omega,by omega,?_⟩
 have i_1:=z9d i_row (lo:=0) (hi:=cap1p) ω2 ω2 ω2
 refine ⟨by omega,by omega,by omega,?_⟩
 have i_2:=z9d i_row (lo:=cap1p) (hi:=(ki.length:Int)) ω2 ω2 ω2
 refine zza ⟨_,_,_,(qg.grow g0),(i_1.grow g0),(i_2.grow g0),ω0,ω0,ω0,fun a_3 n_4 e_5 H_1 g_8 r_6=>?_⟩
 have z7:=zdq dc fe ((((ki).drop (0:Int).toNat).take ((cap1p:Int)-0).toNat)) ((((ki).drop (cap1p:Int).toNat).take (((ki.length:Int):Int)-cap1p).toNat))
 have l_9:=g_8.1
 have g_10:=g0.trans g_8
 have l_11:=g_10.1
 obtain rfl:=r_6.isL.eqn
 have u12:=r_6.up
 have u13:=r_6.lo
 rw [e] at hk
 exact hk _ _ _ H_1 g_10 (r_6.weak ω2)
theorem z1gg:FnOk Tryz.prog 72 S_fjz:=FnOk.bodyF mix_ok zyo Tryz.func72 rfl ω9 ω9 fun args H=>by
 unfold F_fjz
 split
 ·refine ⟨?_,?_,?_,?_,fun K hk=>z11o _ _ _ _ _ H K hk⟩
  ·intro K K' h hk;obtain ⟨rf,kg,jg,fe,cap1p,ki,dc,i_cap0,i_cap1,i_row,qg,bd_15,bd_16,pr0,pr1,pr2,k⟩:=hk;exact ⟨rf,kg,jg,fe,cap1p,ki,dc,i_cap0,i_cap1,i_row,qg,bd_15,bd_16,pr0,pr1,pr2,(fun td yd xd H' gg ow0=>h _ _ (k td yd xd H' gg ow0))⟩
  ·nofun
  ·intro K hk;obtain ⟨rf,kg,jg,fe,cap1p,ki,dc,i_cap0,i_cap1,i_row,qg,bd_15,bd_16,pr0,pr1,pr2,k⟩:=hk;exact z4m fun a n e H1 g o=>⟨_,_,k a n e H1 g o⟩
  ·intro _ K hk;obtain ⟨rf,kg,jg,fe,cap1p,ki,dc,i_cap0,i_cap1,i_row,qg,bd_15,bd_16,pr0,pr1,pr2,k⟩:=hk;exact ⟨rf,kg,jg,fe,cap1p,ki,dc,i_cap0,i_cap1,i_row,qg,bd_15,bd_16,pr0,pr1,pr2,(fun td yd xd H' gg ow0=>⟨gg,k td yd xd H' gg ow0⟩)⟩
 ·exact Nice.no
def ChOk (env:Env) (x:Value) (H0:zq) (rb fb:Nat) (a:OA) (W:Int) (m:Nat) (g:Nat→LN×Bool):Prop:=
 ∀(y:Nat),y<m→∀(H:zq),z2t (some ⟨rb,0,none⟩) (some ⟨fb,0,none⟩) H0 H→∀K:Value→zq→Prop,
  (∀(a':OA) (n' e':Nat) (H':zq),Grow H H'→OwnS fF H' H.length a' n' e' (g y).1→K (.tuple #[.slice a' n' e',.bool (g y).2]) H')→
  zf1 env x [.slice ((a:OA).map fun a=>⟨a.block,a.off+((y:Int)*W).toNat*1,none⟩) ((((y:Int)+1)*W-(y:Int)*W).toNat) 0] H K
def z7n (H0 H:zq) (rb fb k m:Nat) (g:Nat→LN×Bool):Prop:=
 z2t (some ⟨rb,0,none⟩) (some ⟨fb,0,none⟩) H0 H∧∃rs fs:List Value,Own H rb rs∧Own H fb fs∧rs.length=m∧fs.length=m∧
  ∀i,i<k→fs[i]? =some (.bool (g i).2)∧∃(a:OA) (n e:Nat),rs[i]? =some (.slice a n e)∧IsL fF H a n (g i).1∧∀x,a=some x→H0.length≤x.block
theorem Own.keep2 {H H':zq} {b rb fb:Nat} {cs:List Value} (h:Own H b cs) (h1:rb≠b) (h2:fb≠b) (k:z2t (some ⟨rb,0,none⟩) (some ⟨fb,0,none⟩) H H'):Own H' b cs:=
 (k.2 b h.lt (fun x hx=>by cases hx;exact h1) (fun x hx=>by cases hx;exact h2)).trans h
theorem IsL.keepB {H H':zq} {a:OA} {n:Nat} {xs:LN} (h:IsL fF H a n xs) (hk:∀x,a=some x→H'[x.block]? =H[x.block]?):IsL fF H' a n xs:=by
 unfold IsL rdS at *
 cases n with
 | zero=>exact h
 | succ n=>
  cases a with
  | none=>exact h
  | some x=>
   have:=hk x rfl
   obtain ⟨b,off,sub⟩:=x
   cases sub with
   | none=>simp only [rdN,rdB] at h ⊢;rw [this];exact h
   | some _=>exact h
theorem extV0 {u v:Value} {K:Value→Prop}:extV (.tuple #[u,v]) 0 K=K u:=rfl
theorem extV1 {u v:Value} {K:Value→Prop}:extV (.tuple #[u,v]) 1 K=K v:=rfl
theorem zl8 {k W:Int} (h1:0≤k) (h2:k≤17) (h3:1≤W) (h4:W≤16):0≤k*W∧k*W≤272:=by
 constructor
 ·exact Int.mul_nonneg h1 ω2
 ·have:=Int.mul_le_mul h2 h4 ω2 ω2
  omega
/-! f1az: function 111 -/
def z5t:Env:=envOf [(999998,z9r),(72,S_fjz)]
def zte:FSpec:={F:=z5y Tryz.prog z5t Tryz.f111,quiet:=false,tame:=false}
theorem zig:∀g,FnOk Tryz.prog g (z5t g):=FnOk.envOf (by
 intro x hx
 simp only [List.mem_cons,List.not_mem_nil,or_false] at hx
 rcases hx with rfl | rfl
 ·exact zn4 _
 ·exact z1gg)
theorem z1a7:FnOk Tryz.prog 111 zte:=FnOkX.clear mix_ok zig Tryz.func111 rfl ω9 ω9
theorem z1a9 (cap0 cap1 cap2 cap3 cap4 cap5:Nat) (H:zq) (K:KT):z1a Tryz.prog z5t Tryz.f111 [.pointer (some ⟨cap0,0,none⟩),.pointer (some ⟨cap1,0,none⟩),.pointer (some ⟨cap2,0,none⟩),.pointer (some ⟨cap3,0,none⟩),.pointer (some ⟨cap4,0,none⟩),.pointer (some ⟨cap5,0,none⟩)] H K=
 (∃x1:Int,  rdC H cap0 0=some (.int .i64 x1)∧z1j (exL Tryz.prog z5t (cl (cl (cr (zr Tryz.f111)))) 126 0 [(0,0)]) (ud::.pointer (some ⟨cap1,0,none⟩)::.pointer (some ⟨cap2,0,none⟩)::.pointer (some ⟨cap3,0,none⟩)::.pointer (some ⟨cap4,0,none⟩)::.pointer (some ⟨cap5,0,none⟩)::.int .i64 x1::ud31 []) H (zx 0 (retK Tryz.prog Tryz.f111 K))):=by kernel_rfl
abbrev zbr (cap1 cap2 cap3 cap4 cap5:Nat) (y:Int)  :List Value:=(ud::.pointer (some ⟨cap1,0,none⟩)::.pointer (some ⟨cap2,0,none⟩)::.pointer (some ⟨cap3,0,none⟩)::.pointer (some ⟨cap4,0,none⟩)::.pointer (some ⟨cap5,0,none⟩)::.int .i64 y::ud31 [])
theorem z1a8 (cap1 cap2 cap3 cap4 cap5:Nat) (y:Int)  (H:zq) (R:Post):exL Tryz.prog z5t (cl (cl (cr (zr Tryz.f111)))) 126 0 [(0,0)] (zbr cap1 cap2 cap3 cap4 cap5 y) H R=
 (∃x2:Int,  rdC H cap1 1=some (.int .i64 x2)∧Br (decide ((y:Int)<x2)) (∃x3:Int,  rdC H cap1 0=some (.int .i64 x3)∧∃x4:Int,  rdC H cap1 0=some (.int .i64 x4)∧∃dj:OA,∃yi:Nat,∃sj:Nat,  rdC H cap1 2=some (.slice dj yi sj)∧∃x6:Value,  rdC H cap3 0=some (x6)∧∃nj:OA,∃xi:Nat,∃tk:Nat,  rdC H cap5 0=some (.slice nj xi tk)∧∃tj:OA,∃uj:Nat,∃vk:Nat,  rdC H cap4 0=some (.slice tj uj vk)∧(0:Int)≤IntKind.wrap .i64 (y*x4)∧IntKind.wrap .i64 (y*x4)≤IntKind.wrap .i64 ((IntKind.wrap .i64 (y+1))*x3)∧IntKind.wrap .i64 ((IntKind.wrap .i64 (y+1))*x3)≤(yi:Int)∧chk (valT z5t x6) (zf1 z5t x6 [.slice ((dj:OA).map fun a=>⟨a.block,a.off+(IntKind.wrap .i64 (y*x4):Int).toNat*1,none⟩) (((IntKind.wrap .i64 ((IntKind.wrap .i64 (y+1))*x3):Int)-IntKind.wrap .i64 (y*x4)).toNat) 0] H fun (w1:Value) (H1:zq)=>extV w1 0 fun (w2:Value)=>extV w1 1 fun (w3:Value)=>(0:Int)≤y∧y<(uj:Int)∧∃b1 f1,(tj:OA)=some ⟨b1,f1,none⟩∧stV w2 H1 b1 (f1+(y:Int).toNat*1) fun (H2:zq)=>(0:Int)≤y∧y<(xi:Int)∧∃b2 f2,(nj:OA)=some ⟨b2,f2,none⟩∧stV w3 H2 b2 (f2+(y:Int).toNat*1) fun (H3:zq)=>∃x9:Int,  rdC H3 cap2 0=some (.int .i64 x9)∧R .normal (ud::.pointer (some ⟨cap1,0,none⟩)::.pointer (some ⟨cap2,0,none⟩)::.pointer (some ⟨cap3,0,none⟩)::.pointer (some ⟨cap4,0,none⟩)::.pointer (some ⟨cap5,0,none⟩)::.int .i64 (IntKind.wrap .i64 (y+x9))::ud31 []) H3)) (R (.exit 0) (ud38 []) H)):=by kernel_rfl
def zhc (cap1 cap2 cap3 cap4 cap5:Nat) (Inv:Nat→Int→zq→Prop):Nat→List Value→zq→Prop:=fun μ tm H=>∃(y:Int),tm=(zbr cap1 cap2 cap3 cap4 cap5 y)∧Inv μ y H
theorem z1a5 (cap1 cap2 cap3 cap4 cap5:Nat) {Q:Post} (Inv:Nat→Int→zq→Prop) (ν:Nat) (y:Int)  (H:zq) (h0:Inv ν y H)
  (hs:∀(μ:Nat) (y:Int)  (H:zq),Inv μ y H→exL Tryz.prog z5t (cl (cl (cr (zr Tryz.f111)))) 126 0 [(0,0)] (zbr cap1 cap2 cap3 cap4 cap5 y) H (z1b (zhc cap1 cap2 cap3 cap4 cap5 Inv) μ Q)):z1j (exL Tryz.prog z5t (cl (cl (cr (zr Tryz.f111)))) 126 0 [(0,0)]) (zbr cap1 cap2 cap3 cap4 cap5 y) H Q:=
 ⟨zhc cap1 cap2 cap3 cap4 cap5 Inv,ν,⟨y,rfl,h0⟩,fun μ tm H h=>by obtain ⟨y,rfl,hI⟩:=h;exact hs μ y  H hI⟩
theorem z1a6 {cap1 cap2 cap3 cap4 cap5:Nat} {Q:Post} {Inv:Nat→Int→zq→Prop} {μ:Nat} (μ':Nat) {y:Int}  {H:zq} (hm:μ'<μ) (hI:Inv μ' y H):z1b (zhc cap1 cap2 cap3 cap4 cap5 Inv) μ Q .normal (zbr cap1 cap2 cap3 cap4 cap5 y) H:=⟨μ',hm,y,rfl,hI⟩
theorem zuq  (H:zq) (K:KT)  {I:Nat→List Value→zq→Prop} {μ:Nat}:z1b I μ (zx 0 (retK Tryz.prog Tryz.f111 K)) (.exit 0) (ud38 []) H=
 (K (.tuple #[]) H):=by kernel_rfl
theorem z7n.step {H0 H H':zq} {rb fb k m:Nat} {g:Nat→LN×Bool} (hne:rb≠fb) (h:z7n H0 H rb fb k m g) (hk:k<m) {a':OA} {n' e':Nat} (hg:Grow H H') (ho:OwnS fF H' H.length a' n' e' (g k).1)
  (hrb:rb<H0.length) (hfb:fb<H0.length) {K:zq→Prop} (hK:∀H3,z7n H0 H3 rb fb (k+1) m g→K H3):
  stV (.slice a' n' e') H' rb (0+k*1) fun H2=>stV (.bool (g k).2) H2 fb (0+k*1) K:=by
 rw [zen]
 simp only [z14i]
 obtain ⟨kp,rs,fs,o1,o2,l1,l2,h⟩:=h
 have p1:=o1.grow hg
 have p2:=o2.grow hg
 refine Lt.set p1 ω2 fun H2 e2 q1 k2=>Lt.set (p2.keep (Ne.symm hne) k2) ω2 fun H3 e3 q2 k3=>hK H3 ⟨?_,_,_,q1.keep hne k3,q2,by simp [l1],by simp [l2],fun i hi=>?_⟩
 ·refine ⟨by have:=kp.1;have:=hg.1;omega,fun i hi h1 h2=>?_⟩
  have n1:i≠rb:=fun e=>h1 ⟨rb,0,none⟩ rfl e.symm
  have n2:i≠fb:=fun e=>h2 ⟨fb,0,none⟩ rfl e.symm
  have a0:=kp.1;have a1:=hg.1
  rw [k3.2 i ω2 n2,k2.2 i ω2 n1,hg.2 i ω2]
  exact kp.2 i hi h1 h2
 ·rcases Nat.lt_succ_iff_lt_or_eq.1 hi with hi | rfl
  ·obtain ⟨g1,a,n,e,g2,g3,g4⟩:=h i hi
   refine ⟨by rw [List.getElem?_set_ne ω2];exact g1,a,n,e,by rw [List.getElem?_set_ne ω2];exact g2,IsL.keepB (g3.grow hg) fun x hx=>?_,g4⟩
   have:=g4 x hx
   have hx2:n=0∨x.block<H'.length:=by
    rcases Nat.eq_zero_or_pos n with h0 | h0
    ·exact .inl h0
    ·right
     obtain ⟨b,o,ea,hc⟩:=(g3.grow hg).cell h0
     rw [hx] at ea;cases ea
     have hl:=(g3.grow hg).len
     have:=hc 0 _ (List.getElem?_eq_getElem ω2)
     unfold rdC rdB at this
     by_cases hb:b<H'.length
     ·exact hb
     ·rw [List.getElem?_eq_none ω2] at this;cases this
   by_cases hb:x.block<H'.length
   ·rw [k3.2 x.block ω2 ω2,k2.2 x.block hb ω2]
   ·rw [List.getElem?_eq_none ω2,List.getElem?_eq_none ω2]
  ·refine ⟨by rw [show 0+i*1=i by omega,List.getElem?_set_self ω2],a',n',e',by rw [show 0+i*1=i by omega,List.getElem?_set_self ω2],IsL.keepB ho.isL fun x hx=>?_,fun x hx=>Nat.le_trans kp.1 (ho.lo x hx)⟩
   have h1:=ho.lo x hx
   have h2:=ho.up x hx
   have h3:=kp.1
   rw [k3.2 x.block ω2 ω2,k2.2 x.block ω2 ω2]
theorem zup {c0 c1 c2 c3 c4 c5 rb fb m:Nat} {H0:zq} {W Hi:Int} {a:OA} {n e:Nat} {x:Value} {g:Nat→LN×Bool} {K:KT} (hm:Hi=(m:Int)) (hm2:m≤16) (hW:1≤W) (hW2:W≤16) (hn:(n:Int)=W*m)
  (o0:Own H0 c0 [.int .i64 0]) (o1:Own H0 c1 [.int .i64 W,.int .i64 Hi,.slice a n e]) (o2:Own H0 c2 [.int .i64 1]) (o3:Own H0 c3 [x]) (o4:Own H0 c4 [.slice (some ⟨rb,0,none⟩) m 1]) (o5:Own H0 c5 [.slice (some ⟨fb,0,none⟩) m 1])
  (d1:rb≠c1∧rb≠c2∧rb≠c3∧rb≠c4∧rb≠c5) (d2:fb≠c1∧fb≠c2∧fb≠c3∧fb≠c4∧fb≠c5) (hne:rb≠fb) (hrb:rb<H0.length) (hfb:fb<H0.length) (hr:z7n H0 H0 rb fb 0 m g)
  (hch:ChOk z5t x H0 rb fb a W m g) (hT:valT z5t x=true) (hk:∀H,z7n H0 H rb fb m m g→K (.tuple #[]) H):
  z5y Tryz.prog z5t Tryz.f111 [.pointer (some ⟨c0,0,none⟩),.pointer (some ⟨c1,0,none⟩),.pointer (some ⟨c2,0,none⟩),.pointer (some ⟨c3,0,none⟩),.pointer (some ⟨c4,0,none⟩),.pointer (some ⟨c5,0,none⟩)] H0 K:=by
 refine zbp zig ?_
 rw [z1a9]
 refine ⟨0,(o0.rdC 0).trans rfl,?_⟩
 refine z1a5 c1 c2 c3 c4 c5 (fun μ y H=>∃k:Nat,y=(k:Int)∧k≤m∧μ=m-k∧z7n H0 H rb fb k m g) m 0 H0 ⟨0,rfl,Nat.zero_le _,rfl,hr⟩ ?_
 intro μ y H hI
 obtain ⟨k,rfl,hkm,rfl,hR⟩:=hI
 have kp:=hR.1
 have p1:=o1.keep2 d1.1 d2.1 kp
 have p2:=o2.keep2 d1.2.1 d2.2.1 kp
 have p3:=o3.keep2 d1.2.2.1 d2.2.2.1 kp
 have p4:=o4.keep2 d1.2.2.2.1 d2.2.2.2.1 kp
 have p5:=o5.keep2 d1.2.2.2.2 d2.2.2.2.2 kp
 rw [z1a8]
 refine ⟨Hi,(p1.rdC 1).trans rfl,?_⟩
 refine Br.intro (fun hc=>?_) (fun hc=>?_)
 ·have hc':=of_decide_eq_true hc
  have hkm':k<m:=by omega
  refine ⟨W,(p1.rdC 0).trans rfl,W,(p1.rdC 0).trans rfl,a,n,e,(p1.rdC 2).trans rfl,x,(p3.rdC 0).trans rfl,some ⟨fb,0,none⟩,m,1,(p5.rdC 0).trans rfl,some ⟨rb,0,none⟩,m,1,(p4.rdC 0).trans rfl,?_⟩
  have s1:=zl8 (k:=(k:Int)) (W:=W) ω2 ω2 hW hW2
  have s2:=zl8 (k:=(k:Int)+1) (W:=W) ω2 ω2 hW hW2
  have e2:((k:Int)+1)*W=(k:Int)*W+W:=by rw [Int.add_mul,Int.one_mul]
  have s3:((k:Int)+1)*W≤(n:Int):=by
   rw [hn,Int.mul_comm]
   exact Int.mul_le_mul_of_nonneg_left ω2 ω2
  rw [zu (n:=(k:Int)*W) ω2 ω2,zu (n:=(k:Int)+1) ω2 ω2,zu (n:=((k:Int)+1)*W) ω2 ω2]
  refine ⟨s1.1,by omega,s3,?_⟩
  rw [hT]
  show zf1 _ _ _ _ _
  refine hch k hkm' H kp _ fun a' n' e' H' hg ho=>?_
  rw [extV0,extV1]
  have st:=hR.step hne hkm' hg ho hrb hfb (K:=fun H3=>∃x9:Int,rdC H3 c2 0=some (.int .i64 x9)∧z1b (zhc c1 c2 c3 c4 c5 fun μ y H=>∃k:Nat,y=(k:Int)∧k≤m∧μ=m-k∧z7n H0 H rb fb k m g) (m-k) (zx 0 (retK Tryz.prog Tryz.f111 K)) .normal (zbr c1 c2 c3 c4 c5 (IntKind.wrap .i64 ((k:Int)+x9))) H3) (fun H3 hD=>by
   refine ⟨1,((o2.keep2 d1.2.1 d2.2.1 hD.1).rdC 0).trans rfl,?_⟩
   rw [zu (n:=(k:Int)+1) ω2 ω2]
   exact z1a6 (m-(k+1)) ω2 ⟨k+1,by omega,by omega,rfl,hD⟩)
  rw [zen] at st
  obtain ⟨t1,t2,t3⟩:=st
  refine ⟨by omega,by omega,rb,0,rfl,?_⟩
  rw [zen]
  exact ⟨t1,t2,by omega,by omega,fb,0,rfl,t3⟩
 ·have hc':=of_decide_eq_false hc
  rw [zuq]
  have:k=m:=by omega
  subst this
  exact hk H hR

def z14q (env:Env) (x:Value) (H:zq) (a:OA) (W:Int) (m:Nat) (g:Nat→LN×Bool):Prop:=
 ∀(y:Nat),y<m→∀(H1:zq),Grow H H1→∀K:Value→zq→Prop,
  (∀(a':OA) (n' e':Nat) (H':zq),Grow H1 H'→OwnS fF H' H1.length a' n' e' (g y).1→K (.tuple #[.slice a' n' e',.bool (g y).2]) H')→
  zf1 env x [.slice ((a:OA).map fun a=>⟨a.block,a.off+((y:Int)*W).toNat*1,none⟩) ((((y:Int)+1)*W-(y:Int)*W).toNat) 0] H1 K
theorem Grow.keep2 {H0 H H':zq} {rb fb:Nat} (g:Grow H0 H) (h1:H0.length≤rb) (h2:H0.length≤fb) (k:z2t (some ⟨rb,0,none⟩) (some ⟨fb,0,none⟩) H H'):Grow H0 H':=
 ⟨Nat.le_trans g.1 k.1,fun i hi=>(k.2 i (Nat.lt_of_lt_of_le hi g.1) (fun x hx=>by cases hx;show rb≠i;omega) (fun x hx=>by cases hx;show fb≠i;omega)).trans (g.2 i hi)⟩
def z5b (g:Nat→LN×Bool) (k:Nat):LN:=(List.range k).flatMap fun i=>(g i).1
theorem z4k (g:Nat→LN×Bool) (k:Nat):z5b g (k+1)=z5b g k++(g k).1:=by
 unfold z5b
 rw [List.range_succ,List.flatMap_append]
 simp
theorem zjk {g:Nat→LN×Bool} {m:Nat} (h:∀i,i<m→(g i).1.length≤64):∀k,k≤m→(z5b g k).length≤64*k:=by
 intro k
 induction k with
 | zero=>intro _;simp [z5b]
 | succ k ih=>
  intro hk
  have h1:=ih ω2
  have h2:=h k ω2
  rw [z4k,List.length_append]
  omega
def z3g (W Hi:Int) (m:Nat) (g:Nat→LN×Bool):Int×Int×LN×Bool:=bif (List.range m).all (fun i=>(g i).2) then z9s W Hi (z5b g m) else (0,0,[],false)
theorem zx6 {W Hi:Int} {m:Nat} {g:Nat→LN×Bool} {k:Nat} (hk:k<m) (h:(g k).2=false):z3g W Hi m g=(0,0,[],false):=by
 unfold z3g
 have:(List.range m).all (fun i=>(g i).2)=false:=by
  rw [List.all_eq_false]
  exact ⟨k,List.mem_range.2 hk,by simp [h]⟩
 rw [this,cond_false]
theorem zqw {W Hi:Int} {m:Nat} {g:Nat→LN×Bool} (h:∀i,i<m→(g i).2=true):z3g W Hi m g=z9s W Hi (z5b g m):=by
 unfold z3g
 have:(List.range m).all (fun i=>(g i).2)=true:=by
  rw [List.all_eq_true]
  exact fun i hi=>h i (List.mem_range.1 hi)
 rw [this,cond_true]
def ztj (ua va:Int) (ta:OA) (xa ya:Nat) (workers:Int) (change_f:Fn) (change_x change_y:Array Value) (H:zq) (K:Int→Int→OA→Nat→Nat→Bool→zq→Prop):Prop:=
 ∃(l:LN) (g:Nat→LN×Bool),IsL fF H ta xa l∧workers=1∧1≤ua∧ua≤16∧1≤va∧va≤16∧(l.length:Int)=ua*va∧valT z5t (.func change_f change_x change_y)=true∧
  (∀i,i<va.toNat→(g i).1.length≤64∧((g i).2=true→1≤(g i).1.length))∧z14q z5t (.func change_f change_x change_y) H ta ua va.toNat g∧
  (∀(td:OA) (yd xd:Nat),∀H':zq,Grow H H'→OwnS fF H' H.length td yd xd ((z3g ua va va.toNat g).2.2.1)→K ((z3g ua va va.toNat g).1) ((z3g ua va va.toNat g).2.1) td yd xd ((z3g ua va va.toNat g).2.2.2) H')
/-! f1uz: function 69 -/
def z9z:Env:=envOf [(111,zte),(113,S_f7z)]
def zn8:List Value→zq→(Value→zq→Prop)→Prop
 | [.agg ⟨[.int .i64 ua,.int .i64 va,.slice ta xa ya]⟩,.int .i64 workers,.func change_f change_x change_y],H,K=>ztj ua va ta xa ya workers change_f change_x change_y H fun (sd:Int) (pd:Int) (ja:OA) (oa:Nat) (ma:Nat) (r2:Bool) (H':zq)=>K (.tuple #[.agg #[.int .i64 sd,.int .i64 pd,.slice ja oa ma],.bool r2]) H'
 | _,_,_=>False
def zik:FSpec:={F:=zn8,quiet:=false,tame:=false}
theorem z1c3 (ua va:Int) (ta:OA) (xa ya:Nat) (workers:Int) (change_f:Fn) (change_x:Array Value) (change_y:Array Value) (H:zq) (K:KT):rbM Tryz.prog z9z [.agg #[.int .i64 ua,.int .i64 va,.slice ta xa ya],.int .i64 workers,.func change_f change_x change_y] H K=
 (Al [.int .i64 ua,.int .i64 va,.slice ta xa ya] H fun b1 H1=>Al [.int .i64 workers] H1 fun b2 H2=>Al [.func change_f change_x change_y] H2 fun b3 H3=>Al [.int .i64 0,.int .i64 0,.slice none 0 0] H3 fun b4 H4=>∃x1:Int,  rdC H4 b1 1=some (.int .i64 x1)∧∃x2:Int,  rdC H4 b1 1=some (.int .i64 x2)∧(0:Int)≤x2∧x2=x2∧x2<(most:Int)∧Al (z1l (.slice none 0 0) (x2).toNat) H4 fun b5 H5=>(0:Int)≤x1∧x1=x1∧x1<(most:Int)∧Al (z1l (.bool false) (x1).toNat) H5 fun b6 H6=>Al [.slice none 0 0] H6 fun b7 H7=>Al [.slice none 0 0] H7 fun b8 H8=>isOwn H8 b7∧(∃l,rdN H8 b7 0 1=some l)∧Lt (setC H8 b7 0 (.slice (some ⟨b5,0,none⟩) ((x2).toNat) 1)) fun H9=>isOwn H9 b8∧(∃l,rdN H9 b8 0 1=some l)∧Lt (setC H9 b8 0 (.slice (some ⟨b6,0,none⟩) ((x1).toNat) 1)) fun H10=>∃x3:Int,  rdC (H10++[none]) b2 0=some (.int .i64 x3)∧((57:Nat)=57∧Value.int .i64 x3=Value.int .i64 1∧Value.int .i64 0=Value.int .i64 0)∧Al [.int .i64 0] (H10++[none]) fun b9 H11=>isOwn H11 b9∧(∃l,rdN H11 b9 0 1=some l)∧Lt (setC H11 b9 0 (.int .i64 0)) fun H12=>((57:Nat)=57∧(.pointer (some ⟨H10.length,0,none⟩):Value)=.pointer (some ⟨H10.length,0,none⟩)∧Value.int .i64 x3=Value.int .i64 1∧Value.int .i64 (0:Int)=Value.int .i64 0)∧zte.F [.pointer (some ⟨b9,0,none⟩),.pointer (some ⟨b1,0,none⟩),.pointer (some ⟨b2,0,none⟩),.pointer (some ⟨b3,0,none⟩),.pointer (some ⟨b7,0,none⟩),.pointer (some ⟨b8,0,none⟩)] H12 fun (_:Value) (H13:zq)=>∃x4:Int,  rdC H13 b1 0=some (.int .i64 x4)∧∃x5:Int,  rdC H13 b1 1=some (.int .i64 x5)∧Al [.int .i64 0,.int .i64 0,.slice none 0 0] H13 fun b10 H14=>isOwn H14 b10∧(∃l,rdN H14 b10 0 3=some l)∧Lt (setN H14 b10 0 [.int .i64 x4,.int .i64 x5,.slice none 0 0]) fun H15=>∃ji:OA,∃ei:Nat,∃qi:Nat,  rdC H15 b7 0=some (.slice ji ei qi)∧z1j (exL Tryz.prog z9z (cl (cl (cr (cl (cr (cr rb4)))))) 120259088960 192 [(2,4160)]) (ud6 (.pointer (some ⟨b4,0,none⟩)::ud2 (.pointer (some ⟨b8,0,none⟩)::ud2 (.pointer (some ⟨b10,0,none⟩)::ud21 (.slice ji ei qi::.int .i64 (ei:Int)::.int .i64 0::ud20 []))))) H15 (zx 2 (seqQ (exL Tryz.prog z9z (cr (cr (cr rb4))) 192 192 []) (retK Tryz.prog Tryz.f69 K)))):=by kernel_rfl
abbrev zdi (b10 b4 b8:Nat) (ji:OA) (qi ei:Nat) (t36:Int)  :List Value:=(ud6 (.pointer (some ⟨b4,0,none⟩)::ud2 (.pointer (some ⟨b8,0,none⟩)::ud2 (.pointer (some ⟨b10,0,none⟩)::ud21 (.slice ji ei qi::.int .i64 (ei:Int)::.int .i64 t36::ud20 [])))))
theorem z1c2 (b10 b4 b8:Nat) (ji:OA) (qi ei:Nat) (t36:Int)  (H:zq) (R:Post):exL Tryz.prog z9z (cl (cl (cr (cl (cr (cr rb4)))))) 120259088960 192 [(2,4160)] (zdi b10 b4 b8 ji qi ei t36) H R=
 (Br (decide ((t36:Int)<(ei:Int))) ((0:Int)≤t36∧t36<(ei:Int)∧∃b11 f1,(ji:OA)=some ⟨b11,f1,none⟩∧∃nj:OA,∃xi:Nat,∃tk:Nat,  rdC H b11 (f1+(t36:Int).toNat*1)=some (.slice nj xi tk)∧∃tj:OA,∃uj:Nat,∃vk:Nat,  rdC H b8 0=some (.slice tj uj vk)∧(0:Int)≤t36∧t36<(uj:Int)∧∃b12 f2,(tj:OA)=some ⟨b12,f2,none⟩∧∃x9:Bool,  rdC H b12 (f2+(t36:Int).toNat*1)=some (.bool x9)∧Br (!x9) (isOwn H b4∧(∃l,rdN H b4 0 3=some l)∧Lt (setN H b4 0 [.int .i64 0,.int .i64 0,.slice none 0 0]) fun H16=>R .ret (ud6 (.pointer (some ⟨b4,0,none⟩)::.bool false::ud49 [])) H16) (∃fm:OA,∃gm:Nat,∃pp:Nat,  rdC H b10 2=some (.slice fm gm pp)∧∃o1 w1:List Value,ownB H fm gm pp 1=some o1∧rdS H nj (xi*1)=some w1∧((fm:OA)=none→0<(xi:Nat))∧(gm:Nat)+xi<most∧Ap H (z2y H fm++[some ⟨o1++w1,true⟩]) fun b13 H17=>isOwn H17 b10∧(∃l,rdN H17 b10 2 1=some l)∧Lt (setC H17 b10 2 (.slice (some ⟨b13,0,none⟩) (gm+xi) 1)) fun H18=>R .normal (ud6 (.pointer (some ⟨b4,0,none⟩)::ud2 (.pointer (some ⟨b8,0,none⟩)::ud2 (.pointer (some ⟨b10,0,none⟩)::ud21 (.slice ji ei qi::.int .i64 (ei:Int)::.int .i64 (IntKind.wrap .i64 (t36+1))::ud20 []))))) H18)) (R (.exit 2) (ud6 (.pointer (some ⟨b4,0,none⟩)::ud5 (.pointer (some ⟨b10,0,none⟩)::ud44 []))) H)):=by kernel_rfl
def zma (b10 b4 b8:Nat) (ji:OA) (qi ei:Nat) (Inv:Nat→Int→zq→Prop):Nat→List Value→zq→Prop:=fun μ tm H=>∃(t36:Int),tm=(zdi b10 b4 b8 ji qi ei t36)∧Inv μ t36 H
theorem z1bz (b10 b4 b8:Nat) (ji:OA) (qi ei:Nat) {Q:Post} (Inv:Nat→Int→zq→Prop) (ν:Nat) (t36:Int)  (H:zq) (h0:Inv ν t36 H)
  (hs:∀(μ:Nat) (t36:Int)  (H:zq),Inv μ t36 H→exL Tryz.prog z9z (cl (cl (cr (cl (cr (cr rb4)))))) 120259088960 192 [(2,4160)] (zdi b10 b4 b8 ji qi ei t36) H (z1b (zma b10 b4 b8 ji qi ei Inv) μ Q)):z1j (exL Tryz.prog z9z (cl (cl (cr (cl (cr (cr rb4)))))) 120259088960 192 [(2,4160)]) (zdi b10 b4 b8 ji qi ei t36) H Q:=
 ⟨zma b10 b4 b8 ji qi ei Inv,ν,⟨t36,rfl,h0⟩,fun μ tm H h=>by obtain ⟨t36,rfl,hI⟩:=h;exact hs μ t36  H hI⟩
theorem z1c0 {b10 b4 b8:Nat} {ji:OA} {qi ei:Nat} {Q:Post} {Inv:Nat→Int→zq→Prop} {μ:Nat} (μ':Nat) {t36:Int}  {H:zq} (hm:μ'<μ) (hI:Inv μ' t36 H):z1b (zma b10 b4 b8 ji qi ei Inv) μ Q .normal (zdi b10 b4 b8 ji qi ei t36) H:=⟨μ',hm,t36,rfl,hI⟩
theorem zvm (b10 b4:Nat) (H:zq) (K:KT)  {I:Nat→List Value→zq→Prop} {μ:Nat}:z1b I μ (zx 2 (seqQ (exL Tryz.prog z9z (cr (cr (cr rb4))) 192 192 []) (retK Tryz.prog Tryz.f69 K))) (.exit 2) (ud6 (.pointer (some ⟨b4,0,none⟩)::ud5 (.pointer (some ⟨b10,0,none⟩)::ud44 []))) H=
 (∃c1:Int,∃c2:Int,∃kh:OA,∃mh:Nat,∃lh:Nat,  rdN H b10 0 3=some [.int .i64 c1,.int .i64 c2,.slice kh mh lh]∧ztl c1 c2 kh mh lh H fun (r1:Int) (r2:Int) (a1:OA) (r3:Nat) (r4:Nat) (r5:Bool) (H19:zq)=>isOwn H19 b4∧(∃l,rdN H19 b4 0 3=some l)∧Lt (setN H19 b4 0 [.int .i64 r1,.int .i64 r2,.slice a1 r3 r4]) fun H20=>∃c4:Int,∃c5:Int,∃th:OA,∃vh:Nat,∃uh:Nat,  rdN H20 b4 0 3=some [.int .i64 c4,.int .i64 c5,.slice th vh uh]∧K (.tuple #[.agg #[.int .i64 c4,.int .i64 c5,.slice th vh uh],.bool r5]) H20):=by kernel_rfl
theorem zmb (b4:Nat) (t7:Bool) (H:zq) (K:KT)  {I:Nat→List Value→zq→Prop} {μ:Nat}:z1b I μ (zx 2 (seqQ (exL Tryz.prog z9z (cr (cr (cr rb4))) 192 192 []) (retK Tryz.prog Tryz.f69 K))) .ret (ud6 (.pointer (some ⟨b4,0,none⟩)::.bool t7::ud49 [])) H=
 (∃c7:Int,∃c8:Int,∃fi:OA,∃ii:Nat,∃gi:Nat,  rdN H b4 0 3=some [.int .i64 c7,.int .i64 c8,.slice fi ii gi]∧K (.tuple #[.agg #[.int .i64 c7,.int .i64 c8,.slice fi ii gi],.bool t7]) H):=by kernel_rfl
theorem zcw:∀g,FnOk Tryz.prog g (z9z g):=FnOk.envOf (by
 intro x hx
 simp only [List.mem_cons,List.not_mem_nil,or_false] at hx
 rcases hx with rfl | rfl
 ·exact z1a7
 ·exact f7z_ok)
theorem zlh {v:Value} (h:v.cells.toList=[v]) (n:Nat):(z1l v n).length=n:=by
 rw [zli (fun v:Value=>v) v n h];simp
set_option maxHeartbeats 4000000 in
theorem zvl (W Hi:Int) (la:OA) (ln le:Nat) (workers:Int) (cf:Fn) (cx cy:Array Value) (H:zq) (K:KT) (h:ztj W Hi la ln le workers cf cx cy H fun (sd:Int) (pd:Int) (ja:OA) (oa:Nat) (ma:Nat) (r2:Bool) (H':zq)=>K (.tuple #[.agg #[.int .i64 sd,.int .i64 pd,.slice ja oa ma],.bool r2]) H'):rbM Tryz.prog z9z [.agg #[.int .i64 W,.int .i64 Hi,.slice la ln le],.int .i64 workers,.func cf cx cy] H K:=by
 obtain ⟨l,g,il,rfl,hW1,hW2,hH1,hH2,hl,hv,hlen,hch,hk⟩:=h
 obtain ⟨m,rfl⟩:∃m:Nat,Hi=(m:Int):=⟨Hi.toNat,by omega⟩
 simp only [Int.toNat_natCast] at hlen hch hk
 rw [z1c3]
 have hll:=il.len
 refine Al.intro fun b1 H1 e1 l1 g1 o1=>Al.intro fun b2 H2 e2 l2 g2 o2=>Al.intro fun b3 H3 e3 l3 g3 o3=>Al.intro fun b4 H4 e4 l4 g4 o4=>?_
 have p1:=((o1.grow g2).grow g3).grow g4
 refine ⟨(m:Int),(p1.rdC 1).trans rfl,(m:Int),(p1.rdC 1).trans rfl,by omega,rfl,by have:=zmr;omega,?_⟩
 refine Al.intro fun b5 H5 e5 l5 g5 o5=>⟨by omega,rfl,by have:=zmr;omega,?_⟩
 refine Al.intro fun b6 H6 e6 l6 g6 o6=>Al.intro fun b7 H7 e7 l7 g7 o7=>Al.intro fun b8 H8 e8 l8 g8 o8=>?_
 refine Lt.set (o7.grow g8) ω23 fun H9 l9 q7 k9=>Lt.set (o8.keep ω2 k9) ω23 fun H10 l10 q8 k10=>?_
 have g48:Grow H4 H8:=((g5.trans g6).trans g7).trans g8
 have G0:Grow H H8:=(((g1.trans g2).trans g3).trans g4).trans g48
 have up:∀{b:Nat} {cs:List Value},Own H8 b cs→b≠b7→b≠b8→Own H10 b cs:=fun o h1 h2=>(o.keep h1 k9).keep h2 k10
 have u1:=up (p1.grow g48) ω2 ω2
 have u2:=up ((((o2.grow g3).grow g4).grow g48)) ω2 ω2
 have u3:=up (((o3.grow g4).grow g48)) ω2 ω2
 have u4:=up (o4.grow g48) ω2 ω2
 have u5:=up (((o5.grow g6).grow g7).grow g8) ω2 ω2
 have u6:=up ((o6.grow g7).grow g8) ω2 ω2
 have u7:=q7.keep ω2 k10
 have G1:Grow H H10:=(G0.keep ω2 k9).keep ω2 k10
 have gA:=Grow.app H10 (none:Option Blk)
 have lA:(H10++[(none:Option Blk)]).length=H10.length+1:=by simp
 refine ⟨1,((u2.grow gA).rdC 0).trans rfl,⟨rfl,rfl,rfl⟩,Al.intro fun b9 H11 e9 l11 g11 o9=>Lt.set o9 ω23 fun H12 l12 q9 k12=>⟨⟨rfl,rfl,rfl,rfl⟩,?_⟩⟩
 have up2:∀{b:Nat} {cs:List Value},Own H10 b cs→Own H12 b cs:=fun o=>((o.grow gA).grow g11).keep (by have:=o.lt;omega) k12
 have G2:Grow H H12:=(((G1.trans gA).trans g11)).keep (by have:=G1.1;omega) k12
 have z5:((z1l (.slice none 0 0) ((m:Int)).toNat):List Value).length=m:=(zlh rfl _).trans (Int.toNat_natCast m)
 have z6:((z1l (.bool false) ((m:Int)).toNat):List Value).length=m:=(zlh rfl _).trans (Int.toNat_natCast m)
 have q7':=up2 u7
 have q8':=up2 q8
 have em:((m:Int)).toNat=m:=Int.toNat_natCast m
 show z5y _ _ _ _ _ _
 refine zup (rb:=b5) (fb:=b6) (m:=m) (W:=W) (Hi:=(m:Int)) (a:=la) (n:=ln) (e:=le) (x:=.func cf cx cy) (g:=g) rfl ω2 hW1 hW2 (by rw [←hll];exact hl) q9 (up2 u1) (up2 u2) (up2 u3) (by rw [em] at q7';exact q7') (by rw [em] at q8';exact q8')
  ⟨by omega,by omega,by omega,by omega,by omega⟩ ⟨by omega,by omega,by omega,by omega,by omega⟩ ω2 (by have:=(up2 u5).lt;omega) (by have:=(up2 u6).lt;omega) ⟨z2t.refl _ _ _,_,_,up2 u5,up2 u6,z5,z6,fun i hi=>absurd hi (Nat.not_lt_zero _)⟩
  (fun y hy H' kp K2 h2=>hch y hy H' (G2.keep2 ω2 ω2 kp) K2 h2) hv fun H13 hD=>?_
 have kD:=hD.1
 have G3:Grow H H13:=G2.keep2 ω2 ω2 kD
 have d1:=(up2 u1).keep2 (rb:=b5) (fb:=b6) ω2 ω2 kD
 have d4:=(up2 u4).keep2 (rb:=b5) (fb:=b6) ω2 ω2 kD
 have d7:=q7'.keep2 (rb:=b5) (fb:=b6) ω2 ω2 kD
 have d8:=q8'.keep2 (rb:=b5) (fb:=b6) ω2 ω2 kD
 rw [em] at d7 d8
 obtain ⟨rs,fs,or,of,lr,lf,hrow⟩:=hD.2
 have l13:=kD.1
 have d4l:=d4.lt
 refine ⟨W,(d1.rdC 0).trans rfl,(m:Int),(d1.rdC 1).trans rfl,Al.intro fun b10 H14 e14 l14 g14 o14=>Lt.setN o14 (n:=3) ω23 rfl fun H15 l15 q10 k15=>?_⟩
 have up3:∀{b:Nat} {cs:List Value},Own H13 b cs→Own H15 b cs:=fun o=>(o.grow g14).keep (by have:=o.lt;omega) k15
 have G4:Grow H H15:=(G3.trans g14).keep (by have:=G3.1;omega) k15
 refine ⟨some ⟨b5,0,none⟩,m,1,((up3 d7).rdC 0).trans rfl,?_⟩
 refine z1bz b10 b4 b8 (some ⟨b5,0,none⟩) 1 m (fun μ t H'=>∃k:Nat,t=(k:Int)∧k≤m∧μ=m-k∧(∀i,i<k→(g i).2=true)∧z3a b10 H15 H'∧∃(a:OA) (n e:Nat),Own H' b10 [.int .i64 W,.int .i64 (m:Int),.slice a n e]∧OwnS fF H' H15.length a n e (z5b g k)) m 0 H15
  ⟨0,rfl,Nat.zero_le _,rfl,fun i hi=>absurd hi (Nat.not_lt_zero _),⟨Nat.le_refl _,fun _ _ _=>rfl⟩,none,0,0,q10,OwnS.nil _ _ _ _⟩ ?_
 intro μ t H' hI
 obtain ⟨k,rfl,hkm,rfl,hall,kp,a,n,e,ob,os⟩:=hI
 have hg64:∀i,i<m→(g i).1.length≤64:=fun i hi=>(hlen i hi).1
 have hfl:=zjk hg64 k hkm
 have hn:=os.len
 have up4:∀{b:Nat} {cs:List Value},Own H13 b cs→Own H' b cs:=fun o=>(up3 o).keep (by have:=o.lt;omega) kp
 have G5:Grow H H':=G4.keep (by have:=G3.1;omega) kp
 have c4:=up4 d4
 have lkp:=kp.1
 rw [z1c2]
 refine Br.intro (fun hc=>?_) (fun hc=>?_)
 ·have hc':=of_decide_eq_true hc
  have hkm':k<m:=by omega
  obtain ⟨hf,ra,rn,re,hr,hrl,hrb⟩:=hrow k hkm'
  have hrr:=((up4 or).rdC (0+((k:Int)).toNat*1))
  have hff:=((up4 of).rdC (0+((k:Int)).toNat*1))
  rw [Int.toNat_natCast,Nat.mul_one,Nat.zero_add] at hrr hff
  refine ⟨by omega,hc',b5,0,rfl,ra,rn,re,by rw [Int.toNat_natCast,Nat.mul_one,Nat.zero_add];exact hrr.trans hr,some ⟨b6,0,none⟩,m,1,((up4 d8).rdC 0).trans rfl,by omega,hc',b6,0,rfl,(g k).2,by rw [Int.toNat_natCast,Nat.mul_one,Nat.zero_add];exact hff.trans hf,?_⟩
  refine Br.intro (fun hg=>?_) (fun hg=>?_)
  ·have hgk:=z1f hg
   refine Lt.setN c4 (n:=3) ω23 rfl fun H16 l16 q4 k16=>?_
   rw [zmb]
   refine ⟨0,0,none,0,0,(q4.rdN ω23).trans rfl,?_⟩
   rw [zx6 hkm' hgk] at hk
   exact hk none 0 0 H16 (G5.keep ω2 k16) (OwnS.nil _ _ _ _)
  ·have hgk:=z1e hg
   have h1:=(hlen k hkm').2 hgk
   have h2:=hg64 k hkm'
   have hrl':IsL fF H' ra rn (g k).1:=IsL.keepB hrl fun x hx=>by
    have hx2:x.block<H13.length:=by
     obtain ⟨b,o,ea,hcl⟩:=hrl.cell (by have:=hrl.len;omega)
     rw [hx] at ea;cases ea
     have:=hcl 0 _ (List.getElem?_eq_getElem ω2)
     unfold rdC rdB at this
     by_cases hb:b<H13.length
     ·exact hb
     ·rw [List.getElem?_eq_none ω2] at this;cases this
    have e15:H15[x.block]? =H13[x.block]? :=(k15.2 _ ω2 ω2).trans (g14.2 _ hx2)
    rw [kp.2 _ ω2 ω2,e15]
   have hrn:=hrl'.len
   refine ⟨a,n,e,(ob.rdC 2).trans rfl,_,_,os.ownB,z2q hrl',(fun _=>by omega),ω25,?_⟩
   refine Ap.appS os rfl rfl fun b13 H17 e17 l17 o17 k17=>?_
   have lo:=os.lo
   have hup:∀x,a=some x→x.block≠b10:=fun x hx=>by have:=lo x hx;omega
   have ob2:=ob.keepA hup k17
   refine Lt.set ob2 (Nat.le_of_ble_eq_true rfl) fun H18 l18 q18 k18=>?_
   refine z1c0 (m-(k+1)) ω2 ⟨k+1,by rw [zu ω2 ω2];omega,by omega,rfl,fun i hi=>?_,?_,some ⟨b13,0,none⟩,n+rn,1,q18,?_⟩
   ·rcases Nat.lt_succ_iff_lt_or_eq.1 hi with hi | rfl
    ·exact hall i hi
    ·exact hgk
   ·refine ⟨by omega,fun i hi hne=>?_⟩
    rw [k18.2 i ω2 hne,k17.2 i ω2 (fun x hx=>by have:=lo x hx;omega),kp.2 i hi hne]
   ·rw [z4k]
    have:=(o17.keep (b':=b10) ω2 k18)
    exact this.ownS (by rw [List.length_append];omega) ω2
 ·have hc':=of_decide_eq_false hc
  obtain rfl:k=m:=by omega
  rw [zvm]
  have lo:=os.lo
  have hup:=os.up
  refine ⟨W,(k:Int),a,n,e,(ob.rdN (Nat.le_of_ble_eq_true rfl)).trans rfl,ztm ⟨z5b g k,os.isL,by omega,fun H19 g19=>?_⟩⟩
  rw [zqw hall] at hk
  refine Br.intro (fun hb=>?_) (fun hb=>?_)
  ·refine Lt.setN (c4.grow g19) (n:=3) ω23 rfl fun H20 l20 q20 k20=>⟨W,(k:Int),a,n,e,(q20.rdN (Nat.le_of_ble_eq_true rfl)).trans rfl,?_⟩
   have ev:z9s W (k:Int) (z5b g k)=(W,(k:Int),z5b g k,true):=by
    rw [z4g] at hb ⊢
    cases hq:!(z1p W (k:Int) (z5b g k)) with
    | true=>rw [hq] at hb;cases hb
    | false=>rfl
   rw [ev] at hk
   exact hk a n e H20 ((G5.trans g19).keep ω2 k20) (((os.grow g19).keepA (fun x y hx hy=>by cases hx;have:=lo y hy;show b4≠_;omega) (OwnS.keep1 k20)).weak (by have:=G4.1;omega))
  ·refine Lt.setN (c4.grow g19) (n:=3) ω23 rfl fun H20 l20 q20 k20=>⟨0,0,none,0,0,(q20.rdN (Nat.le_of_ble_eq_true rfl)).trans rfl,?_⟩
   have ev:z9s W (k:Int) (z5b g k)=(0,0,[],false):=by
    rw [z4g] at hb ⊢
    cases hq:!(z1p W (k:Int) (z5b g k)) with
    | true=>rfl
    | false=>rw [hq] at hb;cases hb
   rw [ev] at hk
   exact hk none 0 0 H20 ((G5.trans g19).keep ω2 k20) (OwnS.nil _ _ _ _)
theorem z1c1:FnOkX Tryz.prog (MainCls Tryz.prog) 69 zik:=by
 refine rbOk mix_ok (fun g=>(zcw g).le fun _ _ _=>trivial) (zcw _) ω9 ω9 ω9 ?_ (fun hq=>by cases hq) ?_ (fun hq=>by cases hq) ?_
 ·intro args H K K' h hk
  simp only [zik] at *
  unfold zn8 at *
  split at hk
  ·obtain ⟨l,g,il,h1,hW1,hW2,hH1,hH2,hl,hv,hlen,hch,k⟩:=hk
   exact ⟨l,g,il,h1,hW1,hW2,hH1,hH2,hl,hv,hlen,hch,fun a n e H' gg ow=>h _ _ (k a n e H' gg ow)⟩
  ·exact hk.elim
 ·intro args H K hk
  simp only [zik] at *
  unfold zn8 at *
  split at hk
  ·obtain ⟨l,g,il,h1,hW1,hW2,hH1,hH2,hl,hv,hlen,hch,k⟩:=hk
   exact z4m fun a n e H1 g o=>⟨_,_,k a n e H1 g o⟩
  ·exact hk.elim
 ·intro args H K hk
  refine z1d5 zcw ?_
  simp only [zik] at *
  unfold zn8 at *
  split at hk
  ·exact zvl _ _ _ _ _ _ _ _ _ H K hk
  ·exact hk.elim

def z3n (l:LN) (W:Int) (y:Nat):LN:=(l.drop ((y:Int)*W).toNat).take ((((y:Int)+1)*W-(y:Int)*W).toNat)
theorem z8z {l:LN} {W Hi:Int} {y:Nat} (h1:1≤W) (h2:W≤16) (h3:Hi≤16) (hl:(l.length:Int)=W*Hi) (hy:(y:Int)<Hi):0≤(y:Int)*W∧(y:Int)*W≤((y:Int)+1)*W∧((y:Int)+1)*W≤(l.length:Int)∧((z3n l W y).length:Int)=W:=by
 have e2:((y:Int)+1)*W=(y:Int)*W+W:=by rw [Int.add_mul,Int.one_mul]
 have s1:0≤(y:Int)*W:=Int.mul_nonneg ω2 ω2
 have s3:((y:Int)+1)*W≤(l.length:Int):=by
  rw [hl,Int.mul_comm]
  exact Int.mul_le_mul_of_nonneg_left ω2 ω2
 refine ⟨s1,by omega,s3,?_⟩
 unfold z3n
 rw [List.length_take,List.length_drop]
 omega
def z2n (ia:LN) (gb:Nat) (ua va:Int) (ga:LN):Int×Int×LN×Bool:=
 bif z5k ia gb then (bif z1p ua va ga then z3g ua va va.toNat (fun y=>zaf (z3n ga ua y) ia gb (Int.tdiv (ua+1) 2)) else (0,0,[],false)) else (0,0,[],false)
def znf (sb:OA) (fc xb gb:Nat) (ua va:Int) (ta:OA) (xa ya:Nat) (H:zq) (K:Int→Int→OA→Nat→Nat→Bool→zq→Prop):Prop:=
 ∃(ia ga:LN),IsL fF H sb fc ia∧IsL fF H ta xa ga∧ia.length<1073741824∧ga.length<1073741824∧
  (∀(td:OA) (yd xd:Nat),∀H':zq,Grow H H'→OwnS fF H' H.length td yd xd ((z2n ia gb ua va ga).2.2.1)→K ((z2n ia gb ua va ga).1) ((z2n ia gb ua va ga).2.1) td yd xd ((z2n ia gb ua va ga).2.2.2) H')
theorem zzb {sb:OA} {fc xb gb:Nat} {ua va:Int} {ta:OA} {xa ya:Nat} {H:zq} {K:Int→Int→OA→Nat→Nat→Bool→zq→Prop} (h:∃(ia ga:LN),IsL fF H sb fc ia∧IsL fF H ta xa ga∧ia.length<1073741824∧ga.length<1073741824∧
  (∀(td:OA) (yd xd:Nat),∀H':zq,Grow H H'→OwnS fF H' H.length td yd xd ((z2n ia gb ua va ga).2.2.1)→K ((z2n ia gb ua va ga).1) ((z2n ia gb ua va ga).2.1) td yd xd ((z2n ia gb ua va ga).2.2.2) H')):znf sb fc xb gb ua va ta xa ya H K:=h
/-! f17z: function 28 -/
def zs2:Env:=envOf [(49,zz6),(50,zll),(69,zik)]
def z14z (args:List Value) (H:zq):(Value→zq→Prop)→Prop:=match args with
 | [.agg ⟨[.slice sb fc xb,.float .f32 gb]⟩,.agg ⟨[.int .i64 ua,.int .i64 va,.slice ta xa ya]⟩]=>fun K=>znf sb fc xb gb ua va ta xa ya H fun (sd:Int) (pd:Int) (ja:OA) (oa:Nat) (ma:Nat) (r2:Bool) (H':zq)=>K (.tuple #[.agg #[.int .i64 sd,.int .i64 pd,.slice ja oa ma],.bool r2]) H'
 | _=>fun _=>False
def z16h:FSpec:={F:=z14z,quiet:=false,tame:=false}
theorem f17z_vc (sb:OA) (fc xb gb:Nat) (ua va:Int) (ta:OA) (xa ya:Nat) (H:zq) (K:KT):z1a Tryz.prog zs2 Tryz.f28 [.agg #[.slice sb fc xb,.float .f32 gb],.agg #[.int .i64 ua,.int .i64 va,.slice ta xa ya]] H K=
 (Al [.slice sb fc xb,.float .f32 gb] H fun b1 H1=>Al [.int .i64 ua,.int .i64 va,.slice ta xa ya] H1 fun b2 H2=>Al [.int .i64 0,.int .i64 0,.slice none 0 0] H2 fun b3 H3=>∃zi:OA,∃bj:Nat,∃aj:Nat,∃c2:Nat,  rdN H3 b1 0 2=some [.slice zi bj aj,.float .f32 c2]∧zpg zi bj aj c2 H3 fun (r1:Bool) (H4:zq)=>Br (!r1) (isOwn H4 b3∧(∃l,rdN H4 b3 0 3=some l)∧Lt (setN H4 b3 0 [.int .i64 0,.int .i64 0,.slice none 0 0]) fun H5=>∃c3:Int,∃c4:Int,∃gk:OA,∃jk:Nat,∃ik:Nat,  rdN H5 b3 0 3=some [.int .i64 c3,.int .i64 c4,.slice gk jk ik]∧K (.tuple #[.agg #[.int .i64 c3,.int .i64 c4,.slice gk jk ik],.bool false]) H5) (∃c6:Int,∃c7:Int,∃lk:OA,∃pk:Nat,∃nk:Nat,  rdN H4 b2 0 3=some [.int .i64 c6,.int .i64 c7,.slice lk pk nk]∧zh7 c6 c7 lk pk nk H4 fun (r2:Bool) (H6:zq)=>Br (!r2) (isOwn H6 b3∧(∃l,rdN H6 b3 0 3=some l)∧Lt (setN H6 b3 0 [.int .i64 0,.int .i64 0,.slice none 0 0]) fun H7=>∃c9:Int,∃c10:Int,∃zj:OA,∃bk:Nat,∃ak:Nat,  rdN H7 b3 0 3=some [.int .i64 c9,.int .i64 c10,.slice zj bk ak]∧K (.tuple #[.agg #[.int .i64 c9,.int .i64 c10,.slice zj bk ak],.bool false]) H7) (∃x1:Int,  rdC H6 b2 0=some (.int .i64 x1)∧2≠(0:Int)∧Al [.int .i64 0] H6 fun b4 H8=>isOwn H8 b4∧(∃l,rdN H8 b4 0 1=some l)∧Lt (setC H8 b4 0 (.int .i64 (IntKind.wrap .i64 (Int.tdiv (IntKind.wrap .i64 (x1+1)) 2)))) fun H9=>∃c12:Int,∃c13:Int,∃xk:OA,∃dl:Nat,∃yk:Nat,  rdN H9 b2 0 3=some [.int .i64 c12,.int .i64 c13,.slice xk dl yk]∧ztj c12 c13 xk dl yk 1 (.func 72) #[] #[.pointer (some ⟨b1,0,none⟩),.pointer (some ⟨b4,0,none⟩)] H9 fun (r3:Int) (r4:Int) (a1:OA) (r5:Nat) (r6:Nat) (r7:Bool) (H10:zq)=>isOwn H10 b3∧(∃l,rdN H10 b3 0 3=some l)∧Lt (setN H10 b3 0 [.int .i64 r3,.int .i64 r4,.slice a1 r5 r6]) fun H11=>∃c15:Int,∃c16:Int,∃fl:OA,∃jl:Nat,∃gl:Nat,  rdN H11 b3 0 3=some [.int .i64 c15,.int .i64 c16,.slice fl jl gl]∧K (.tuple #[.agg #[.int .i64 c15,.int .i64 c16,.slice fl jl gl],.bool r7]) H11))):=by kernel_rfl
theorem zs3:∀g,FnOkX Tryz.prog (MainCls Tryz.prog) g (zs2 g):=FnOkX.envOf (by
 intro x hx
 simp only [List.mem_cons,List.not_mem_nil,or_false] at hx
 rcases hx with rfl | rfl | rfl
 ·exact zvu.le fun _ _ _=>trivial
 ·exact f6z_ok.le fun _ _ _=>trivial
 ·exact z1c1)
theorem z7m {W:Int} (h1:1≤W):Int.tdiv (W+1) 2=(W+1) / 2:=Int.tdiv_eq_ediv_of_nonneg ω2
theorem zlk {H:zq} {c d:Nat} {wa:OA} {wn we sc:Nat} {la:OA} {ln:Nat} {ws l:LN} {W Hi:Int} {m:Nat} (hm:Hi=(m:Int)) (o:Own H c [.slice wa wn we,.float .f32 sc]) (o2:Own H d [.int .i64 (Int.tdiv (W+1) 2)]) (iw:IsL fF H wa wn ws) (il:IsL fF H la ln l) (bw:ws.length<1073741824)
  (h1:1≤W) (h2:W≤16) (h3:Hi≤16) (hl:(l.length:Int)=W*Hi):z14q z5t (.func (.func 72) #[] #[.pointer (some ⟨c,0,none⟩),.pointer (some ⟨d,0,none⟩)]) H la W m (fun y=>zaf (z3n l W y) ws sc (Int.tdiv (W+1) 2)):=by
 intro y hy H1 gg K hK
 obtain ⟨f1,f2,f3,f4⟩:=z8z h1 h2 h3 hl (show (y:Int)<Hi by omega)
 refine (?_:T_fjz ((la:OA).map fun a=>⟨a.block,a.off+((y:Int)*W).toNat*1,none⟩) ((((y:Int)+1)*W-(y:Int)*W).toNat) 0 c d H1 fun a n e r H'=>K (.tuple #[.slice a n e,.bool r]) H')
 have hn:=il.len
 have hh:=z7m h1
 refine ⟨wa,wn,we,sc,Int.tdiv (W+1) 2,z3n l W y,ws,((o.grow gg).rdN (Nat.le_of_ble_eq_true rfl)).trans rfl,((o2.grow gg).rdN (Nat.le_of_ble_eq_true rfl)).trans rfl,z9d (il.grow gg) f1 f2 ω2,iw.grow gg,by omega,bw,by omega,by omega,by omega,fun a n e H' g2 o2=>hK a n e H' g2 o2⟩
theorem zc1 {ws l:LN} {sc:Nat} {W Hi:Int} {i:Nat} (h1:1≤W) (h2:W≤16) (h3:Hi≤16) (hl:(l.length:Int)=W*Hi) (hi:(i:Int)<Hi):(zaf (z3n l W i) ws sc (Int.tdiv (W+1) 2)).1.length≤64∧((zaf (z3n l W i) ws sc (Int.tdiv (W+1) 2)).2=true→1≤(zaf (z3n l W i) ws sc (Int.tdiv (W+1) 2)).1.length):=by
 obtain ⟨f1,f2,f3,f4⟩:=z8z h1 h2 h3 hl hi
 rw [zhw]
 generalize hA:((z3n l W i).drop (0:Int).toNat).take ((Int.tdiv (W+1) 2:Int)-0).toNat=A
 generalize hB:((z3n l W i).drop (Int.tdiv (W+1) 2:Int).toNat).take ((((z3n l W i).length:Int):Int)-Int.tdiv (W+1) 2).toNat=B
 have lA:A.length≤16:=by rw [←hA,List.length_take,List.length_drop];omega
 have lB:B.length≤16:=by rw [←hB,List.length_take,List.length_drop];omega
 have a1:=zdq ws sc A B
 have a2:=zft ws sc A B
 show (z3e ws sc A B).1.length≤64∧((z3e ws sc A B).2=true→1≤(z3e ws sc A B).1.length)
 refine ⟨by omega,fun h=>?_⟩
 obtain ⟨b1,b2⟩:=a2 h
 omega
theorem zqx {W Hi:Int} {m:Nat} {g:Nat→LN×Bool} (hm:m≤16) (h:∀i,i<m→(g i).1.length≤64):(z3g W Hi m g).2.2.1.length≤1024:=by
 unfold z3g
 have:=zjk h m (Nat.le_refl _)
 cases (List.range m).all (fun i=>(g i).2) with
 | false=>simp
 | true=>
  rw [cond_true,z4g]
  cases !(z1p W Hi (z5b g m)) with
  | true=>simp
  | false=>simp only [cond_false];omega
theorem f17z_len (ws:LN) (sc:Nat) (W Hi:Int) (l:LN):(z2n ws sc W Hi l).2.2.1.length≤1024:=by
 unfold z2n
 cases z5k ws sc with
 | false=>simp
 | true=>
  rw [cond_true]
  cases h:z1p W Hi l with
  | false=>simp
  | true=>
   rw [cond_true]
   obtain ⟨h1,h2,h3,h4,h5,_⟩:=f6z_t h
   exact zqx ω2 fun i hi=>(zc1 h1 h2 h4 h5 ω2).1
theorem f17z_main (sb:OA) (fc xb gb:Nat) (ua va:Int) (ta:OA) (xa ya:Nat) (H:zq) (K:KT) (h:znf sb fc xb gb ua va ta xa ya H fun (sd:Int) (pd:Int) (ja:OA) (oa:Nat) (ma:Nat) (r2:Bool) (H':zq)=>K (.tuple #[.agg #[.int .i64 sd,.int .i64 pd,.slice ja oa ma],.bool r2]) H'):z1a Tryz.prog zs2 Tryz.f28 [.agg #[.slice sb fc xb,.float .f32 gb],.agg #[.int .i64 ua,.int .i64 va,.slice ta xa ya]] H K:=by
 rw [f17z_vc]
 obtain ⟨ws,l,iw,il,bw,bl,hk⟩:=h
 obtain rfl:=iw.eqn
 obtain rfl:=il.eqn
 have e:z2n ws gb ua va l=(bif z5k ws gb then (bif z1p ua va l then z3g ua va va.toNat (fun y=>zaf (z3n l ua y) ws gb (Int.tdiv (ua+1) 2)) else (0,0,[],false)) else (0,0,[],false)):=rfl
 rw [e] at hk
 refine Al.intro fun b1 H1 e1 l1 g1 o1=>Al.intro fun b2 H2 e2 l2 g2 o2=>Al.intro fun b3 H3 e3 l3 g3 o3=>?_
 have G3:Grow H H3:=(g1.trans g2).trans g3
 have p1:=(o1.grow g2).grow g3
 have p2:=o2.grow g3
 refine ⟨sb,ws.length,xb,gb,(p1.rdN (Nat.le_of_ble_eq_true rfl)).trans rfl,zlm ⟨ws,iw.grow G3,bw,fun H4 g4=>?_⟩⟩
 refine Br.intro (fun hv=>?_) (fun hv=>?_)
 ·refine Lt.setN (o3.grow g4) (n:=3) ω23 rfl fun H5 l5 q5 k5=>⟨0,0,none,0,0,(q5.rdN (Nat.le_of_ble_eq_true rfl)).trans rfl,?_⟩
  rw [z1f hv,cond_false] at hk
  exact hk none 0 0 H5 ((G3.trans g4).keep ω2 k5) (OwnS.nil _ _ _ _)
 rw [z1e hv,cond_true] at hk
 refine ⟨ua,va,ta,l.length,ya,((p2.grow g4).rdN (Nat.le_of_ble_eq_true rfl)).trans rfl,zbo ⟨l,il.grow (G3.trans g4),bl,fun H6 g6=>?_⟩⟩
 refine Br.intro (fun hp=>?_) (fun hp=>?_)
 ·refine Lt.setN ((o3.grow g4).grow g6) (n:=3) ω23 rfl fun H7 l7 q7 k7=>⟨0,0,none,0,0,(q7.rdN (Nat.le_of_ble_eq_true rfl)).trans rfl,?_⟩
  rw [z1f hp,cond_false] at hk
  exact hk none 0 0 H7 (((G3.trans g4).trans g6).keep ω2 k7) (OwnS.nil _ _ _ _)
 have hpv:=z1e hp
 rw [hpv,cond_true] at hk
 obtain ⟨w1,w2,w3,w4,w5,w6,w7⟩:=f6z_t hpv
 have G6:Grow H H6:=(G3.trans g4).trans g6
 have hh:=z7m w1
 obtain ⟨m,rfl⟩:∃m:Nat,va=(m:Int):=⟨va.toNat,by omega⟩
 refine ⟨ua,(((p2.grow g4).grow g6).rdC 0).trans rfl,by decide,?_⟩
 refine Al.intro fun b4 H8 e8 l8 g8 o8=>?_
 rw [show IntKind.wrap .i64 (ua+1)=ua+1 from zu ω2 ω2,show IntKind.wrap .i64 (Int.tdiv (ua+1) 2)=Int.tdiv (ua+1) 2 from zu ω2 ω2]
 refine Lt.set o8 ω23 fun H9 l9 o9 k9=>?_
 have lt8:H6.length≤b4:=by omega
 have G9:Grow H6 H9:=g8.keep lt8 k9
 have G69:Grow H H9:=G6.trans G9
 refine ⟨ua,(m:Int),ta,l.length,ya,((((p2.grow g4).grow g6).grow G9).rdN (Nat.le_of_ble_eq_true rfl)).trans rfl,?_⟩
 refine ⟨l,fun y=>zaf (z3n l ua y) ws gb (Int.tdiv (ua+1) 2),il.grow G69,rfl,w1,w2,w3,w4,w5,rfl,fun i hi=>zc1 w1 w2 w4 w5 ω2,zlk (Hi:=(m:Int)) ω2 (((p1.grow g4).grow g6).grow G9) o9 (iw.grow G69) (il.grow G69) bw w1 w2 w4 w5,fun a n e' H10 g10 o10=>?_⟩
 have q3:=(((o3.grow g4).grow g6).grow G9).grow g10
 refine Lt.setN q3 (n:=3) (Nat.le_of_ble_eq_true rfl) rfl fun H11 l11 q11 k11=>⟨_,_,a,n,e',(q11.rdN (Nat.le_of_ble_eq_true rfl)).trans rfl,?_⟩
 have lo:=o10.lo
 have hle:=G69.1
 have hle2:=G9.1
 refine hk a n e' H11 ((G69.trans g10).keep ω2 k11) ((o10.keepA (fun x y hx hy=>by cases hx;have:=lo y hy;have:=(o3.grow g4).lt;have:=g6.1;show b3≠_;omega) (OwnS.keep1 k11)).weak hle)
theorem f17z_ok:FnOkX Tryz.prog (MainCls Tryz.prog) 28 z16h:=FnOkX.bodyF (hLt:=fun _=>z3y) mix_ok zs3 Tryz.func28 rfl ω9 ω9 fun args H=>by
 unfold z14z
 split
 ·refine ⟨?_,?_,?_,?_,fun K hk=>f17z_main _ _ _ _ _ _ _ _ _ H K hk⟩
  ·intro K K' h hk;obtain ⟨ia,ga,i_s,i_p,b_s,b_p,k⟩:=hk;exact ⟨ia,ga,i_s,i_p,b_s,b_p,(fun td yd xd H' gg ow0=>h _ _ (k td yd xd H' gg ow0))⟩
  ·nofun
  ·intro K hk;obtain ⟨ia,ga,i_s,i_p,b_s,b_p,k⟩:=hk;exact z4m fun a n e H1 g o=>⟨_,_,k a n e H1 g o⟩
  ·nofun
 ·exact Nice.no

def zqr (ua va:Int) (ga dc:LN) (fe:Nat):Int×Int×LN×Bool:=((z2n dc fe ua va ga).1,(z2n dc fe ua va ga).2.1,(z2n dc fe ua va ga).2.2.1,(z2n dc fe ua va ga).2.2.2)
def z13j:=@zqr.eq_1
def T_f3z (ua va:Int) (ta:OA) (xa ya cap0:Nat) (H:zq) (K:Int→Int→OA→Nat→Nat→Bool→zq→Prop):Prop:=∃(rf:OA),∃(kg jg fe:Nat),∃(ga dc:LN),rdN H cap0 0 2=some [.slice rf kg jg,.float .f32 fe]∧IsL fF H ta xa ga∧IsL fF H rf kg dc∧ga.length<1073741824∧dc.length<1073741824∧((∀(ja:OA) (oa ma:Nat),∀H':zq,Grow H H'→OwnS fF H' H.length ja oa ma ((zqr ua va ga dc fe).2.2.1)→K ((zqr ua va ga dc fe).1) ((zqr ua va ga dc fe).2.1) ja oa ma ((zqr ua va ga dc fe).2.2.2) H'))
/-! f3z: function 52 -/
def E_f3z:Env:=envOf [(28,z16h)]
def F_f3z (args:List Value) (H:zq):(Value→zq→Prop)→Prop:=match args with
 | [.agg ⟨[.int .i64 ua,.int .i64 va,.slice ta xa ya]⟩,.pointer (some ⟨cap0,0,none⟩)]=>fun K=>T_f3z ua va ta xa ya cap0 H fun (sd:Int) (pd:Int) (ja:OA) (oa:Nat) (ma:Nat) (r2:Bool) (H':zq)=>K (.tuple #[.agg #[.int .i64 sd,.int .i64 pd,.slice ja oa ma],.bool r2]) H'
 | _=>fun _=>False
def S_f3z:FSpec:={F:=F_f3z,quiet:=false,tame:=true}
theorem f3z_vc (ua va:Int) (ta:OA) (xa ya cap0:Nat) (H:zq) (K:KT):z1a Tryz.prog E_f3z Tryz.f52 [.agg #[.int .i64 ua,.int .i64 va,.slice ta xa ya],.pointer (some ⟨cap0,0,none⟩)] H K=
 (Al [.int .i64 ua,.int .i64 va,.slice ta xa ya] H fun b1 H1=>Al [.int .i64 0,.int .i64 0,.slice none 0 0] H1 fun b2 H2=>∃zi:OA,∃bj:Nat,∃aj:Nat,∃c2:Nat,  rdN H2 cap0 0 2=some [.slice zi bj aj,.float .f32 c2]∧∃c3:Int,∃c4:Int,∃gk:OA,∃jk:Nat,∃ik:Nat,  rdN H2 b1 0 3=some [.int .i64 c3,.int .i64 c4,.slice gk jk ik]∧znf zi bj aj c2 c3 c4 gk jk ik H2 fun (r1:Int) (r2:Int) (a1:OA) (r3:Nat) (r4:Nat) (r5:Bool) (H3:zq)=>isOwn H3 b2∧(∃l,rdN H3 b2 0 3=some l)∧Lt (setN H3 b2 0 [.int .i64 r1,.int .i64 r2,.slice a1 r3 r4]) fun H4=>∃c6:Int,∃c7:Int,∃lk:OA,∃pk:Nat,∃nk:Nat,  rdN H4 b2 0 3=some [.int .i64 c6,.int .i64 c7,.slice lk pk nk]∧K (.tuple #[.agg #[.int .i64 c6,.int .i64 c7,.slice lk pk nk],.bool r5]) H4):=by kernel_rfl
theorem zy8:∀g,FnOkX Tryz.prog (MainCls Tryz.prog) g (E_f3z g):=FnOkX.envOf (by
 intro x hx
 simp only [List.mem_cons,List.not_mem_nil,or_false] at hx
 subst hx;exact f17z_ok)
theorem f3z_main (ua va:Int) (ta:OA) (xa ya cap0:Nat) (H:zq) (K:KT) (h:T_f3z ua va ta xa ya cap0 H fun (sd:Int) (pd:Int) (ja:OA) (oa:Nat) (ma:Nat) (r2:Bool) (H':zq)=>K (.tuple #[.agg #[.int .i64 sd,.int .i64 pd,.slice ja oa ma],.bool r2]) H'):z1a Tryz.prog E_f3z Tryz.f52 [.agg #[.int .i64 ua,.int .i64 va,.slice ta xa ya],.pointer (some ⟨cap0,0,none⟩)] H K:=by
 rw [f3z_vc]
 obtain ⟨rf,kg,jg,fe,ga,dc,i_cap0,tf,qg,bd_49,bd_50,hk⟩:=h
 obtain rfl:=tf.eqn
 obtain rfl:=qg.eqn
 have e:(zqr ua va ga dc fe)=_:=rfl
 have e:=e.trans (z13j ua va ga dc fe)
 have g0:=Grow.refl H
 refine Al.intro (fun b_1 H_1 hb_2 hl_3 g_4 o_5=>?_)
 have l_7:=g_4.1
 have g_8:=g0.trans g_4
 have l_9:=g_8.1
 have w48:=o_5.lt
 refine Al.intro (fun b_10 H_2 hb_11 hl_12 g_13 o_14=>?_)
 have l_16:=g_13.1
 have g_17:=g_8.trans g_13
 have l_18:=g_17.1
 have o_19:=o_5.grow g_13
 have w20:=o_19.lt
 have w47:=o_14.lt
 refine ⟨rf,dc.length,jg,fe,zt g_17 i_cap0,?_⟩
 refine ⟨ua,va,ta,ga.length,ya,(o_19.rdN (Nat.le_of_ble_eq_true rfl)).trans rfl,?_⟩
 refine zzb ⟨_,_,(qg.grow g_17),(tf.grow g_17),ω0,ω0,fun a21 n22 e23 H_3 g26 r_24=>?_⟩
 have z25:=f17z_len dc fe ua va ga
 have l27:=g26.1
 have g28:=g_17.trans g26
 have l29:=g28.1
 have o30:=o_19.grow g26
 have w31:=o30.lt
 have o32:=o_14.grow g26
 have w33:=o32.lt
 obtain rfl:=r_24.isL.eqn
 have u34:=r_24.up
 have u35:=r_24.lo
 refine Lt.setN (n:=3) o32 (Nat.le_of_ble_eq_true rfl) rfl (fun H_4 hl_37 o39 k38=>?_)
 have o39:Own H_4 b_10 [.int .i64 ((z2n dc fe ua va ga).1),.int .i64 ((z2n dc fe ua va ga).2.1),.slice a21 (((z2n dc fe ua va ga).2.2.1).length) e23]:=o39
 have l40:=k38.1
 have g41:=g28.keep (b:=b_10) ω2 k38
 have l42:=g41.1
 have o43:=o30.keep ω2 k38
 have w44:=o43.lt
 have r_45:=r_24.keep u34 ω2 k38
 have w46:=o39.lt
 refine ⟨(z2n dc fe ua va ga).1,(z2n dc fe ua va ga).2.1,a21,((z2n dc fe ua va ga).2.2.1).length,e23,(o39.rdN (Nat.le_of_ble_eq_true rfl)).trans rfl,?_⟩
 rw [e] at hk
 exact hk _ _ _ H_4 g41 (r_45.weak ω2)
theorem f3z_ok:FnOkX Tryz.prog (MainCls Tryz.prog) 52 S_f3z:=FnOkX.bodyF (hLt:=fun _=>z3y) mix_ok zy8 Tryz.func52 rfl ω9 ω9 fun args H=>by
 unfold F_f3z
 split
 ·refine ⟨?_,?_,?_,?_,fun K hk=>f3z_main _ _ _ _ _ _ H K hk⟩
  ·intro K K' h hk;obtain ⟨rf,kg,jg,fe,ga,dc,i_cap0,tf,qg,bd_49,bd_50,k⟩:=hk;exact ⟨rf,kg,jg,fe,ga,dc,i_cap0,tf,qg,bd_49,bd_50,(fun ja oa ma H' gg ow0=>h _ _ (k ja oa ma H' gg ow0))⟩
  ·nofun
  ·intro K hk;obtain ⟨rf,kg,jg,fe,ga,dc,i_cap0,tf,qg,bd_49,bd_50,k⟩:=hk;exact z4m fun a n e H1 g o=>⟨_,_,k a n e H1 g o⟩
  ·intro _ K hk;obtain ⟨rf,kg,jg,fe,ga,dc,i_cap0,tf,qg,bd_49,bd_50,k⟩:=hk;exact ⟨rf,kg,jg,fe,ga,dc,i_cap0,tf,qg,bd_49,bd_50,(fun ja oa ma H' gg ow0=>⟨gg,k ja oa ma H' gg ow0⟩)⟩
 ·exact Nice.no

def zch (env:Env) (x:Value) (H:zq) (ch:Int→Int→LN→PicT):Prop:=
 ∀(W Hi:Int) (la:OA) (ln le:Nat) (l:LN) (H1:zq),Grow H H1→IsL fF H1 la ln l→l.length<1073741824→∀K:Value→zq→Prop,
  (∀(a:OA) (n e:Nat) (H2:zq),Grow H1 H2→OwnS fF H2 H1.length a n e (ch W Hi l).2.2.1→K (.tuple #[.agg #[.int .i64 (ch W Hi l).1,.int .i64 (ch W Hi l).2.1,.slice a n e],.bool (ch W Hi l).2.2.2]) H2)→
  zf1 env x [.agg #[.int .i64 W,.int .i64 Hi,.slice la ln le]] H1 K
theorem zch.grow {env:Env} {x:Value} {H H':zq} {ch:Int→Int→LN→PicT} (h:zch env x H ch) (g:Grow H H'):zch env x H' ch:=
 fun W Hi la ln le l H1 g1=>h W Hi la ln le l H1 (g.trans g1)
theorem ext0 {u v:Value} {K:Value→Prop}:extV (.tuple #[u,v]) 0 K=K u:=rfl
theorem ext1 {u v:Value} {K:Value→Prop}:extV (.tuple #[u,v]) 1 K=K v:=rfl
theorem zy0 {r:Bool} {F:Bool→Prop}:(unK .not (.bool r) fun w=>za4 w F)=F (!r):=rfl
def z4w (ch:Int→Int→LN→PicT) (W Hi:Int) (l:LN):PicT:=z5n (z7y W Hi l) fun a b c=>z5n (ch a b c) fun a b c=>z7y a b c
theorem z10t (ch:Int→Int→LN→PicT) (W Hi:Int) (l:LN):(z4w ch W Hi l).2.2.1.length≤1024:=by
 unfold z4w
 generalize z7y W Hi l=q
 cases h:q.2.2.2 with
 | false=>rw [z3q h];exact Nat.zero_le _
 | true=>
  rw [z1r h]
  generalize ch q.1 q.2.1 q.2.2.1=r
  cases h2:r.2.2.2 with
  | false=>rw [z3q h2];exact Nat.zero_le _
  | true=>
   rw [z1r h2]
   have:=zwb r.1 r.2.1 r.2.2.1
   omega
/-! f1iz: function 57 -/
def zc2:Env:=envOf [(38,S_fqz),(52,S_f3z)]
def znl (ua va:Int) (ta:OA) (xa ya:Nat) (change_f:Fn) (change_x:Array Value) (change_y:Array Value) (H:zq) (K:Int→Int→OA→Nat→Nat→Bool→zq→Prop):Prop:=
 ∃(l:LN) (ch:Int→Int→LN→PicT),IsL fF H ta xa l∧l.length<1073741824∧(∀W Hi l,(ch W Hi l).2.2.1.length≤1024)∧zch zc2 (.func change_f change_x change_y) H ch∧
  (∀(td:OA) (yd xd:Nat),∀H':zq,Grow H H'→OwnS fF H' H.length td yd xd ((z4w ch ua va l).2.2.1)→K ((z4w ch ua va l).1) ((z4w ch ua va l).2.1) td yd xd ((z4w ch ua va l).2.2.2) H')
theorem zzh {ua va:Int} {ta:OA} {xa ya:Nat} {change_f:Fn} {change_x:Array Value} {change_y:Array Value} {H:zq} {K:Int→Int→OA→Nat→Nat→Bool→zq→Prop} (h:∃(l:LN) (ch:Int→Int→LN→PicT),IsL fF H ta xa l∧l.length<1073741824∧(∀W Hi l,(ch W Hi l).2.2.1.length≤1024)∧zch zc2 (.func change_f change_x change_y) H ch∧
  (∀(td:OA) (yd xd:Nat),∀H':zq,Grow H H'→OwnS fF H' H.length td yd xd ((z4w ch ua va l).2.2.1)→K ((z4w ch ua va l).1) ((z4w ch ua va l).2.1) td yd xd ((z4w ch ua va l).2.2.2) H')):znl ua va ta xa ya change_f change_x change_y H K:=h
def z15j (args:List Value) (H:zq):(Value→zq→Prop)→Prop:=match args with
 | [.agg ⟨[.int .i64 ua,.int .i64 va,.slice ta xa ya]⟩,.func change_f change_x change_y]=>fun K=>znl ua va ta xa ya change_f change_x change_y H fun (sd:Int) (pd:Int) (ja:OA) (oa:Nat) (ma:Nat) (r2:Bool) (H':zq)=>K (.tuple #[.agg #[.int .i64 sd,.int .i64 pd,.slice ja oa ma],.bool r2]) H'
 | _=>fun _=>False
def zn9:FSpec:={F:=z15j,quiet:=false,tame:=false}
theorem z1av (ua va:Int) (ta:OA) (xa ya:Nat) (change_f:Fn) (change_x:Array Value) (change_y:Array Value) (H:zq) (K:KT):z1a Tryz.prog zc2 Tryz.f57 [.agg #[.int .i64 ua,.int .i64 va,.slice ta xa ya],.func change_f change_x change_y] H K=
 (Al [.int .i64 ua,.int .i64 va,.slice ta xa ya] H fun b1 H1=>Al [.int .i64 0,.int .i64 0,.slice none 0 0] H1 fun b2 H2=>∃c1:Int,∃c2:Int,∃kh:OA,∃mh:Nat,∃lh:Nat,  rdN H2 b1 0 3=some [.int .i64 c1,.int .i64 c2,.slice kh mh lh]∧zu2 c1 c2 kh mh lh H2 fun (r1:Int) (r2:Int) (a1:OA) (r3:Nat) (r4:Nat) (r5:Bool) (H3:zq)=>Al [.int .i64 0,.int .i64 0,.slice none 0 0] H3 fun b3 H4=>isOwn H4 b3∧(∃l,rdN H4 b3 0 3=some l)∧Lt (setN H4 b3 0 [.int .i64 r1,.int .i64 r2,.slice a1 r3 r4]) fun H5=>Br (!r5) (isOwn H5 b2∧(∃l,rdN H5 b2 0 3=some l)∧Lt (setN H5 b2 0 [.int .i64 0,.int .i64 0,.slice none 0 0]) fun H6=>∃c4:Int,∃c5:Int,∃th:OA,∃vh:Nat,∃uh:Nat,  rdN H6 b2 0 3=some [.int .i64 c4,.int .i64 c5,.slice th vh uh]∧K (.tuple #[.agg #[.int .i64 c4,.int .i64 c5,.slice th vh uh],.bool false]) H6) (∃c7:Int,∃c8:Int,∃fi:OA,∃ii:Nat,∃gi:Nat,  rdN H5 b3 0 3=some [.int .i64 c7,.int .i64 c8,.slice fi ii gi]∧zf1 zc2 (.func change_f change_x change_y) [.agg #[.int .i64 c7,.int .i64 c8,.slice fi ii gi]] H5 fun (w1:Value) (H7:zq)=>extV w1 0 fun (w2:Value)=>extV w1 1 fun (w3:Value)=>stN 3 w2 H7 b3 0 fun (H8:zq)=>unK .not w3 fun (w4:Value)=>za4 w4 fun (t1:Bool)=>Br t1 (isOwn H8 b2∧(∃l,rdN H8 b2 0 3=some l)∧Lt (setN H8 b2 0 [.int .i64 0,.int .i64 0,.slice none 0 0]) fun H9=>∃c10:Int,∃c11:Int,∃ti:OA,∃vi:Nat,∃ui:Nat,  rdN H9 b2 0 3=some [.int .i64 c10,.int .i64 c11,.slice ti vi ui]∧K (.tuple #[.agg #[.int .i64 c10,.int .i64 c11,.slice ti vi ui],.bool false]) H9) (∃c13:Int,∃c14:Int,∃ij:OA,∃kj:Nat,∃jj:Nat,  rdN H8 b3 0 3=some [.int .i64 c13,.int .i64 c14,.slice ij kj jj]∧zu2 c13 c14 ij kj jj H8 fun (r6:Int) (r7:Int) (a2:OA) (r8:Nat) (r9:Nat) (r10:Bool) (H10:zq)=>isOwn H10 b2∧(∃l,rdN H10 b2 0 3=some l)∧Lt (setN H10 b2 0 [.int .i64 r6,.int .i64 r7,.slice a2 r8 r9]) fun H11=>∃c16:Int,∃c17:Int,∃ck:OA,∃fk:Nat,∃dk:Nat,  rdN H11 b2 0 3=some [.int .i64 c16,.int .i64 c17,.slice ck fk dk]∧K (.tuple #[.agg #[.int .i64 c16,.int .i64 c17,.slice ck fk dk],.bool r10]) H11))):=by kernel_rfl
theorem zsl:∀g,FnOkX Tryz.prog (MainCls Tryz.prog) g (zc2 g):=FnOkX.envOf (by
 intro x hx
 simp only [List.mem_cons,List.not_mem_nil,or_false] at hx
 rcases hx with rfl | rfl
 ·exact z1h3.le fun _ _ _=>trivial
 ·exact f3z_ok)
theorem ω31 {P:Prop} (h:P:=by have:=o2.lt;have:=g3.1;omega):P:=h
theorem ω32 {P:Prop} (h:P:=by have:=G2.1;have:=g3.1;omega):P:=h
theorem zv2 (ua va:Int) (ta:OA) (xa ya:Nat) (change_f:Fn) (change_x:Array Value) (change_y:Array Value) (H:zq) (K:KT) (h:znl ua va ta xa ya change_f change_x change_y H fun (sd:Int) (pd:Int) (ja:OA) (oa:Nat) (ma:Nat) (r2:Bool) (H':zq)=>K (.tuple #[.agg #[.int .i64 sd,.int .i64 pd,.slice ja oa ma],.bool r2]) H'):z1a Tryz.prog zc2 Tryz.f57 [.agg #[.int .i64 ua,.int .i64 va,.slice ta xa ya],.func change_f change_x change_y] H K:=by
 rw [z1av]
 obtain ⟨l,ch,il,bl,hlen,hch,hk⟩:=h
 obtain rfl:=il.eqn
 have ep:z4w ch ua va l=z5n (z7y ua va l) fun a b c=>z5n (ch a b c) fun a b c=>z7y a b c:=rfl
 rw [ep] at hk
 refine Al.intro fun b1 H1 e1 l1 g1 o1=>Al.intro fun b2 H2 e2 l2 g2 o2=>?_
 have G2:Grow H H2:=g1.trans g2
 refine ⟨ua,va,ta,l.length,ya,((o1.grow g2).rdN (Nat.le_of_ble_eq_true rfl)).trans rfl,zu3 ⟨l,il.grow G2,bl,fun a n e H3 g3 w3=>?_⟩⟩
 have sl:=zwb ua va l
 generalize z7y ua va l=q at *
 refine Al.intro fun b3 H4 e4 l4 g4 o4=>Lt.setN o4 (n:=3) ω23 rfl fun H5 l5 o5 k5=>?_
 have up3:=w3.up
 have lo3:=w3.lo
 have s3:=(w3.grow g4).keepA (fun x y hx hy=>by cases hx;have:=up3 y hy;show b3≠_;omega) (OwnS.keep1 k5)
 have c2:=((o2.grow g3).grow g4).keep (b':=b3) ω31 k5
 have G5:Grow H H5:=((G2.trans g3).trans g4).keep ω32 k5
 refine Br.intro (fun hp=>?_) (fun hp=>?_)
 ·refine Lt.setN c2 (n:=3) ω23 rfl fun H6 l6 q6 k6=>⟨0,0,none,0,0,(q6.rdN (Nat.le_of_ble_eq_true rfl)).trans rfl,?_⟩
  rw [z3q (z1f hp)] at hk
  exact hk none 0 0 H6 (G5.keep ω2 k6) (OwnS.nil _ _ _ _)
 rw [z1r (z1e hp)] at hk
 refine ⟨q.1,q.2.1,a,n,e,(o5.rdN (Nat.le_of_ble_eq_true rfl)).trans rfl,?_⟩
 refine hch q.1 q.2.1 a n e q.2.2.1 H5 G5 s3.isL ω2 _ fun a7 n7 e7 H7 g7 w7=>?_
 rw [ext0,ext1,zib]
 have hl2:=hlen q.1 q.2.1 q.2.2.1
 generalize ch q.1 q.2.1 q.2.2.1=r at *
 refine Lt.setN (o5.grow g7) (n:=3) (Nat.le_of_ble_eq_true rfl) rfl fun H8 l8 o8 k8=>?_
 rw [zy0]
 have up7:=w7.up
 have lo7:=w7.lo
 have s7:=w7.keepA (fun x y hx hy=>by cases hx;have:=lo7 y hy;have:=o5.lt;show b3≠_;omega) (OwnS.keep1 k8)
 have d2:=(c2.grow g7).keep (b':=b3) ω31 k8
 have G8:Grow H H8:=(G5.trans g7).keep ω32 k8
 refine Br.intro (fun hp2=>?_) (fun hp2=>?_)
 ·refine Lt.setN d2 (n:=3) ω23 rfl fun H9 l9 q9 k9=>⟨0,0,none,0,0,(q9.rdN (Nat.le_of_ble_eq_true rfl)).trans rfl,?_⟩
  rw [z3q (z1f hp2)] at hk
  exact hk none 0 0 H9 (G8.keep ω2 k9) (OwnS.nil _ _ _ _)
 rw [z1r (z1e hp2)] at hk
 refine ⟨r.1,r.2.1,a7,n7,e7,(o8.rdN (Nat.le_of_ble_eq_true rfl)).trans rfl,zu3 ⟨r.2.2.1,s7.isL,by omega,fun a9 n9 e9 H10 g10 w10=>?_⟩⟩
 refine Lt.setN (d2.grow g10) (n:=3) ω23 rfl fun H11 l11 q11 k11=>⟨_,_,a9,n9,e9,(q11.rdN (Nat.le_of_ble_eq_true rfl)).trans rfl,?_⟩
 have lo10:=w10.lo
 have hle:=G8.1
 exact hk a9 n9 e9 H11 ((G8.trans g10).keep ω2 k11) ((w10.keepA (fun x y hx hy=>by cases hx;have:=lo10 y hy;have:=d2.lt;show b2≠_;omega) (OwnS.keep1 k11)).weak hle)
theorem z1au:FnOkX Tryz.prog (MainCls Tryz.prog) 57 zn9:=FnOkX.bodyF (hLt:=fun _=>z3y) mix_ok zsl Tryz.func57 rfl ω9 ω9 fun args H=>by
 unfold z15j
 split
 ·refine ⟨?_,?_,?_,?_,fun K hk=>zv2 _ _ _ _ _ _ _ _ H K hk⟩
  ·intro K K' h hk;obtain ⟨l,ch,i,b,hlen,hch,k⟩:=hk;exact ⟨l,ch,i,b,hlen,hch,(fun td yd xd H' gg ow0=>h _ _ (k td yd xd H' gg ow0))⟩
  ·nofun
  ·intro K hk;obtain ⟨l,ch,i,b,hlen,hch,k⟩:=hk;exact z4m fun a n e H1 g o=>⟨_,_,k a n e H1 g o⟩
  ·nofun
 ·exact Nice.no


def zbw (rows:Int→Int→LN→PicT) (W Hi:Int) (l:LN):PicT:=z5n (z4w rows W Hi l) fun a b c=>rows a b c
theorem f4z_len (rows:Int→Int→LN→PicT) (hr:∀W Hi l,(rows W Hi l).2.2.1.length≤1024) (W Hi:Int) (l:LN):(zbw rows W Hi l).2.2.1.length≤1024:=by
 unfold zbw
 generalize z4w rows W Hi l=q
 unfold z5n
 cases q.2.2.2 with
 | false=>exact Nat.zero_le _
 | true=>exact hr _ _ _
/-! f4z: function 56 -/
def zpf:Env:=envOf [(57,zn9),(52,S_f3z)]
def T_f4z (nd te:Int) (gf:OA) (vf uf cap0:Nat) (H:zq) (K:Int→Int→OA→Nat→Nat→Bool→zq→Prop):Prop:=
 ∃(l:LN) (f:Fn) (cx cy:Array Value) (rows:Int→Int→LN→PicT),IsL fF H gf vf l∧l.length<1073741824∧rdC H cap0 0=some (.func f cx cy)∧(∀W Hi l,(rows W Hi l).2.2.1.length≤1024)∧zch zpf (.func f cx cy) H rows∧zch zc2 (.func f cx cy) H rows∧
  (∀(td:OA) (yd xd:Nat),∀H':zq,Grow H H'→OwnS fF H' H.length td yd xd ((zbw rows nd te l).2.2.1)→K ((zbw rows nd te l).1) ((zbw rows nd te l).2.1) td yd xd ((zbw rows nd te l).2.2.2) H')
def F_f4z (args:List Value) (H:zq):(Value→zq→Prop)→Prop:=match args with
 | [.agg ⟨[.int .i64 nd,.int .i64 te,.slice gf vf uf]⟩,.pointer (some ⟨cap0,0,none⟩)]=>fun K=>T_f4z nd te gf vf uf cap0 H fun (sd:Int) (pd:Int) (ja:OA) (oa:Nat) (ma:Nat) (r2:Bool) (H':zq)=>K (.tuple #[.agg #[.int .i64 sd,.int .i64 pd,.slice ja oa ma],.bool r2]) H'
 | _=>fun _=>False
def S_f4z:FSpec:={F:=F_f4z,quiet:=false,tame:=false}
theorem f4z_vc (nd te:Int) (gf:OA) (vf uf cap0:Nat) (H:zq) (K:KT):z1a Tryz.prog zpf Tryz.f56 [.agg #[.int .i64 nd,.int .i64 te,.slice gf vf uf],.pointer (some ⟨cap0,0,none⟩)] H K=
 (Al [.int .i64 nd,.int .i64 te,.slice gf vf uf] H fun b1 H1=>Al [.int .i64 0,.int .i64 0,.slice none 0 0] H1 fun b2 H2=>∃c1:Int,∃c2:Int,∃kh:OA,∃mh:Nat,∃lh:Nat,  rdN H2 b1 0 3=some [.int .i64 c1,.int .i64 c2,.slice kh mh lh]∧∃x1:Value,  rdC H2 cap0 0=some (x1)∧zn9.F [.agg #[.int .i64 c1,.int .i64 c2,.slice kh mh lh],x1] H2 fun (w1:Value) (H3:zq)=>extV w1 0 fun (w2:Value)=>extV w1 1 fun (w3:Value)=>stN 3 w2 H3 b1 0 fun (H4:zq)=>unK .not w3 fun (w4:Value)=>za4 w4 fun (t1:Bool)=>Br t1 (isOwn H4 b2∧(∃l,rdN H4 b2 0 3=some l)∧Lt (setN H4 b2 0 [.int .i64 0,.int .i64 0,.slice none 0 0]) fun H5=>∃c4:Int,∃c5:Int,∃th:OA,∃vh:Nat,∃uh:Nat,  rdN H5 b2 0 3=some [.int .i64 c4,.int .i64 c5,.slice th vh uh]∧K (.tuple #[.agg #[.int .i64 c4,.int .i64 c5,.slice th vh uh],.bool false]) H5) (∃x2:Value,  rdC H4 cap0 0=some (x2)∧∃c7:Int,∃c8:Int,∃fi:OA,∃ii:Nat,∃gi:Nat,  rdN H4 b1 0 3=some [.int .i64 c7,.int .i64 c8,.slice fi ii gi]∧zf1 zpf x2 [.agg #[.int .i64 c7,.int .i64 c8,.slice fi ii gi]] H4 fun (w5:Value) (H6:zq)=>extV w5 0 fun (w6:Value)=>extV w5 1 fun (w7:Value)=>stN 3 w6 H6 b2 0 fun (H7:zq)=>∃c10:Int,∃c11:Int,∃ti:OA,∃vi:Nat,∃ui:Nat,  rdN H7 b2 0 3=some [.int .i64 c10,.int .i64 c11,.slice ti vi ui]∧K (.tuple #[.agg #[.int .i64 c10,.int .i64 c11,.slice ti vi ui],w7]) H7)):=by kernel_rfl
theorem zy9:∀g,FnOkX Tryz.prog (MainCls Tryz.prog) g (zpf g):=FnOkX.envOf (by
 intro x hx
 simp only [List.mem_cons,List.not_mem_nil,or_false] at hx
 rcases hx with rfl | rfl
 ·exact z1au
 ·exact f3z_ok)
theorem zxw {W Hi:Int} {a:OA} {n e:Nat} {f:Fn} {x y:Array Value} {H:zq} {K:KT}:zn9.F [.agg #[.int .i64 W,.int .i64 Hi,.slice a n e],.func f x y] H K=
  znl W Hi a n e f x y H (fun r1 r2 a n e r H'=>K (.tuple #[.agg #[.int .i64 r1,.int .i64 r2,.slice a n e],.bool r]) H'):=rfl
theorem f4z_main (nd te:Int) (gf:OA) (vf uf cap0:Nat) (H:zq) (K:KT) (h:T_f4z nd te gf vf uf cap0 H fun (sd:Int) (pd:Int) (ja:OA) (oa:Nat) (ma:Nat) (r2:Bool) (H':zq)=>K (.tuple #[.agg #[.int .i64 sd,.int .i64 pd,.slice ja oa ma],.bool r2]) H'):z1a Tryz.prog zpf Tryz.f56 [.agg #[.int .i64 nd,.int .i64 te,.slice gf vf uf],.pointer (some ⟨cap0,0,none⟩)] H K:=by
 rw [f4z_vc]
 obtain ⟨l,f,cx,cy,rows,il,bl,hc,hlen,h1,h2,hk⟩:=h
 obtain rfl:=il.eqn
 have ep:zbw rows nd te l=z5n (z4w rows nd te l) fun a b c=>rows a b c:=rfl
 rw [ep] at hk
 refine Al.intro fun b1 H1 e1 l1 g1 o1=>Al.intro fun b2 H2 e2 l2 g2 o2=>?_
 have G2:Grow H H2:=g1.trans g2
 have cap:∀H',Grow H H'→rdC H' cap0 0=some (.func f cx cy):=fun H' g=>zp6 g hc
 refine ⟨nd,te,gf,l.length,uf,((o1.grow g2).rdN (Nat.le_of_ble_eq_true rfl)).trans rfl,.func f cx cy,cap H2 G2,?_⟩
 rw [zxw]
 refine zzh ⟨l,rows,il.grow G2,bl,hlen,h2.grow G2,fun a n e H3 g3 w3=>?_⟩
 rw [ext0,ext1,zib]
 have hl:=z10t rows nd te l
 generalize z4w rows nd te l=q at *
 refine Lt.setN ((o1.grow g2).grow g3) (n:=3) (Nat.le_of_ble_eq_true rfl) rfl fun H4 l4 o4 k4=>?_
 rw [zy0]
 have up3:=w3.up
 have lo3:=w3.lo
 have s3:=w3.keepA (fun x y hx hy=>by cases hx;have:=lo3 y hy;have:=o1.lt;show b1≠_;omega) (OwnS.keep1 k4)
 have c2:=(o2.grow g3).keep (b':=b1) ω2 k4
 have G4:Grow H H4:=(G2.trans g3).keep ω2 k4
 refine Br.intro (fun hp=>?_) (fun hp=>?_)
 ·refine Lt.setN c2 (n:=3) ω23 rfl fun H5 l5 q5 k5=>⟨0,0,none,0,0,(q5.rdN (Nat.le_of_ble_eq_true rfl)).trans rfl,?_⟩
  rw [z3q (z1f hp)] at hk
  exact hk none 0 0 H5 (G4.keep ω2 k5) (OwnS.nil _ _ _ _)
 rw [z1r (z1e hp)] at hk
 refine ⟨.func f cx cy,cap H4 G4,q.1,q.2.1,a,n,e,(o4.rdN (Nat.le_of_ble_eq_true rfl)).trans rfl,?_⟩
 refine h1 q.1 q.2.1 a n e q.2.2.1 H4 G4 s3.isL ω2 _ fun a6 n6 e6 H6 g6 w6=>?_
 rw [ext0,ext1,zib]
 refine Lt.setN (c2.grow g6) (n:=3) ω23 rfl fun H7 l7 q7 k7=>⟨_,_,a6,n6,e6,(q7.rdN (Nat.le_of_ble_eq_true rfl)).trans rfl,?_⟩
 have lo6:=w6.lo
 have hle:=G4.1
 exact hk a6 n6 e6 H7 ((G4.trans g6).keep ω2 k7) ((w6.keepA (fun x y hx hy=>by cases hx;have:=lo6 y hy;have:=c2.lt;show b2≠_;omega) (OwnS.keep1 k7)).weak hle)
theorem f4z_ok:FnOkX Tryz.prog (MainCls Tryz.prog) 56 S_f4z:=FnOkX.bodyF (hLt:=fun _=>z3y) mix_ok zy9 Tryz.func56 rfl ω9 ω9 fun args H=>by
 unfold F_f4z
 split
 ·refine ⟨?_,?_,?_,?_,fun K hk=>f4z_main _ _ _ _ _ _ H K hk⟩
  ·intro K K' h hk;obtain ⟨l,f,cx,cy,rows,i,b,hc,hlen,h1,h2,k⟩:=hk;exact ⟨l,f,cx,cy,rows,i,b,hc,hlen,h1,h2,(fun td yd xd H' gg ow0=>h _ _ (k td yd xd H' gg ow0))⟩
  ·nofun
  ·intro K hk;obtain ⟨l,f,cx,cy,rows,i,b,hc,hlen,h1,h2,k⟩:=hk;exact z4m fun a n e H1 g o=>⟨_,_,k a n e H1 g o⟩
  ·nofun
 ·exact Nice.no
end Go.Proofs.YthheoefadijhdaaGreat.Ai
