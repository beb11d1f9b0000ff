/- What functions of the program come to on the abstract machine, and that they do so; printed by a program of mine around proofs of mine. -/
import Derived.Test.YtghkkclonabpkabProg
import Derived.Test.YtghkkclonabpkabLv
import Derived.Test.YtghkkclonabpkabOpen
import Derived.Test.YtghkkclonabpkabPu
import Derived.Test.YtghkkclonabpkabSr
import Derived.Test.YtghkkclonabpkabSt
set_option linter.unusedVariables false
set_option linter.unusedSimpArgs false
set_option linter.defProp false
set_option maxRecDepth 100000
namespace Go.Proofs.Ytghkkclonabpkab.Ai
open Go
attribute [local irreducible] bodyK bodyL
theorem mix_ok : Try.prog.follows .mixedOrders = true := by kernel_rfl

def p_laws_toFloat32S_l1 (l_a : List Nat) : Nat → Int → (List Nat) → (List Nat)
  | 0, _, _ => []
  | μ + 1, i, y1_1 => (bif decide ((i : Int) < (l_a.length : Int)) then (p_laws_toFloat32S_l1 l_a μ (i + 1) (((y1_1).set (i : Int).toNat ((((l_a).getD (i : Int).toNat 0)))))) else y1_1)
def p_laws_toFloat32S_l1_s := fun l_a μ i y1_1 => @p_laws_toFloat32S_l1.eq_2 l_a i y1_1 μ
def p_laws_toFloat32S (l_a : List Nat) : (List Nat) := (p_laws_toFloat32S_l1 l_a (Int.toNat ((l_a.length : Int) - (0 : Int)) + 1) (0 : Int) (List.replicate (((l_a.length : Int)).toNat) 0))
def p_laws_toFloat32S_eq := @p_laws_toFloat32S.eq_1
def T_laws_toFloat32S (a_a : Option Addr) (a_n : Nat) (a_e : Nat) (H : AHeap) (K : (Option Addr) → Nat → Nat → AHeap → Prop) : Prop := ∃ (l_a : List Nat), IsL fF H a_a a_n l_a ∧ l_a.length < 1073741824 ∧ ((∀ (r1_a : Option Addr) (r1_n r1_e : Nat), ∀ H' : AHeap, Grow H H' → OwnS fF H' H.length r1_a r1_n r1_e l_a → K r1_a r1_n r1_e H'))
theorem T_laws_toFloat32S_i {a_a : Option Addr} {a_n : Nat} {a_e : Nat} {H : AHeap} {K : (Option Addr) → Nat → Nat → AHeap → Prop} (h : ∃ (l_a : List Nat), IsL fF H a_a a_n l_a ∧ l_a.length < 1073741824 ∧ ((∀ (r1_a : Option Addr) (r1_n r1_e : Nat), ∀ H' : AHeap, Grow H H' → OwnS fF H' H.length r1_a r1_n r1_e l_a → K r1_a r1_n r1_e H'))) : T_laws_toFloat32S a_a a_n a_e H K := h
theorem o3 {P : Prop} (h : P := by omega) : P := h
theorem laws_toFloat32S_go (l : List Nat) : ∀ (μ : Nat) (i : Nat) (ys : List Nat), ys.length = l.length → i ≤ l.length → l.length - i < μ →
    p_laws_toFloat32S_l1 l μ (i : Int) (l.take i ++ ys.drop i) = l := by
  intro μ
  induction μ with
  | zero => intro i ys _ _ h; omega
  | succ μ ih =>
    intro i ys hy hi hm
    rw [p_laws_toFloat32S_l1_s]
    by_cases h : i < l.length
    · rw [decide_eq_true (show (i : Int) < (l.length : Int) by omega), cond_true]
      have hx : l[i]? = some (l.getD i 0) := by rw [List.getD_eq_getElem?_getD, List.getElem?_eq_getElem h]; rfl
      rw [Int.toNat_natCast, set_front l ys i o3 hy.symm _ hx]
      exact ih (i + 1) ys hy o3 o3
    · rw [decide_eq_false (show ¬ (i : Int) < (l.length : Int) by omega), cond_false]
      rw [List.take_of_length_le o3, List.drop_eq_nil_of_le o3, List.append_nil]
theorem laws_toFloat32S_id (l : List Nat) : p_laws_toFloat32S l = l := by
  rw [p_laws_toFloat32S_eq]
  have := laws_toFloat32S_go l (Int.toNat ((l.length : Int) - 0) + 1) 0 (List.replicate ((l.length : Int)).toNat 0) (by simp) o3 o3
  simpa using this
/-! laws_toFloat32S: function 33 -/
def E_laws_toFloat32S : Env := envOf []
def F_laws_toFloat32S : List Value → AHeap → (Value → AHeap → Prop) → Prop
  | [.slice a_a a_n a_e], H, K => T_laws_toFloat32S a_a a_n a_e H fun (r1_a : Option Addr) (r1_n : Nat) (r1_e : Nat) (H' : AHeap) => K (.slice r1_a r1_n r1_e) H'
  | _, _, _ => False
def S_laws_toFloat32S : FSpec := { F := F_laws_toFloat32S, quiet := false, tame := true }
theorem laws_toFloat32S_vc (a_a : Option Addr) (a_n : Nat) (a_e : Nat) (H : AHeap) (K : Value → AHeap → Prop) : bodyL Try.prog E_laws_toFloat32S Try.f33 [.slice a_a a_n a_e] H K =
  ((0 : Int) ≤ (a_n : Int) ∧ (a_n : Int) = (a_n : Int) ∧ (a_n : Int) < (most : Int) ∧ Al (zerosOf (.float .f32 0) ((a_n : Int)).toNat) H fun b1 H1 => loopK (exL Try.prog E_laws_toFloat32S (cl (cl (cr (cl (cr (cr (bodyC Try.f33))))))) 25 4 [(0, 8)]) [.slice a_a a_n a_e, ud, ud, .slice (some ⟨b1, 0, none⟩) (((a_n : Int)).toNat) 1, .int .i64 0, ud, ud, ud, ud, ud, ud, ud, ud, ud, ud, ud, ud, ud, ud, ud, ud, ud] H1 (blockQ 0 (seqQ (exL Try.prog E_laws_toFloat32S (cr (cr (cr (bodyC Try.f33)))) 4 4 []) (retK Try.prog Try.f33 K)))) := by kernel_rfl
abbrev laws_toFloat32S_P1 (a_a : Option Addr) (a_e : Nat) (a_n : Nat) (b1 : Nat) (i : Int)  : List Value := [.slice a_a a_n a_e, ud, ud, .slice (some ⟨b1, 0, none⟩) (((a_n : Int)).toNat) 1, .int .i64 i, ud, ud, ud, ud, ud, ud, ud, ud, ud, ud, ud, ud, ud, ud, ud, ud, ud]
theorem laws_toFloat32S_r1 (a_a : Option Addr) (a_e : Nat) (a_n : Nat) (b1 : Nat) (i : Int)  (H : AHeap) (R : Post) : exL Try.prog E_laws_toFloat32S (cl (cl (cr (cl (cr (cr (bodyC Try.f33))))))) 25 4 [(0, 8)] (laws_toFloat32S_P1 a_a a_e a_n b1 i) H R =
  (Br (decide ((i : Int) < (a_n : Int))) ((0 : Int) ≤ i ∧ i < (a_n : Int) ∧ ∃ b2 f1, (a_a : Option Addr) = some ⟨b2, f1, none⟩ ∧ ∃ x1 : Nat,  rdC H b2 (f1 + (i : Int).toNat * 1) = some (.float .f32 x1) ∧ (0 : Int) ≤ i ∧ i < (((a_n : Int)).toNat : Int) ∧ ∃ b3 f2, (some ⟨b1, 0, none⟩ : Option Addr) = some ⟨b3, f2, none⟩ ∧ isOwn H b3 ∧ (∃ l, rdN H b3 (f2 + (i : Int).toNat * 1) 1 = some l) ∧ Lt (setC H b3 (f2 + (i : Int).toNat * 1) (.float .f32 x1)) fun H2 => R .normal [.slice a_a a_n a_e, ud, ud, .slice (some ⟨b1, 0, none⟩) (((a_n : Int)).toNat) 1, .int .i64 (IntKind.wrap .i64 (i + 1)), ud, ud, ud, ud, ud, ud, ud, ud, ud, ud, ud, ud, ud, ud, ud, ud, ud] H2) (R (.exit 0) [ud, ud, ud, .slice (some ⟨b1, 0, none⟩) (((a_n : Int)).toNat) 1, ud, ud, ud, ud, ud, ud, ud, ud, ud, ud, ud, ud, ud, ud, ud, ud, ud, ud] H)) := by kernel_rfl
def laws_toFloat32S_I1 (a_a : Option Addr) (a_e : Nat) (a_n : Nat) (b1 : Nat) (Inv : Nat → Int → AHeap → Prop) : Nat → List Value → AHeap → Prop := fun μ tm H => ∃ (i : Int), tm = (laws_toFloat32S_P1 a_a a_e a_n b1 i) ∧ Inv μ i H
theorem laws_toFloat32S_L1 (a_a : Option Addr) (a_e : Nat) (a_n : Nat) (b1 : Nat) {Q : Post} (Inv : Nat → Int → AHeap → Prop) (ν : Nat) (i : Int)  (H : AHeap) (h0 : Inv ν i H)
    (hs : ∀ (μ : Nat) (i : Int)  (H : AHeap), Inv μ i H → exL Try.prog E_laws_toFloat32S (cl (cl (cr (cl (cr (cr (bodyC Try.f33))))))) 25 4 [(0, 8)] (laws_toFloat32S_P1 a_a a_e a_n b1 i) H (loopQ (laws_toFloat32S_I1 a_a a_e a_n b1 Inv) μ Q)) : loopK (exL Try.prog E_laws_toFloat32S (cl (cl (cr (cl (cr (cr (bodyC Try.f33))))))) 25 4 [(0, 8)]) (laws_toFloat32S_P1 a_a a_e a_n b1 i) H Q :=
  ⟨laws_toFloat32S_I1 a_a a_e a_n b1 Inv, ν, ⟨i, rfl, h0⟩, fun μ tm H h => by obtain ⟨i, rfl, hI⟩ := h; exact hs μ i  H hI⟩
theorem laws_toFloat32S_n1 {a_a : Option Addr} {a_e : Nat} {a_n : Nat} {b1 : Nat} {Q : Post} {Inv : Nat → Int → AHeap → Prop} {μ : Nat} (μ' : Nat) {i : Int}  {H : AHeap} (hm : μ' < μ) (hI : Inv μ' i H) : loopQ (laws_toFloat32S_I1 a_a a_e a_n b1 Inv) μ Q .normal (laws_toFloat32S_P1 a_a a_e a_n b1 i) H := ⟨μ', hm, i, rfl, hI⟩
theorem laws_toFloat32S_x1_0 (a_n : Nat) (b1 : Nat) (H : AHeap) (K : Value → AHeap → Prop)  {I : Nat → List Value → AHeap → Prop} {μ : Nat} : loopQ I μ (blockQ 0 (seqQ (exL Try.prog E_laws_toFloat32S (cr (cr (cr (bodyC Try.f33)))) 4 4 []) (retK Try.prog Try.f33 K))) (.exit 0) [ud, ud, ud, .slice (some ⟨b1, 0, none⟩) (((a_n : Int)).toNat) 1, ud, ud, ud, ud, ud, ud, ud, ud, ud, ud, ud, ud, ud, ud, ud, ud, ud, ud] H =
  (K (.slice (some ⟨b1, 0, none⟩) (((a_n : Int)).toNat) 1) H) := by kernel_rfl
theorem E_laws_toFloat32S_ok : ∀ g, FnOk Try.prog g (E_laws_toFloat32S g) := FnOk.envOf (by
  intro x hx; cases hx)
theorem o28 {P : Prop} (h : P := by have := most_eq; omega) : P := h
theorem o29 {P : Prop} (h : P := by first | rfl | assumption | omega | (simp; done)) : P := h
theorem o6 {P : Prop} (h : P := by first | omega | (simp; done) | (simp; omega)) : P := h
theorem o0 {P : Prop} (h : P := by first | omega | (simp only [List.length_set, List.length_replicate, List.length_append, List.length_cons, List.length_nil, List.length_take, List.length_drop, marks_length]; done) | (simp only [List.length_set, List.length_replicate, List.length_append, List.length_cons, List.length_nil, List.length_take, List.length_drop, marks_length]; omega)) : P := h
theorem o14 {P : Prop} (h : P := by simp only [List.length_map]; (first | omega | (simp only [List.length_set, List.length_replicate, List.length_append, List.length_cons, List.length_nil, List.length_take, List.length_drop, marks_length]; done) | (simp only [List.length_set, List.length_replicate, List.length_append, List.length_cons, List.length_nil, List.length_take, List.length_drop, marks_length]; omega))) : P := h
theorem o12 {P : Prop} (h : P := by first | omega) : P := h
theorem o20 {P : Prop} (h : P := by first | assumption | omega | (simp only [List.length_set]; first | rfl | assumption | omega)) : P := h
theorem o1 {P : Prop} (h : P := by first | omega | (simp only [List.length_append, List.length_cons, List.length_nil, List.length_set]; done) | (simp only [List.length_append, List.length_cons, List.length_nil, List.length_set]; omega)) : P := h
theorem o34 {P : Prop} (h : P := by first | (simp only [List.length_replicate]; done) | omega | (simp; omega)) : P := h
set_option maxHeartbeats 1000000 in
theorem laws_toFloat32S_main (a_a : Option Addr) (a_n : Nat) (a_e : Nat) (H : AHeap) (K : Value → AHeap → Prop) (h : T_laws_toFloat32S a_a a_n a_e H fun (r1_a : Option Addr) (r1_n : Nat) (r1_e : Nat) (H' : AHeap) => K (.slice r1_a r1_n r1_e) H') : bodyL Try.prog E_laws_toFloat32S Try.f33 [.slice a_a a_n a_e] H K := by
  rw [laws_toFloat32S_vc]
  obtain ⟨l_a, i_a, bd_29, hk⟩ := h
  have hk : (∀ (r1_a : Option Addr) (r1_n r1_e : Nat), ∀ H' : AHeap, Grow H H' → OwnS fF H' H.length r1_a r1_n r1_e (p_laws_toFloat32S l_a) → (fun (r1_a : Option Addr) (r1_n : Nat) (r1_e : Nat) (H' : AHeap) => K (.slice r1_a r1_n r1_e) H') r1_a r1_n r1_e H') := by rw [laws_toFloat32S_id l_a]; exact hk
  obtain rfl := i_a.eqn
  have e : (p_laws_toFloat32S l_a) = _ := rfl
  have e := e.trans (p_laws_toFloat32S_eq l_a)
  have g0 := Grow.refl H
  refine ⟨by omega, rfl, o28, ?_⟩
  refine Al.intro (fun b_1 H_1 hb_2 hl_3 g_4 o_5 => ?_)
  rw [zeros_map fF 0 _ rfl] at o_5
  have l_7 := g_4.1
  have g_8 := g0.trans g_4
  have l_9 := g_8.1
  have w_28 := o_5.lt
  refine laws_toFloat32S_L1 _ _ _ _ (fun (μ : Nat) (i : Int) (H_2 : AHeap) => ∃ (y1_1 : List Nat), Own H_2 b_1 (y1_1.map fF) ∧ y1_1.length = ((l_a.length : Int)).toNat ∧ Grow H H_2 ∧ (0 : Int) ≤ i ∧ i ≤ (l_a.length : Int) ∧ (l_a.length : Int) - i ≤ (μ : Int) ∧ p_laws_toFloat32S l_a = p_laws_toFloat32S_l1 l_a (μ + 1) i y1_1) (Int.toNat ((l_a.length : Int) - (0 : Int))) _ H_1 ?_ ?_
  · exact ⟨_, o_5, o29, g_8, o6, o6, o3, e⟩
  · intro μ i  H_2 hI
    obtain ⟨y1_1, o_10, y_11, g_12, v_13, v_14, hμ, e⟩ := hI
    rw [laws_toFloat32S_r1]
    have e := e.trans (p_laws_toFloat32S_l1_s l_a μ i y1_1)
    have w_15 := o_10.lt
    have l_16 := g_12.1
    refine Br.intro (fun c_17 => ?_) (fun c_17 => ?_)
    · have e := e.trans (cond_t c_17)
      have c_17' := of_decide_eq_true c_17
      obtain ⟨b_18, f_19, q_20⟩ := ((i_a.grow g_12)).pos o0
      refine ⟨by omega, by omega, b_18, f_19, q_20, ?_⟩
      refine ⟨((l_a).getD (i : Int).toNat 0), (i_a).rd g_12 q_20 o3 _, ?_⟩
      refine ⟨by omega, o3, _, _, rfl, ?_⟩
      refine Lt.set o_10 o14 (fun H_3 hl_21 o_23 k_22 => ?_)
      have o_23 := map_set o_23
      have l_24 := k_22.1
      have g_25 := g_12.keep (b := b_1) o3 k_22
      have l_26 := g_25.1
      have w_27 := o_23.lt
      rw [show IntKind.wrap .i64 (i + 1) = (i + 1) from wrap64 o3 o3]
      refine laws_toFloat32S_n1 (μ - 1) o12 ⟨_, o_23, o20, g_25, o1, o1, o12, (by rw [show μ - 1 + 1 = μ from by first | omega]; exact e)⟩
    · have e := e.trans (cond_f c_17)
      have c_17' := of_decide_eq_false c_17
      rw [laws_toFloat32S_x1_0]
      rw [e] at hk
      exact hk _ _ _ H_2 g_12 (o_10.ownS o34 o3)
theorem laws_toFloat32S_ok : FnOk Try.prog 33 S_laws_toFloat32S := by
  refine FnOk.body mix_ok E_laws_toFloat32S_ok Try.func33 rfl (by kernel_rfl) (by kernel_rfl) ?_ ?_ ?_ ?_ ?_
  · intro args H K K' h hk
    simp only [S_laws_toFloat32S] at *
    unfold F_laws_toFloat32S at *
    split at hk
    · obtain ⟨l_a, i_a, bd_29, k⟩ := hk
      exact ⟨l_a, i_a, bd_29, (fun r1_a r1_n r1_e H' gg ow0 => h _ _ (k r1_a r1_n r1_e H' gg ow0))⟩
    · exact hk.elim
  · intro hq; cases hq
  · intro args H K hk
    simp only [S_laws_toFloat32S] at *
    unfold F_laws_toFloat32S at *
    split at hk
    · obtain ⟨l_a, i_a, bd_29, k⟩ := hk
      exact liveS fun a n e H1 g o => ⟨_, _, k a n e H1 g o⟩
    · exact hk.elim
  · intro _ args H K hk
    simp only [S_laws_toFloat32S] at *
    unfold F_laws_toFloat32S at *
    split at hk
    · obtain ⟨l_a, i_a, bd_29, k⟩ := hk
      exact ⟨l_a, i_a, bd_29, (fun r1_a r1_n r1_e H' gg ow0 => ⟨gg, k r1_a r1_n r1_e H' gg ow0⟩)⟩
    · exact hk.elim
  · have mm := @laws_toFloat32S_main
    have ml := fun (args : List Value) (H : AHeap) (K : Value → AHeap → Prop) => bodyL_body (P := Try.prog) (env := E_laws_toFloat32S ) (fn := Try.f33) (args := args) (H := H) (K := K) E_laws_toFloat32S_ok 
    revert mm ml
    generalize bodyK Try.prog E_laws_toFloat32S Try.f33 = Q
    generalize bodyL Try.prog E_laws_toFloat32S Try.f33 = QL
    intro mm ml args H K hk
    simp only [S_laws_toFloat32S] at *
    unfold F_laws_toFloat32S at *
    split at hk
    · exact ml _ H K (mm _ _ _ H K hk)
    · exact hk.elim
def p_spec_l01Finite (x : Nat) : Bool := feq .f32 (fsub .f32 x x) 0
def p_spec_l01Finite_eq := @p_spec_l01Finite.eq_1
def T_spec_l01Finite (x : Nat) (H : AHeap) (K : Bool → AHeap → Prop) : Prop := K (p_spec_l01Finite x) H

theorem T_spec_l01Finite_i {x : Nat} {H : AHeap} {K : Bool → AHeap → Prop} (h : K (p_spec_l01Finite x) H) : T_spec_l01Finite x H K := h
/-! spec_l01Finite: function 73 -/
def E_spec_l01Finite : Env := envOf []
def F_spec_l01Finite : List Value → AHeap → (Value → AHeap → Prop) → Prop
  | [.float .f32 x], H, K => T_spec_l01Finite x H fun (r1 : Bool) (H' : AHeap) => K (.bool r1) H'
  | _, _, _ => False
def S_spec_l01Finite : FSpec := { F := F_spec_l01Finite, quiet := true, tame := false }
theorem spec_l01Finite_vc (x : Nat) (H : AHeap) (K : Value → AHeap → Prop) : bodyL Try.prog E_spec_l01Finite Try.f73 [.float .f32 x] H K =
  (K (.bool (feq .f32 (fsub .f32 x x) 0)) H) := by kernel_rfl
theorem E_spec_l01Finite_ok : ∀ g, FnOk Try.prog g (E_spec_l01Finite g) := FnOk.envOf (by
  intro x hx; cases hx)
set_option maxHeartbeats 1000000 in
theorem spec_l01Finite_main (x : Nat) (H : AHeap) (K : Value → AHeap → Prop) (h : T_spec_l01Finite x H fun (r1 : Bool) (H' : AHeap) => K (.bool r1) H') : bodyL Try.prog E_spec_l01Finite Try.f73 [.float .f32 x] H K := by
  rw [spec_l01Finite_vc]
  unfold T_spec_l01Finite p_spec_l01Finite at h
  repeat' (first | exact h | (exfalso; simp_all; done) | (refine ⟨by decide, ?_⟩) | (refine Br.intro (fun hb => ?_) (fun hb => ?_) <;> (try simp only [hb, cond_true, cond_false, Bool.not_true, Bool.not_false] at h)))
theorem spec_l01Finite_ok : FnOk Try.prog 73 S_spec_l01Finite := by
  refine FnOk.body mix_ok E_spec_l01Finite_ok Try.func73 rfl (by kernel_rfl) (by kernel_rfl) ?_ ?_ ?_ ?_ ?_
  · intro args H K K' h hk
    simp only [S_spec_l01Finite] at *
    unfold F_spec_l01Finite at *
    split at hk
    · have k := hk
      exact h _ _ k
    · exact hk.elim
  · intro _ args H K hk
    simp only [S_spec_l01Finite] at *
    unfold F_spec_l01Finite at *
    split at hk
    · have k := hk
      exact ⟨_, k, fun K' k' => k'⟩
    · exact hk.elim
  · intro args H K hk
    simp only [S_spec_l01Finite] at *
    unfold F_spec_l01Finite at *
    split at hk
    · have k := hk
      exact ⟨_, _, k⟩
    · exact hk.elim
  · intro hq; cases hq
  · have mm := @spec_l01Finite_main
    have ml := fun (args : List Value) (H : AHeap) (K : Value → AHeap → Prop) => bodyL_body (P := Try.prog) (env := E_spec_l01Finite ) (fn := Try.f73) (args := args) (H := H) (K := K) E_spec_l01Finite_ok 
    revert mm ml
    generalize bodyK Try.prog E_spec_l01Finite Try.f73 = Q
    generalize bodyL Try.prog E_spec_l01Finite Try.f73 = QL
    intro mm ml args H K hk
    simp only [S_spec_l01Finite] at *
    unfold F_spec_l01Finite at *
    split at hk
    · exact ml _ H K (mm _ H K hk)
    · exact hk.elim

def p_spec_l02Finite_l1 (l_list : List Nat) : Nat → Bool → Int → Bool
  | 0, _, _ => false
  | μ + 1, t2, i => (bif decide ((i : Int) < (l_list.length : Int)) then (bif !((p_spec_l01Finite (((l_list).getD (i : Int).toNat 0)))) then false else (p_spec_l02Finite_l1 l_list μ t2 (i + 1))) else true)
def p_spec_l02Finite_l1_s := fun l_list μ t2 i => @p_spec_l02Finite_l1.eq_2 l_list t2 i μ
def p_spec_l02Finite (l_list : List Nat) : Bool := (p_spec_l02Finite_l1 l_list (Int.toNat ((l_list.length : Int) - (0 : Int)) + 1) false (0 : Int))
def p_spec_l02Finite_eq := @p_spec_l02Finite.eq_1
def T_spec_l02Finite (list_a : Option Addr) (list_n : Nat) (list_e : Nat) (H : AHeap) (K : Bool → AHeap → Prop) : Prop := ∃ (l_list : List Nat), IsL fF H list_a list_n l_list ∧ l_list.length < 1073741824 ∧ K (p_spec_l02Finite l_list) H
theorem T_spec_l02Finite_i {list_a : Option Addr} {list_n : Nat} {list_e : Nat} {H : AHeap} {K : Bool → AHeap → Prop} (h : ∃ (l_list : List Nat), IsL fF H list_a list_n l_list ∧ l_list.length < 1073741824 ∧ K (p_spec_l02Finite l_list) H) : T_spec_l02Finite list_a list_n list_e H K := h

/-! spec_l02Finite: function 53 -/
def E_spec_l02Finite : Env := envOf [(73, S_spec_l01Finite)]
def F_spec_l02Finite : List Value → AHeap → (Value → AHeap → Prop) → Prop
  | [.slice list_a list_n list_e], H, K => T_spec_l02Finite list_a list_n list_e H fun (r1 : Bool) (H' : AHeap) => K (.bool r1) H'
  | _, _, _ => False
def S_spec_l02Finite : FSpec := { F := F_spec_l02Finite, quiet := true, tame := false }
theorem spec_l02Finite_vc (list_a : Option Addr) (list_n : Nat) (list_e : Nat) (H : AHeap) (K : Value → AHeap → Prop) : bodyL Try.prog E_spec_l02Finite Try.f53 [.slice list_a list_n list_e] H K =
  (loopK (exL Try.prog E_spec_l02Finite (cl (cl (cr (cl (cr (bodyC Try.f53)))))) 9 4 [(0, 0)]) [.slice list_a list_n list_e, ud, ud, .int .i64 0, ud, ud, ud, ud, ud, ud, ud, ud, ud, ud, ud, ud] H (blockQ 0 (seqQ (exL Try.prog E_spec_l02Finite (cr (cr (bodyC Try.f53))) 4 4 []) (retK Try.prog Try.f53 K)))) := by kernel_rfl
abbrev spec_l02Finite_P1 (list_a : Option Addr) (list_e : Nat) (list_n : Nat) (i : Int)  : List Value := [.slice list_a list_n list_e, ud, ud, .int .i64 i, ud, ud, ud, ud, ud, ud, ud, ud, ud, ud, ud, ud]
theorem spec_l02Finite_r1 (list_a : Option Addr) (list_e : Nat) (list_n : Nat) (i : Int)  (H : AHeap) (R : Post) : exL Try.prog E_spec_l02Finite (cl (cl (cr (cl (cr (bodyC Try.f53)))))) 9 4 [(0, 0)] (spec_l02Finite_P1 list_a list_e list_n i) H R =
  (Br (decide ((i : Int) < (list_n : Int))) ((0 : Int) ≤ i ∧ i < (list_n : Int) ∧ ∃ b1 f1, (list_a : Option Addr) = some ⟨b1, f1, none⟩ ∧ ∃ x1 : Nat,  rdC H b1 (f1 + (i : Int).toNat * 1) = some (.float .f32 x1) ∧ T_spec_l01Finite x1 H fun (r1 : Bool) (H1 : AHeap) => Br (!r1) (R .ret [ud, ud, .bool false, ud, ud, ud, ud, ud, ud, ud, ud, ud, ud, ud, ud, ud] H1) (R .normal [.slice list_a list_n list_e, ud, ud, .int .i64 (IntKind.wrap .i64 (i + 1)), ud, ud, ud, ud, ud, ud, ud, ud, ud, ud, ud, ud] H1)) (R (.exit 0) [ud, ud, ud, ud, ud, ud, ud, ud, ud, ud, ud, ud, ud, ud, ud, ud] H)) := by kernel_rfl
def spec_l02Finite_I1 (list_a : Option Addr) (list_e : Nat) (list_n : Nat) (Inv : Nat → Int → AHeap → Prop) : Nat → List Value → AHeap → Prop := fun μ tm H => ∃ (i : Int), tm = (spec_l02Finite_P1 list_a list_e list_n i) ∧ Inv μ i H
theorem spec_l02Finite_L1 (list_a : Option Addr) (list_e : Nat) (list_n : Nat) {Q : Post} (Inv : Nat → Int → AHeap → Prop) (ν : Nat) (i : Int)  (H : AHeap) (h0 : Inv ν i H)
    (hs : ∀ (μ : Nat) (i : Int)  (H : AHeap), Inv μ i H → exL Try.prog E_spec_l02Finite (cl (cl (cr (cl (cr (bodyC Try.f53)))))) 9 4 [(0, 0)] (spec_l02Finite_P1 list_a list_e list_n i) H (loopQ (spec_l02Finite_I1 list_a list_e list_n Inv) μ Q)) : loopK (exL Try.prog E_spec_l02Finite (cl (cl (cr (cl (cr (bodyC Try.f53)))))) 9 4 [(0, 0)]) (spec_l02Finite_P1 list_a list_e list_n i) H Q :=
  ⟨spec_l02Finite_I1 list_a list_e list_n Inv, ν, ⟨i, rfl, h0⟩, fun μ tm H h => by obtain ⟨i, rfl, hI⟩ := h; exact hs μ i  H hI⟩
theorem spec_l02Finite_n1 {list_a : Option Addr} {list_e : Nat} {list_n : Nat} {Q : Post} {Inv : Nat → Int → AHeap → Prop} {μ : Nat} (μ' : Nat) {i : Int}  {H : AHeap} (hm : μ' < μ) (hI : Inv μ' i H) : loopQ (spec_l02Finite_I1 list_a list_e list_n Inv) μ Q .normal (spec_l02Finite_P1 list_a list_e list_n i) H := ⟨μ', hm, i, rfl, hI⟩
theorem spec_l02Finite_x1_0  (H : AHeap) (K : Value → AHeap → Prop)  {I : Nat → List Value → AHeap → Prop} {μ : Nat} : loopQ I μ (blockQ 0 (seqQ (exL Try.prog E_spec_l02Finite (cr (cr (bodyC Try.f53))) 4 4 []) (retK Try.prog Try.f53 K))) (.exit 0) [ud, ud, ud, ud, ud, ud, ud, ud, ud, ud, ud, ud, ud, ud, ud, ud] H =
  (K (.bool true) H) := by kernel_rfl
theorem spec_l02Finite_x1_ret (t2 : Bool) (H : AHeap) (K : Value → AHeap → Prop)  {I : Nat → List Value → AHeap → Prop} {μ : Nat} : loopQ I μ (blockQ 0 (seqQ (exL Try.prog E_spec_l02Finite (cr (cr (bodyC Try.f53))) 4 4 []) (retK Try.prog Try.f53 K))) .ret [ud, ud, .bool t2, ud, ud, ud, ud, ud, ud, ud, ud, ud, ud, ud, ud, ud] H =
  (K (.bool t2) H) := by kernel_rfl
theorem E_spec_l02Finite_ok : ∀ g, FnOk Try.prog g (E_spec_l02Finite g) := FnOk.envOf (by
  intro x hx
  simp only [List.mem_cons, List.not_mem_nil, or_false] at hx
  subst hx; exact spec_l01Finite_ok)
set_option maxHeartbeats 1000000 in
theorem spec_l02Finite_main (list_a : Option Addr) (list_n : Nat) (list_e : Nat) (H : AHeap) (K : Value → AHeap → Prop) (h : T_spec_l02Finite list_a list_n list_e H fun (r1 : Bool) (H' : AHeap) => K (.bool r1) H') : bodyL Try.prog E_spec_l02Finite Try.f53 [.slice list_a list_n list_e] H K := by
  rw [spec_l02Finite_vc]
  obtain ⟨l_list, i_list, bd_9, hk⟩ := h
  obtain rfl := i_list.eqn
  have e : (p_spec_l02Finite l_list) = _ := rfl
  have e := e.trans (p_spec_l02Finite_eq l_list)
  have g0 := Grow.refl H
  refine spec_l02Finite_L1 _ _ _ (fun (μ : Nat) (i : Int) (H_1 : AHeap) => ∃ (t2 : Bool), H = H_1 ∧ (0 : Int) ≤ i ∧ i ≤ (l_list.length : Int) ∧ (l_list.length : Int) - i ≤ (μ : Int) ∧ p_spec_l02Finite l_list = p_spec_l02Finite_l1 l_list (μ + 1) t2 i) (Int.toNat ((l_list.length : Int) - (0 : Int))) _ H ?_ ?_
  · exact ⟨_, rfl, o6, o6, o3, e⟩
  · intro μ i  H_1 hI
    obtain ⟨t2, rfl, v_1, v_2, hμ, e⟩ := hI
    rw [spec_l02Finite_r1]
    have e := e.trans (p_spec_l02Finite_l1_s l_list μ t2 i)
    have l_3 := g0.1
    refine Br.intro (fun c_4 => ?_) (fun c_4 => ?_)
    · have e := e.trans (cond_t c_4)
      have c_4' := of_decide_eq_true c_4
      obtain ⟨b_5, f_6, q_7⟩ := ((i_list.grow g0)).pos o0
      refine ⟨by omega, by omega, b_5, f_6, q_7, ?_⟩
      refine ⟨((l_list).getD (i : Int).toNat 0), (i_list).rd g0 q_7 o3 _, ?_⟩
      refine T_spec_l01Finite_i ?_
      refine Br.intro (fun c_8 => ?_) (fun c_8 => ?_)
      · have e := e.trans (cond_t c_8)
        have c_8n := nf_of_t c_8
        rw [spec_l02Finite_x1_ret]
        rw [e] at hk
        exact hk
      · have e := e.trans (cond_f c_8)
        have c_8n := nt_of_f c_8
        rw [show IntKind.wrap .i64 (i + 1) = (i + 1) from wrap64 o3 o3]
        refine spec_l02Finite_n1 (μ - 1) o12 ⟨_, rfl, o1, o1, o12, (by rw [show μ - 1 + 1 = μ from by first | omega]; exact e)⟩
    · have e := e.trans (cond_f c_4)
      have c_4' := of_decide_eq_false c_4
      rw [spec_l02Finite_x1_0]
      rw [e] at hk
      exact hk
theorem spec_l02Finite_ok : FnOk Try.prog 53 S_spec_l02Finite := by
  refine FnOk.body mix_ok E_spec_l02Finite_ok Try.func53 rfl (by kernel_rfl) (by kernel_rfl) ?_ ?_ ?_ ?_ ?_
  · intro args H K K' h hk
    simp only [S_spec_l02Finite] at *
    unfold F_spec_l02Finite at *
    split at hk
    · obtain ⟨l_list, i_list, bd_9, k⟩ := hk
      exact ⟨l_list, i_list, bd_9, h _ _ k⟩
    · exact hk.elim
  · intro _ args H K hk
    simp only [S_spec_l02Finite] at *
    unfold F_spec_l02Finite at *
    split at hk
    · obtain ⟨l_list, i_list, bd_9, k⟩ := hk
      exact ⟨_, k, fun K' k' => ⟨l_list, i_list, bd_9, k'⟩⟩
    · exact hk.elim
  · intro args H K hk
    simp only [S_spec_l02Finite] at *
    unfold F_spec_l02Finite at *
    split at hk
    · obtain ⟨l_list, i_list, bd_9, k⟩ := hk
      exact ⟨_, _, k⟩
    · exact hk.elim
  · intro hq; cases hq
  · have mm := @spec_l02Finite_main
    have ml := fun (args : List Value) (H : AHeap) (K : Value → AHeap → Prop) => bodyL_body (P := Try.prog) (env := E_spec_l02Finite ) (fn := Try.f53) (args := args) (H := H) (K := K) E_spec_l02Finite_ok 
    revert mm ml
    generalize bodyK Try.prog E_spec_l02Finite Try.f53 = Q
    generalize bodyL Try.prog E_spec_l02Finite Try.f53 = QL
    intro mm ml args H K hk
    simp only [S_spec_l02Finite] at *
    unfold F_spec_l02Finite at *
    split at hk
    · exact ml _ H K (mm _ _ _ H K hk)
    · exact hk.elim

def p_spec_l03Long (l_list : List Nat) : Bool := (bif decide ((1 : Int) ≤ (l_list.length : Int)) then (bif decide (((l_list.length : Int) : Int) ≤ 128) then (p_spec_l02Finite l_list) else false) else false)
def p_spec_l03Long_eq := @p_spec_l03Long.eq_1
def T_spec_l03Long (list_a : Option Addr) (list_n : Nat) (list_e : Nat) (H : AHeap) (K : Bool → AHeap → Prop) : Prop := ∃ (l_list : List Nat), IsL fF H list_a list_n l_list ∧ l_list.length < 1073741824 ∧ K (p_spec_l03Long l_list) H
theorem T_spec_l03Long_i {list_a : Option Addr} {list_n : Nat} {list_e : Nat} {H : AHeap} {K : Bool → AHeap → Prop} (h : ∃ (l_list : List Nat), IsL fF H list_a list_n l_list ∧ l_list.length < 1073741824 ∧ K (p_spec_l03Long l_list) H) : T_spec_l03Long list_a list_n list_e H K := h
theorem spec_l03Long_t {l : List Nat} (h : p_spec_l03Long l = true) : 1 ≤ (l.length : Int) ∧ (l.length : Int) ≤ 128 := by
  rw [p_spec_l03Long_eq] at h
  by_cases h1 : (1 : Int) ≤ (l.length : Int)
  · rw [decide_eq_true h1, cond_true] at h
    by_cases h2 : (l.length : Int) ≤ 128
    · exact ⟨h1, h2⟩
    · rw [decide_eq_false h2] at h; cases h
  · rw [decide_eq_false h1] at h; cases h
/-! spec_l03Long: function 72 -/
def E_spec_l03Long : Env := envOf [(53, S_spec_l02Finite)]
def F_spec_l03Long : List Value → AHeap → (Value → AHeap → Prop) → Prop
  | [.slice list_a list_n list_e], H, K => T_spec_l03Long list_a list_n list_e H fun (r1 : Bool) (H' : AHeap) => K (.bool r1) H'
  | _, _, _ => False
def S_spec_l03Long : FSpec := { F := F_spec_l03Long, quiet := true, tame := false }
theorem spec_l03Long_vc (list_a : Option Addr) (list_n : Nat) (list_e : Nat) (H : AHeap) (K : Value → AHeap → Prop) : bodyL Try.prog E_spec_l03Long Try.f72 [.slice list_a list_n list_e] H K =
  (Br (decide ((1 : Int) ≤ (list_n : Int))) (Br (decide (((list_n : Int) : Int) ≤ 128)) (T_spec_l02Finite list_a list_n list_e H fun (r1 : Bool) (H1 : AHeap) => K (.bool r1) H1) (K (.bool false) H)) (K (.bool false) H)) := by kernel_rfl
theorem E_spec_l03Long_ok : ∀ g, FnOk Try.prog g (E_spec_l03Long g) := FnOk.envOf (by
  intro x hx
  simp only [List.mem_cons, List.not_mem_nil, or_false] at hx
  subst hx; exact spec_l02Finite_ok)
set_option maxHeartbeats 1000000 in
theorem spec_l03Long_main (list_a : Option Addr) (list_n : Nat) (list_e : Nat) (H : AHeap) (K : Value → AHeap → Prop) (h : T_spec_l03Long list_a list_n list_e H fun (r1 : Bool) (H' : AHeap) => K (.bool r1) H') : bodyL Try.prog E_spec_l03Long Try.f72 [.slice list_a list_n list_e] H K := by
  rw [spec_l03Long_vc]
  obtain ⟨l_list, i_list, bd_3, hk⟩ := h
  obtain rfl := i_list.eqn
  have e : (p_spec_l03Long l_list) = _ := rfl
  have e := e.trans (p_spec_l03Long_eq l_list)
  have g0 := Grow.refl H
  refine Br.intro (fun c_1 => ?_) (fun c_1 => ?_)
  · have e := e.trans (cond_t c_1)
    have c_1' := of_decide_eq_true c_1
    refine Br.intro (fun c_2 => ?_) (fun c_2 => ?_)
    · have e := e.trans (cond_t c_2)
      have c_2' := of_decide_eq_true c_2
      refine T_spec_l02Finite_i ⟨_, (i_list.grow g0), o0, ?_⟩
      rw [e] at hk
      exact hk
    · have e := e.trans (cond_f c_2)
      have c_2' := of_decide_eq_false c_2
      rw [e] at hk
      exact hk
  · have e := e.trans (cond_f c_1)
    have c_1' := of_decide_eq_false c_1
    rw [e] at hk
    exact hk
theorem spec_l03Long_ok : FnOk Try.prog 72 S_spec_l03Long := by
  refine FnOk.body mix_ok E_spec_l03Long_ok Try.func72 rfl (by kernel_rfl) (by kernel_rfl) ?_ ?_ ?_ ?_ ?_
  · intro args H K K' h hk
    simp only [S_spec_l03Long] at *
    unfold F_spec_l03Long at *
    split at hk
    · obtain ⟨l_list, i_list, bd_3, k⟩ := hk
      exact ⟨l_list, i_list, bd_3, h _ _ k⟩
    · exact hk.elim
  · intro _ args H K hk
    simp only [S_spec_l03Long] at *
    unfold F_spec_l03Long at *
    split at hk
    · obtain ⟨l_list, i_list, bd_3, k⟩ := hk
      exact ⟨_, k, fun K' k' => ⟨l_list, i_list, bd_3, k'⟩⟩
    · exact hk.elim
  · intro args H K hk
    simp only [S_spec_l03Long] at *
    unfold F_spec_l03Long at *
    split at hk
    · obtain ⟨l_list, i_list, bd_3, k⟩ := hk
      exact ⟨_, _, k⟩
    · exact hk.elim
  · intro hq; cases hq
  · have mm := @spec_l03Long_main
    have ml := fun (args : List Value) (H : AHeap) (K : Value → AHeap → Prop) => bodyL_body (P := Try.prog) (env := E_spec_l03Long ) (fn := Try.f72) (args := args) (H := H) (K := K) E_spec_l03Long_ok 
    revert mm ml
    generalize bodyK Try.prog E_spec_l03Long Try.f72 = Q
    generalize bodyL Try.prog E_spec_l03Long Try.f72 = QL
    intro mm ml args H K hk
    simp only [S_spec_l03Long] at *
    unfold F_spec_l03Long at *
    split at hk
    · exact ml _ H K (mm _ _ _ H K hk)
    · exact hk.elim
def p_spec_l03Scale (scale : Nat) : Bool := (bif fle .f32 1056964608 scale then fle .f32 scale 1098907648 else false)
def p_spec_l03Scale_eq := @p_spec_l03Scale.eq_1
def T_spec_l03Scale (scale : Nat) (H : AHeap) (K : Bool → AHeap → Prop) : Prop := K (p_spec_l03Scale scale) H

theorem T_spec_l03Scale_i {scale : Nat} {H : AHeap} {K : Bool → AHeap → Prop} (h : K (p_spec_l03Scale scale) H) : T_spec_l03Scale scale H K := h
/-! spec_l03Scale: function 83 -/
def E_spec_l03Scale : Env := envOf []
def F_spec_l03Scale : List Value → AHeap → (Value → AHeap → Prop) → Prop
  | [.float .f32 scale], H, K => T_spec_l03Scale scale H fun (r1 : Bool) (H' : AHeap) => K (.bool r1) H'
  | _, _, _ => False
def S_spec_l03Scale : FSpec := { F := F_spec_l03Scale, quiet := true, tame := false }
theorem spec_l03Scale_vc (scale : Nat) (H : AHeap) (K : Value → AHeap → Prop) : bodyL Try.prog E_spec_l03Scale Try.f83 [.float .f32 scale] H K =
  (Br (fle .f32 1056964608 scale) (K (.bool (fle .f32 scale 1098907648)) H) (K (.bool false) H)) := by kernel_rfl
theorem E_spec_l03Scale_ok : ∀ g, FnOk Try.prog g (E_spec_l03Scale g) := FnOk.envOf (by
  intro x hx; cases hx)
set_option maxHeartbeats 1000000 in
theorem spec_l03Scale_main (scale : Nat) (H : AHeap) (K : Value → AHeap → Prop) (h : T_spec_l03Scale scale H fun (r1 : Bool) (H' : AHeap) => K (.bool r1) H') : bodyL Try.prog E_spec_l03Scale Try.f83 [.float .f32 scale] H K := by
  rw [spec_l03Scale_vc]
  unfold T_spec_l03Scale p_spec_l03Scale at h
  repeat' (first | exact h | (exfalso; simp_all; done) | (refine ⟨by decide, ?_⟩) | (refine Br.intro (fun hb => ?_) (fun hb => ?_) <;> (try simp only [hb, cond_true, cond_false, Bool.not_true, Bool.not_false] at h)))
theorem spec_l03Scale_ok : FnOk Try.prog 83 S_spec_l03Scale := by
  refine FnOk.body mix_ok E_spec_l03Scale_ok Try.func83 rfl (by kernel_rfl) (by kernel_rfl) ?_ ?_ ?_ ?_ ?_
  · intro args H K K' h hk
    simp only [S_spec_l03Scale] at *
    unfold F_spec_l03Scale at *
    split at hk
    · have k := hk
      exact h _ _ k
    · exact hk.elim
  · intro _ args H K hk
    simp only [S_spec_l03Scale] at *
    unfold F_spec_l03Scale at *
    split at hk
    · have k := hk
      exact ⟨_, k, fun K' k' => k'⟩
    · exact hk.elim
  · intro args H K hk
    simp only [S_spec_l03Scale] at *
    unfold F_spec_l03Scale at *
    split at hk
    · have k := hk
      exact ⟨_, _, k⟩
    · exact hk.elim
  · intro hq; cases hq
  · have mm := @spec_l03Scale_main
    have ml := fun (args : List Value) (H : AHeap) (K : Value → AHeap → Prop) => bodyL_body (P := Try.prog) (env := E_spec_l03Scale ) (fn := Try.f83) (args := args) (H := H) (K := K) E_spec_l03Scale_ok 
    revert mm ml
    generalize bodyK Try.prog E_spec_l03Scale Try.f83 = Q
    generalize bodyL Try.prog E_spec_l03Scale Try.f83 = QL
    intro mm ml args H K hk
    simp only [S_spec_l03Scale] at *
    unfold F_spec_l03Scale at *
    split at hk
    · exact ml _ H K (mm _ H K hk)
    · exact hk.elim

def p_spec_l05Scales_l1 (l_scales : List Nat) : Nat → Bool → Int → Bool
  | 0, _, _ => false
  | μ + 1, t2, t14 => (bif decide ((t14 : Int) < (l_scales.length : Int)) then (bif !((p_spec_l03Scale (((l_scales).getD (t14 : Int).toNat 0)))) then false else (p_spec_l05Scales_l1 l_scales μ t2 (t14 + 1))) else true)
def p_spec_l05Scales_l1_s := fun l_scales μ t2 t14 => @p_spec_l05Scales_l1.eq_2 l_scales t2 t14 μ
def p_spec_l05Scales (l_scales : List Nat) : Bool := (bif decide (((l_scales.length : Int) : Int) < 1) then false else (bif decide ((12 : Int) < (l_scales.length : Int)) then false else (p_spec_l05Scales_l1 l_scales (Int.toNat ((l_scales.length : Int) - (0 : Int)) + 1) false (0 : Int))))
def p_spec_l05Scales_eq := @p_spec_l05Scales.eq_1
def T_spec_l05Scales (scales_a : Option Addr) (scales_n : Nat) (scales_e : Nat) (H : AHeap) (K : Bool → AHeap → Prop) : Prop := ∃ (l_scales : List Nat), IsL fF H scales_a scales_n l_scales ∧ l_scales.length < 1073741824 ∧ K (p_spec_l05Scales l_scales) H
theorem T_spec_l05Scales_i {scales_a : Option Addr} {scales_n : Nat} {scales_e : Nat} {H : AHeap} {K : Bool → AHeap → Prop} (h : ∃ (l_scales : List Nat), IsL fF H scales_a scales_n l_scales ∧ l_scales.length < 1073741824 ∧ K (p_spec_l05Scales l_scales) H) : T_spec_l05Scales scales_a scales_n scales_e H K := h
theorem scales_go (l : List Nat) (t2 : Bool) : ∀ (μ : Nat) (i : Int), 0 ≤ i → p_spec_l05Scales_l1 l μ t2 i = true → ∀ y ∈ l.drop i.toNat, okS y := by
  intro μ
  induction μ with
  | zero => intro i h0 h; cases h
  | succ μ ih =>
    intro i h0 h
    rw [p_spec_l05Scales_l1_s] at h
    by_cases hi : i < (l.length : Int)
    · rw [decide_eq_true hi, cond_true] at h
      have hi' : i.toNat < l.length := by omega
      rw [List.drop_eq_getElem_cons hi']
      rw [List.getD_eq_getElem?_getD, List.getElem?_eq_getElem hi'] at h
      cases hc : p_spec_l03Scale l[i.toNat]
      · rw [show (some l[i.toNat]).getD 0 = l[i.toNat] from rfl, hc] at h; cases h
      · rw [show (some l[i.toNat]).getD 0 = l[i.toNat] from rfl, hc] at h
        have := ih (i + 1) o3 h
        rw [show (i + 1).toNat = i.toNat + 1 by omega] at this
        intro y hy
        rcases List.mem_cons.1 hy with rfl | hy
        · exact hc
        · exact this y hy
    · rw [List.drop_eq_nil_of_le o3]; intro y hy; cases hy
theorem o23 {P : Prop} (h : P := by decide) : P := h
theorem scales_all {l : List Nat} (h : p_spec_l05Scales l = true) : (∀ y ∈ l, okS y) ∧ 1 ≤ l.length ∧ l.length ≤ 12 := by
  rw [p_spec_l05Scales_eq] at h
  by_cases h1 : (l.length : Int) < 1
  · rw [decide_eq_true h1] at h; cases h
  · by_cases h2 : (12 : Int) < (l.length : Int)
    · rw [decide_eq_false h1, decide_eq_true h2] at h; cases h
    · rw [decide_eq_false h1, decide_eq_false h2] at h
      have := scales_go l _ _ 0 o23 h
      exact ⟨this, by omega, by omega⟩
/-! spec_l05Scales: function 78 -/
def E_spec_l05Scales : Env := envOf [(83, S_spec_l03Scale)]
def F_spec_l05Scales : List Value → AHeap → (Value → AHeap → Prop) → Prop
  | [.slice scales_a scales_n scales_e], H, K => T_spec_l05Scales scales_a scales_n scales_e H fun (r1 : Bool) (H' : AHeap) => K (.bool r1) H'
  | _, _, _ => False
def S_spec_l05Scales : FSpec := { F := F_spec_l05Scales, quiet := true, tame := false }
theorem spec_l05Scales_vc (scales_a : Option Addr) (scales_n : Nat) (scales_e : Nat) (H : AHeap) (K : Value → AHeap → Prop) : bodyL Try.prog E_spec_l05Scales Try.f78 [.slice scales_a scales_n scales_e] H K =
  (Br (decide (((scales_n : Int) : Int) < 1)) (K (.bool false) H) (Br (decide ((12 : Int) < (scales_n : Int))) (K (.bool false) H) (loopK (exL Try.prog E_spec_l05Scales (cl (cl (cr (cl (cr (cr (bodyC Try.f78))))))) 24577 4 [(0, 0)]) [.slice scales_a scales_n scales_e, ud, ud, ud, ud, ud, ud, ud, ud, ud, ud, ud, ud, .int .i64 (scales_n : Int), .int .i64 0, ud, ud, ud, ud, ud, ud, ud, ud, ud] H (blockQ 0 (seqQ (exL Try.prog E_spec_l05Scales (cr (cr (cr (bodyC Try.f78)))) 4 4 []) (retK Try.prog Try.f78 K)))))) := by kernel_rfl
abbrev spec_l05Scales_P1 (scales_a : Option Addr) (scales_e : Nat) (scales_n : Nat) (t14 : Int)  : List Value := [.slice scales_a scales_n scales_e, ud, ud, ud, ud, ud, ud, ud, ud, ud, ud, ud, ud, .int .i64 (scales_n : Int), .int .i64 t14, ud, ud, ud, ud, ud, ud, ud, ud, ud]
theorem spec_l05Scales_r1 (scales_a : Option Addr) (scales_e : Nat) (scales_n : Nat) (t14 : Int)  (H : AHeap) (R : Post) : exL Try.prog E_spec_l05Scales (cl (cl (cr (cl (cr (cr (bodyC Try.f78))))))) 24577 4 [(0, 0)] (spec_l05Scales_P1 scales_a scales_e scales_n t14) H R =
  (Br (decide ((t14 : Int) < (scales_n : Int))) ((0 : Int) ≤ t14 ∧ t14 < (scales_n : Int) ∧ ∃ b1 f1, (scales_a : Option Addr) = some ⟨b1, f1, none⟩ ∧ ∃ x1 : Nat,  rdC H b1 (f1 + (t14 : Int).toNat * 1) = some (.float .f32 x1) ∧ T_spec_l03Scale x1 H fun (r1 : Bool) (H1 : AHeap) => Br (!r1) (R .ret [ud, ud, .bool false, ud, ud, ud, ud, ud, ud, ud, ud, ud, ud, ud, ud, ud, ud, ud, ud, ud, ud, ud, ud, ud] H1) (R .normal [.slice scales_a scales_n scales_e, ud, ud, ud, ud, ud, ud, ud, ud, ud, ud, ud, ud, .int .i64 (scales_n : Int), .int .i64 (IntKind.wrap .i64 (t14 + 1)), ud, ud, ud, ud, ud, ud, ud, ud, ud] H1)) (R (.exit 0) [ud, ud, ud, ud, ud, ud, ud, ud, ud, ud, ud, ud, ud, ud, ud, ud, ud, ud, ud, ud, ud, ud, ud, ud] H)) := by kernel_rfl
def spec_l05Scales_I1 (scales_a : Option Addr) (scales_e : Nat) (scales_n : Nat) (Inv : Nat → Int → AHeap → Prop) : Nat → List Value → AHeap → Prop := fun μ tm H => ∃ (t14 : Int), tm = (spec_l05Scales_P1 scales_a scales_e scales_n t14) ∧ Inv μ t14 H
theorem spec_l05Scales_L1 (scales_a : Option Addr) (scales_e : Nat) (scales_n : Nat) {Q : Post} (Inv : Nat → Int → AHeap → Prop) (ν : Nat) (t14 : Int)  (H : AHeap) (h0 : Inv ν t14 H)
    (hs : ∀ (μ : Nat) (t14 : Int)  (H : AHeap), Inv μ t14 H → exL Try.prog E_spec_l05Scales (cl (cl (cr (cl (cr (cr (bodyC Try.f78))))))) 24577 4 [(0, 0)] (spec_l05Scales_P1 scales_a scales_e scales_n t14) H (loopQ (spec_l05Scales_I1 scales_a scales_e scales_n Inv) μ Q)) : loopK (exL Try.prog E_spec_l05Scales (cl (cl (cr (cl (cr (cr (bodyC Try.f78))))))) 24577 4 [(0, 0)]) (spec_l05Scales_P1 scales_a scales_e scales_n t14) H Q :=
  ⟨spec_l05Scales_I1 scales_a scales_e scales_n Inv, ν, ⟨t14, rfl, h0⟩, fun μ tm H h => by obtain ⟨t14, rfl, hI⟩ := h; exact hs μ t14  H hI⟩
theorem spec_l05Scales_n1 {scales_a : Option Addr} {scales_e : Nat} {scales_n : Nat} {Q : Post} {Inv : Nat → Int → AHeap → Prop} {μ : Nat} (μ' : Nat) {t14 : Int}  {H : AHeap} (hm : μ' < μ) (hI : Inv μ' t14 H) : loopQ (spec_l05Scales_I1 scales_a scales_e scales_n Inv) μ Q .normal (spec_l05Scales_P1 scales_a scales_e scales_n t14) H := ⟨μ', hm, t14, rfl, hI⟩
theorem spec_l05Scales_x1_0  (H : AHeap) (K : Value → AHeap → Prop)  {I : Nat → List Value → AHeap → Prop} {μ : Nat} : loopQ I μ (blockQ 0 (seqQ (exL Try.prog E_spec_l05Scales (cr (cr (cr (bodyC Try.f78)))) 4 4 []) (retK Try.prog Try.f78 K))) (.exit 0) [ud, ud, ud, ud, ud, ud, ud, ud, ud, ud, ud, ud, ud, ud, ud, ud, ud, ud, ud, ud, ud, ud, ud, ud] H =
  (K (.bool true) H) := by kernel_rfl
theorem spec_l05Scales_x1_ret (t2 : Bool) (H : AHeap) (K : Value → AHeap → Prop)  {I : Nat → List Value → AHeap → Prop} {μ : Nat} : loopQ I μ (blockQ 0 (seqQ (exL Try.prog E_spec_l05Scales (cr (cr (cr (bodyC Try.f78)))) 4 4 []) (retK Try.prog Try.f78 K))) .ret [ud, ud, .bool t2, ud, ud, ud, ud, ud, ud, ud, ud, ud, ud, ud, ud, ud, ud, ud, ud, ud, ud, ud, ud, ud] H =
  (K (.bool t2) H) := by kernel_rfl
theorem E_spec_l05Scales_ok : ∀ g, FnOk Try.prog g (E_spec_l05Scales g) := FnOk.envOf (by
  intro x hx
  simp only [List.mem_cons, List.not_mem_nil, or_false] at hx
  subst hx; exact spec_l03Scale_ok)
set_option maxHeartbeats 1000000 in
theorem spec_l05Scales_main (scales_a : Option Addr) (scales_n : Nat) (scales_e : Nat) (H : AHeap) (K : Value → AHeap → Prop) (h : T_spec_l05Scales scales_a scales_n scales_e H fun (r1 : Bool) (H' : AHeap) => K (.bool r1) H') : bodyL Try.prog E_spec_l05Scales Try.f78 [.slice scales_a scales_n scales_e] H K := by
  rw [spec_l05Scales_vc]
  obtain ⟨l_scales, i_scales, bd_11, hk⟩ := h
  obtain rfl := i_scales.eqn
  have e : (p_spec_l05Scales l_scales) = _ := rfl
  have e := e.trans (p_spec_l05Scales_eq l_scales)
  have g0 := Grow.refl H
  refine Br.intro (fun c_1 => ?_) (fun c_1 => ?_)
  · have e := e.trans (cond_t c_1)
    have c_1' := of_decide_eq_true c_1
    rw [e] at hk
    exact hk
  · have e := e.trans (cond_f c_1)
    have c_1' := of_decide_eq_false c_1
    refine Br.intro (fun c_2 => ?_) (fun c_2 => ?_)
    · have e := e.trans (cond_t c_2)
      have c_2' := of_decide_eq_true c_2
      rw [e] at hk
      exact hk
    · have e := e.trans (cond_f c_2)
      have c_2' := of_decide_eq_false c_2
      refine spec_l05Scales_L1 _ _ _ (fun (μ : Nat) (t14 : Int) (H_1 : AHeap) => ∃ (t2 : Bool), H = H_1 ∧ (0 : Int) ≤ t14 ∧ t14 ≤ (l_scales.length : Int) ∧ (l_scales.length : Int) - t14 ≤ (μ : Int) ∧ p_spec_l05Scales l_scales = p_spec_l05Scales_l1 l_scales (μ + 1) t2 t14) (Int.toNat ((l_scales.length : Int) - (0 : Int))) _ H ?_ ?_
      · exact ⟨_, rfl, o6, o6, o3, e⟩
      · intro μ t14  H_1 hI
        obtain ⟨t2, rfl, v_3, v_4, hμ, e⟩ := hI
        rw [spec_l05Scales_r1]
        have e := e.trans (p_spec_l05Scales_l1_s l_scales μ t2 t14)
        have l_5 := g0.1
        refine Br.intro (fun c_6 => ?_) (fun c_6 => ?_)
        · have e := e.trans (cond_t c_6)
          have c_6' := of_decide_eq_true c_6
          obtain ⟨b_7, f_8, q_9⟩ := ((i_scales.grow g0)).pos o0
          refine ⟨by omega, by omega, b_7, f_8, q_9, ?_⟩
          refine ⟨((l_scales).getD (t14 : Int).toNat 0), (i_scales).rd g0 q_9 o3 _, ?_⟩
          refine T_spec_l03Scale_i ?_
          refine Br.intro (fun c_10 => ?_) (fun c_10 => ?_)
          · have e := e.trans (cond_t c_10)
            have c_10n := nf_of_t c_10
            rw [spec_l05Scales_x1_ret]
            rw [e] at hk
            exact hk
          · have e := e.trans (cond_f c_10)
            have c_10n := nt_of_f c_10
            rw [show IntKind.wrap .i64 (t14 + 1) = (t14 + 1) from wrap64 o3 o3]
            refine spec_l05Scales_n1 (μ - 1) o12 ⟨_, rfl, o1, o1, o12, (by rw [show μ - 1 + 1 = μ from by first | omega]; exact e)⟩
        · have e := e.trans (cond_f c_6)
          have c_6' := of_decide_eq_false c_6
          rw [spec_l05Scales_x1_0]
          rw [e] at hk
          exact hk
theorem spec_l05Scales_ok : FnOk Try.prog 78 S_spec_l05Scales := by
  refine FnOk.body mix_ok E_spec_l05Scales_ok Try.func78 rfl (by kernel_rfl) (by kernel_rfl) ?_ ?_ ?_ ?_ ?_
  · intro args H K K' h hk
    simp only [S_spec_l05Scales] at *
    unfold F_spec_l05Scales at *
    split at hk
    · obtain ⟨l_scales, i_scales, bd_11, k⟩ := hk
      exact ⟨l_scales, i_scales, bd_11, h _ _ k⟩
    · exact hk.elim
  · intro _ args H K hk
    simp only [S_spec_l05Scales] at *
    unfold F_spec_l05Scales at *
    split at hk
    · obtain ⟨l_scales, i_scales, bd_11, k⟩ := hk
      exact ⟨_, k, fun K' k' => ⟨l_scales, i_scales, bd_11, k'⟩⟩
    · exact hk.elim
  · intro args H K hk
    simp only [S_spec_l05Scales] at *
    unfold F_spec_l05Scales at *
    split at hk
    · obtain ⟨l_scales, i_scales, bd_11, k⟩ := hk
      exact ⟨_, _, k⟩
    · exact hk.elim
  · intro hq; cases hq
  · have mm := @spec_l05Scales_main
    have ml := fun (args : List Value) (H : AHeap) (K : Value → AHeap → Prop) => bodyL_body (P := Try.prog) (env := E_spec_l05Scales ) (fn := Try.f78) (args := args) (H := H) (K := K) E_spec_l05Scales_ok 
    revert mm ml
    generalize bodyK Try.prog E_spec_l05Scales Try.f78 = Q
    generalize bodyL Try.prog E_spec_l05Scales Try.f78 = QL
    intro mm ml args H K hk
    simp only [S_spec_l05Scales] at *
    unfold F_spec_l05Scales at *
    split at hk
    · exact ml _ H K (mm _ _ _ H K hk)
    · exact hk.elim
def p_spec_l00In (n : Int) (low : Int) (high : Int) : Bool := (bif decide ((low : Int) ≤ n) then decide ((n : Int) ≤ high) else false)
def p_spec_l00In_eq := @p_spec_l00In.eq_1
def T_spec_l00In (n : Int) (low : Int) (high : Int) (H : AHeap) (K : Bool → AHeap → Prop) : Prop := K (p_spec_l00In n low high) H
theorem spec_l00In_t {n a b : Int} (h : p_spec_l00In n a b = true) : a ≤ n ∧ n ≤ b := by
  unfold p_spec_l00In at h
  by_cases h1 : a ≤ n
  · rw [decide_eq_true h1, cond_true] at h; exact ⟨h1, of_decide_eq_true h⟩
  · rw [decide_eq_false h1] at h; cases h
theorem T_spec_l00In_i {n : Int} {low : Int} {high : Int} {H : AHeap} {K : Bool → AHeap → Prop} (h : K (p_spec_l00In n low high) H) : T_spec_l00In n low high H K := h
/-! spec_l00In: function 50 -/
def E_spec_l00In : Env := envOf []
def F_spec_l00In : List Value → AHeap → (Value → AHeap → Prop) → Prop
  | [.int .i64 n, .int .i64 low, .int .i64 high], H, K => T_spec_l00In n low high H fun (r1 : Bool) (H' : AHeap) => K (.bool r1) H'
  | _, _, _ => False
def S_spec_l00In : FSpec := { F := F_spec_l00In, quiet := true, tame := false }
theorem spec_l00In_vc (n : Int) (low : Int) (high : Int) (H : AHeap) (K : Value → AHeap → Prop) : bodyL Try.prog E_spec_l00In Try.f50 [.int .i64 n, .int .i64 low, .int .i64 high] H K =
  (Br (decide ((low : Int) ≤ n)) (K (.bool (decide ((n : Int) ≤ high))) H) (K (.bool false) H)) := by kernel_rfl
theorem E_spec_l00In_ok : ∀ g, FnOk Try.prog g (E_spec_l00In g) := FnOk.envOf (by
  intro x hx; cases hx)
set_option maxHeartbeats 1000000 in
theorem spec_l00In_main (n : Int) (low : Int) (high : Int) (H : AHeap) (K : Value → AHeap → Prop) (h : T_spec_l00In n low high H fun (r1 : Bool) (H' : AHeap) => K (.bool r1) H') : bodyL Try.prog E_spec_l00In Try.f50 [.int .i64 n, .int .i64 low, .int .i64 high] H K := by
  rw [spec_l00In_vc]
  unfold T_spec_l00In p_spec_l00In at h
  repeat' (first | exact h | (exfalso; simp_all; done) | (refine ⟨by decide, ?_⟩) | (refine Br.intro (fun hb => ?_) (fun hb => ?_) <;> (try simp only [hb, cond_true, cond_false, Bool.not_true, Bool.not_false] at h)))
theorem spec_l00In_ok : FnOk Try.prog 50 S_spec_l00In := by
  refine FnOk.body mix_ok E_spec_l00In_ok Try.func50 rfl (by kernel_rfl) (by kernel_rfl) ?_ ?_ ?_ ?_ ?_
  · intro args H K K' h hk
    simp only [S_spec_l00In] at *
    unfold F_spec_l00In at *
    split at hk
    · have k := hk
      exact h _ _ k
    · exact hk.elim
  · intro _ args H K hk
    simp only [S_spec_l00In] at *
    unfold F_spec_l00In at *
    split at hk
    · have k := hk
      exact ⟨_, k, fun K' k' => k'⟩
    · exact hk.elim
  · intro args H K hk
    simp only [S_spec_l00In] at *
    unfold F_spec_l00In at *
    split at hk
    · have k := hk
      exact ⟨_, _, k⟩
    · exact hk.elim
  · intro hq; cases hq
  · have mm := @spec_l00In_main
    have ml := fun (args : List Value) (H : AHeap) (K : Value → AHeap → Prop) => bodyL_body (P := Try.prog) (env := E_spec_l00In ) (fn := Try.f50) (args := args) (H := H) (K := K) E_spec_l00In_ok 
    revert mm ml
    generalize bodyK Try.prog E_spec_l00In Try.f50 = Q
    generalize bodyL Try.prog E_spec_l00In Try.f50 = QL
    intro mm ml args H K hk
    simp only [S_spec_l00In] at *
    unfold F_spec_l00In at *
    split at hk
    · exact ml _ H K (mm _ _ _ H K hk)
    · exact hk.elim
def p_math_archCeil (x : Nat) : Nat := fint .up x
def T_math_archCeil (x : Nat) (H : AHeap) (K : Nat → AHeap → Prop) : Prop := K (p_math_archCeil x) H
theorem T_math_archCeil_i {x : Nat} {H : AHeap} {K : Nat → AHeap → Prop} (h : K (p_math_archCeil x) H) : T_math_archCeil x H K := h
def F_math_archCeil : List Value → AHeap → (Value → AHeap → Prop) → Prop
  | [.float .f64 x], H, K => T_math_archCeil x H fun r1 H' => K (.float .f64 r1) H'
  | _, _, _ => False
def S_math_archCeil : FSpec := { F := F_math_archCeil, quiet := true }
theorem math_archCeil_ok : FnOk Try.prog 151 S_math_archCeil := by
  refine FnOk.ext1 (f := p_math_archCeil) (e := Extern.MathFloor.toIntegral "math.archCeil" .up) rfl ?_ (fun x H K h => h) Try.func151 (by kernel_rfl) (by kernel_rfl) (by kernel_rfl) (by kernel_rfl) (fun b w => ext_int _ _ b w)
  intro args H K h
  simp only [S_math_archCeil] at h
  unfold F_math_archCeil at h
  split at h
  · exact ⟨_, rfl, h⟩
  · exact h.elim

def p_math_Ceil (x : Nat) : Nat := (p_math_archCeil x)
def p_math_Ceil_eq := @p_math_Ceil.eq_1
def T_math_Ceil (x : Nat) (H : AHeap) (K : Nat → AHeap → Prop) : Prop := K (p_math_Ceil x) H

theorem T_math_Ceil_i {x : Nat} {H : AHeap} {K : Nat → AHeap → Prop} (h : K (p_math_Ceil x) H) : T_math_Ceil x H K := h
/-! math_Ceil: function 108 -/
def E_math_Ceil : Env := envOf [(151, S_math_archCeil)]
def F_math_Ceil : List Value → AHeap → (Value → AHeap → Prop) → Prop
  | [.float .f64 x], H, K => T_math_Ceil x H fun (r1 : Nat) (H' : AHeap) => K (.float .f64 r1) H'
  | _, _, _ => False
def S_math_Ceil : FSpec := { F := F_math_Ceil, quiet := true, tame := false }
theorem math_Ceil_vc (x : Nat) (H : AHeap) (K : Value → AHeap → Prop) : bodyL Try.prog E_math_Ceil Try.f108 [.float .f64 x] H K =
  (T_math_archCeil x H fun (r1 : Nat) (H1 : AHeap) => K (.float .f64 r1) H1) := by kernel_rfl
theorem E_math_Ceil_ok : ∀ g, FnOk Try.prog g (E_math_Ceil g) := FnOk.envOf (by
  intro x hx
  simp only [List.mem_cons, List.not_mem_nil, or_false] at hx
  subst hx; exact math_archCeil_ok)
set_option maxHeartbeats 1000000 in
theorem math_Ceil_main (x : Nat) (H : AHeap) (K : Value → AHeap → Prop) (h : T_math_Ceil x H fun (r1 : Nat) (H' : AHeap) => K (.float .f64 r1) H') : bodyL Try.prog E_math_Ceil Try.f108 [.float .f64 x] H K := by
  rw [math_Ceil_vc]
  simp only [T_math_archCeil]
  unfold T_math_Ceil p_math_Ceil at h
  repeat' (first | exact h | (exfalso; simp_all; done) | (refine ⟨by decide, ?_⟩) | (refine Br.intro (fun hb => ?_) (fun hb => ?_) <;> (try simp only [hb, cond_true, cond_false, Bool.not_true, Bool.not_false] at h)))
theorem math_Ceil_ok : FnOk Try.prog 108 S_math_Ceil := by
  refine FnOk.body mix_ok E_math_Ceil_ok Try.func108 rfl (by kernel_rfl) (by kernel_rfl) ?_ ?_ ?_ ?_ ?_
  · intro args H K K' h hk
    simp only [S_math_Ceil] at *
    unfold F_math_Ceil at *
    split at hk
    · have k := hk
      exact h _ _ k
    · exact hk.elim
  · intro _ args H K hk
    simp only [S_math_Ceil] at *
    unfold F_math_Ceil at *
    split at hk
    · have k := hk
      exact ⟨_, k, fun K' k' => k'⟩
    · exact hk.elim
  · intro args H K hk
    simp only [S_math_Ceil] at *
    unfold F_math_Ceil at *
    split at hk
    · have k := hk
      exact ⟨_, _, k⟩
    · exact hk.elim
  · intro hq; cases hq
  · have mm := @math_Ceil_main
    have ml := fun (args : List Value) (H : AHeap) (K : Value → AHeap → Prop) => bodyL_body (P := Try.prog) (env := E_math_Ceil ) (fn := Try.f108) (args := args) (H := H) (K := K) E_math_Ceil_ok 
    revert mm ml
    generalize bodyK Try.prog E_math_Ceil Try.f108 = Q
    generalize bodyL Try.prog E_math_Ceil Try.f108 = QL
    intro mm ml args H K hk
    simp only [S_math_Ceil] at *
    unfold F_math_Ceil at *
    split at hk
    · exact ml _ H K (mm _ H K hk)
    · exact hk.elim
def p_math_Float64frombits (x : Int) : Nat := cn .f64 x.toNat
def T_math_Float64frombits (x : Int) (H : AHeap) (K : Nat → AHeap → Prop) : Prop := K (p_math_Float64frombits x) H
theorem T_math_Float64frombits_i {x : Int} {H : AHeap} {K : Nat → AHeap → Prop} (h : K (p_math_Float64frombits x) H) : T_math_Float64frombits x H K := h
def F_math_Float64frombits : List Value → AHeap → (Value → AHeap → Prop) → Prop
  | [.int .u64 b], H, K => T_math_Float64frombits b H fun r1 H' => K (.float .f64 r1) H'
  | _, _, _ => False
def S_math_Float64frombits : FSpec := { F := F_math_Float64frombits, quiet := true }
theorem F_math_Float64frombits_o {args : List Value} {H : AHeap} {K : Value → AHeap → Prop} (h : S_math_Float64frombits.F args H K) : ∃ x, args = [.int .u64 x] ∧ K (.float .f64 (p_math_Float64frombits x)) H := by
  simp only [S_math_Float64frombits] at h
  unfold F_math_Float64frombits at h
  split at h
  · exact ⟨_, rfl, h⟩
  · exact h.elim
theorem math_Float64frombits_ok : FnOk Try.prog 185 S_math_Float64frombits := by
  refine FnOk.ext rfl ?_ ?_ ?_ ?_
  · intro args H K K' h hk
    obtain ⟨x, rfl, k⟩ := F_math_Float64frombits_o hk
    exact h _ _ k
  · intro _ args H K hk
    obtain ⟨x, rfl, k⟩ := F_math_Float64frombits_o hk
    exact ⟨_, k, fun K' k' => k'⟩
  · intro args H K hk
    obtain ⟨x, rfl, k⟩ := F_math_Float64frombits_o hk
    exact ⟨_, _, k⟩
  · intro ρ w args args' H K ha hk
    obtain ⟨x, rfl, k⟩ := F_math_Float64frombits_o hk
    obtain ⟨y, ys, rfl, h3, h4⟩ := ha.uncons
    obtain rfl := h4.unnil
    cases h3
    refine ⟨_, .float .f64 x.toNat, w, ?_, .refl w, .float .f64 _ _ rfl, k⟩
    have := run_callFunc_extern (e := Extern.MathFloatBits.float64frombits) Try.func185 (by kernel_rfl) (by kernel_rfl) (by kernel_rfl) (by kernel_rfl) #[.int .u64 x] w
    rw [this]; rfl

def p_math_Inf (sign : Int) : Nat := (bif decide ((0 : Int) ≤ sign) then (p_math_Float64frombits 9218868437227405312) else (p_math_Float64frombits 18442240474082181120))
def p_math_Inf_eq := @p_math_Inf.eq_1
def T_math_Inf (sign : Int) (H : AHeap) (K : Nat → AHeap → Prop) : Prop := K (p_math_Inf sign) H

theorem T_math_Inf_i {sign : Int} {H : AHeap} {K : Nat → AHeap → Prop} (h : K (p_math_Inf sign) H) : T_math_Inf sign H K := h
/-! math_Inf: function 182 -/
def E_math_Inf : Env := envOf [(185, S_math_Float64frombits)]
def F_math_Inf : List Value → AHeap → (Value → AHeap → Prop) → Prop
  | [.int .i64 sign], H, K => T_math_Inf sign H fun (r1 : Nat) (H' : AHeap) => K (.float .f64 r1) H'
  | _, _, _ => False
def S_math_Inf : FSpec := { F := F_math_Inf, quiet := true, tame := false }
theorem math_Inf_vc (sign : Int) (H : AHeap) (K : Value → AHeap → Prop) : bodyL Try.prog E_math_Inf Try.f182 [.int .i64 sign] H K =
  (Br (decide ((0 : Int) ≤ sign)) (T_math_Float64frombits 9218868437227405312 H fun (r1 : Nat) (H1 : AHeap) => K (.float .f64 r1) H1) (T_math_Float64frombits 18442240474082181120 H fun (r2 : Nat) (H2 : AHeap) => K (.float .f64 r2) H2)) := by kernel_rfl
theorem E_math_Inf_ok : ∀ g, FnOk Try.prog g (E_math_Inf g) := FnOk.envOf (by
  intro x hx
  simp only [List.mem_cons, List.not_mem_nil, or_false] at hx
  subst hx; exact math_Float64frombits_ok)
set_option maxHeartbeats 1000000 in
theorem math_Inf_main (sign : Int) (H : AHeap) (K : Value → AHeap → Prop) (h : T_math_Inf sign H fun (r1 : Nat) (H' : AHeap) => K (.float .f64 r1) H') : bodyL Try.prog E_math_Inf Try.f182 [.int .i64 sign] H K := by
  rw [math_Inf_vc]
  simp only [T_math_Float64frombits]
  unfold T_math_Inf p_math_Inf at h
  repeat' (first | exact h | (exfalso; simp_all; done) | (refine ⟨by decide, ?_⟩) | (refine Br.intro (fun hb => ?_) (fun hb => ?_) <;> (try simp only [hb, cond_true, cond_false, Bool.not_true, Bool.not_false] at h)))
theorem math_Inf_ok : FnOk Try.prog 182 S_math_Inf := by
  refine FnOk.body mix_ok E_math_Inf_ok Try.func182 rfl (by kernel_rfl) (by kernel_rfl) ?_ ?_ ?_ ?_ ?_
  · intro args H K K' h hk
    simp only [S_math_Inf] at *
    unfold F_math_Inf at *
    split at hk
    · have k := hk
      exact h _ _ k
    · exact hk.elim
  · intro _ args H K hk
    simp only [S_math_Inf] at *
    unfold F_math_Inf at *
    split at hk
    · have k := hk
      exact ⟨_, k, fun K' k' => k'⟩
    · exact hk.elim
  · intro args H K hk
    simp only [S_math_Inf] at *
    unfold F_math_Inf at *
    split at hk
    · have k := hk
      exact ⟨_, _, k⟩
    · exact hk.elim
  · intro hq; cases hq
  · have mm := @math_Inf_main
    have ml := fun (args : List Value) (H : AHeap) (K : Value → AHeap → Prop) => bodyL_body (P := Try.prog) (env := E_math_Inf ) (fn := Try.f182) (args := args) (H := H) (K := K) E_math_Inf_ok 
    revert mm ml
    generalize bodyK Try.prog E_math_Inf Try.f182 = Q
    generalize bodyL Try.prog E_math_Inf Try.f182 = QL
    intro mm ml args H K hk
    simp only [S_math_Inf] at *
    unfold F_math_Inf at *
    split at hk
    · exact ml _ H K (mm _ H K hk)
    · exact hk.elim

def p_spec_l01ExpWide_l2 (y : Nat) (p : Nat) (k : Int) (k2_2 : Nat → Int → Nat) : Nat → Nat → Int → Nat
  | 0, _, _ => 0
  | μ2 + 1, p_4, k_6 => (bif decide ((k_6 : Int) < 8) then (p_spec_l01ExpWide_l2 y p k k2_2 μ2 (fmul .f64 p_4 p_4) (k_6 + 1)) else (k2_2 p_4 k_6))
def p_spec_l01ExpWide_l2_s := fun y p k k2_2 μ2 p_4 k_6 => @p_spec_l01ExpWide_l2.eq_2 y p k k2_2 p_4 k_6 μ2
def p_spec_l01ExpWide_l1 (y : Nat) : Nat → Nat → Int → Nat
  | 0, _, _ => 0
  | μ + 1, p, k => (bif decide ((1 : Int) ≤ k) then (p_spec_l01ExpWide_l1 y μ (fadd .f64 4607182418800017408 (fdiv .f64 (fmul .f64 (fdiv .f64 y 4643211215818981376) p) (FloatKind.nearest .f64 k))) (k - 1)) else (p_spec_l01ExpWide_l2 y p k (fun (p_4 : Nat) (k_6 : Int) => p_4) (Int.toNat (8 - (0 : Int)) + 1) p (0 : Int)))
def p_spec_l01ExpWide_l1_s := fun y μ p k => @p_spec_l01ExpWide_l1.eq_2 y p k μ
def p_spec_l01ExpWide (y : Nat) : Nat := (bif !(feq .f64 y y) then y else (bif flt .f64 4641240890982006784 y then (p_math_Inf (1 : Int)) else (bif flt .f64 y 13864612927836782592 then 0 else (p_spec_l01ExpWide_l1 y (Int.toNat ((12 : Int) - 1 + 1) + 1) 4607182418800017408 (12 : Int)))))
def p_spec_l01ExpWide_eq := @p_spec_l01ExpWide.eq_1
def T_spec_l01ExpWide (y : Nat) (H : AHeap) (K : Nat → AHeap → Prop) : Prop := K (p_spec_l01ExpWide y) H
theorem T_spec_l01ExpWide_i {y : Nat} {H : AHeap} {K : Nat → AHeap → Prop} (h : K (p_spec_l01ExpWide y) H) : T_spec_l01ExpWide y H K := h
theorem o35 {P : Prop} (h : P := by rw [fb64, lp64]; decide) : P := h
theorem spec_l01ExpWide_sq {y P K : Nat} {k : Int} : ∀ (μ p : Nat) (i : Int), Bd .f64 1074 p → (FloatKind.f64.format.read p).neg = false → Bd .f64 1074 (p_spec_l01ExpWide_l2 y P k (fun (p : Nat) (t : Int) => p) μ p i) ∧ (FloatKind.f64.format.read (p_spec_l01ExpWide_l2 y P k (fun (p : Nat) (t : Int) => p) μ p i)).neg = false := by
  intro μ
  induction μ with
  | zero => intro p i _ _; exact ⟨⟨fin_zero _, by show (sv .f64 0).natAbs ≤ _; rw [sv_zero]; exact Nat.zero_le _⟩, by show (FloatKind.f64.format.read 0).neg = false; rw [read_zero]; rfl⟩
  | succ μ ih =>
    intro p i hp hs
    rw [p_spec_l01ExpWide_l2_s]
    cases decide (i < (8 : Int))
    · exact ⟨hp, hs⟩
    · have := Bd.mul (T := 1022) hp hp (top64 o23) o35
      rw [fb64, hs] at this
      exact ih _ _ this.1 this.2
theorem o30 {P : Prop} (h : P := by decide +kernel) : P := h
theorem spec_l01ExpWide_ser {y : Nat} (hy : Bd .f64 (8 + 1074) y) (hn : (FloatKind.f64.format.read y).neg = true) : ∀ (μ p : Nat) (n : Int), n ≤ 12 → -1 ≤ n → Bd .f64 1074 p → (FloatKind.f64.format.read p).neg = false → Bd .f64 1074 (p_spec_l01ExpWide_l1 y μ p n) := by
  intro μ
  induction μ with
  | zero => intro p n _ _ _ _; exact ⟨fin_zero _, by show (sv .f64 0).natAbs ≤ _; rw [sv_zero]; exact Nat.zero_le _⟩
  | succ μ ih =>
    intro p n h1 h0 hp hs
    rw [p_spec_l01ExpWide_l1_s]
    
    by_cases hc : (1 : Int) ≤ n
    · rw [decide_eq_true hc, cond_true]
      have t1 := Bd.div (T := 1022) (B := 1082) hy (y := 4643211215818981376) o30 o30 (top64 o23) o35
      rw [fb64, hn, show (FloatKind.f64.format.read 4643211215818981376).neg = false from by decide +kernel] at t1
      have t2 := Bd.mul (T := 1022) t1.1 hp (top64 o23) o35
      rw [fb64, t1.2, hs] at t2
      have c := cnt_sv hc o3
      have t3 := Bd.div (T := 1022) (B := 1074) t2.1 c.1 c.2.1 (top64 o23) o35
      rw [fb64, t2.2, c.2.2, show 52 + 1022 = 1074 from rfl] at t3
      have hz := sv_le_zero t3.2
      have hone : sv .f64 4607182418800017408 = 2 ^ 1074 := by decide +kernel
      have habs := t3.1.2
      generalize hq : fdiv .f64 (fmul .f64 (fdiv .f64 y 4643211215818981376) p) (FloatKind.nearest .f64 n) = q at *
      have hpow := pow_cast 1074
      have hsum : (sv .f64 4607182418800017408 + sv .f64 q).natAbs ≤ 2 ^ (FloatKind.f64.format.fractionBits + 1022) := by
        rw [hone, fb64, ← hpow, show 52 + 1022 = 1074 from rfl]
        obtain ⟨W, hW⟩ : ∃ W : Nat, W = 2 ^ 1074 := ⟨_, rfl⟩
        rw [← hW] at habs ⊢
        clear hpow hW
        omega
      have t4 := Bd.add (T := 1022) (x := 4607182418800017408) (y := q) o30 t3.1.1 (top64 o23) hsum
      rw [fb64] at t4
      have hneg : (FloatKind.f64.format.read (fadd .f64 4607182418800017408 q)).neg = false := by
        rw [t4.2]
        split
        · rw [show (FloatKind.f64.format.read 4607182418800017408).neg = false from by decide +kernel]; rfl
        · refine decide_eq_false ?_
          rw [hone, ← hpow]
          generalize (2 ^ 1074 : Nat) = W at *
          omega
      exact ih _ (n - 1) o3 o3 t4.1 hneg
    · rw [decide_eq_false hc, cond_false]
      exact (spec_l01ExpWide_sq (K := 0) _ _ _ hp hs).1
theorem spec_l01ExpWide_nar {x : Nat} (hx : (FloatKind.f32.format.read x).isNaN = true ∨ (FloatKind.f32.format.read x).neg = true) : fnarrow (p_spec_l01ExpWide (fwide x)) ≠ none := by
  cases hr : FloatKind.f32.format.read x with
  | nan s t =>
    have e : fwide x = qnan .f64 := by
      unfold fwide
      rw [show FloatKind.f32.decode x = FloatKind.f32.format.read x from rfl, hr]
    rw [e]; decide +kernel
  | infinity s =>
    have hs : s = true := by
      rw [hr] at hx
      rcases hx with h | h
      · cases h
      · exact h
    have e : fwide x = FloatKind.f64.encode (.infinity true) := by
      unfold fwide
      rw [show FloatKind.f32.decode x = FloatKind.f32.format.read x from rfl, hr, hs]
    rw [e]; decide +kernel
  | number s m i =>
    have hf : fin .f32 x = true := by unfold fin; rw [hr]
    have hs : (FloatKind.f32.format.read x).neg = true := by
      rcases hx with h | h
      · rw [hr] at h; cases h
      · exact h
    have wf := wide_fin hf
    have wn := wide_neg (x := x) (fin_nn hf)
    rw [hs] at wn
    have z := sv_le_zero wn
    rw [p_spec_l01ExpWide_eq]
    rw [feq_self (fin_nn wf), Bool.not_true, cond_false]
    rw [flt_fin o30 wf, flt_fin wf o30]
    have e1 : sv .f64 4641240890982006784 = 200 * 2 ^ 1074 := by decide +kernel
    have e2 : sv .f64 13864612927836782592 = -200 * 2 ^ 1074 := by decide +kernel
    have hpow := pow_cast 1074
    rw [e1, e2, ← hpow]
    have hp := Nat.two_pow_pos 1074
    rw [decide_eq_false (by generalize (2 ^ 1074 : Nat) = W at *; omega), cond_false]
    by_cases hc : sv .f64 (fwide x) < -200 * ((2 ^ 1074 : Nat) : Int)
    · rw [decide_eq_true hc, cond_true]; decide +kernel
    · rw [decide_eq_false hc, cond_false]
      have hy : Bd .f64 (8 + 1074) (fwide x) := by
        refine ⟨wf, ?_⟩
        have e3 : (2 : Nat) ^ (8 + 1074) = 2 ^ 8 * 2 ^ 1074 := Nat.pow_add 2 8 1074
        rw [e3]
        generalize (2 ^ 1074 : Nat) = W at *
        omega
      have one : Bd .f64 1074 4607182418800017408 := ⟨by decide +kernel, by decide +kernel⟩
      have b := spec_l01ExpWide_ser hy wn (Int.toNat ((12 : Int) - 1 + 1) + 1) 4607182418800017408 12 o23 o23 one o30
      exact narrow_ok (b.mono o23)
/-! spec_l01ExpWide: function 153 -/
def E_spec_l01ExpWide : Env := envOf [(182, S_math_Inf)]
def F_spec_l01ExpWide : List Value → AHeap → (Value → AHeap → Prop) → Prop
  | [.float .f64 y], H, K => T_spec_l01ExpWide y H fun (r1 : Nat) (H' : AHeap) => K (.float .f64 r1) H'
  | _, _, _ => False
def S_spec_l01ExpWide : FSpec := { F := F_spec_l01ExpWide, quiet := true, tame := false }
theorem spec_l01ExpWide_vc (y : Nat) (H : AHeap) (K : Value → AHeap → Prop) : bodyL Try.prog E_spec_l01ExpWide Try.f153 [.float .f64 y] H K =
  (Br (!(feq .f64 y y)) (K (.float .f64 y) H) (Br (flt .f64 4641240890982006784 y) (T_math_Inf 1 H fun (r1 : Nat) (H1 : AHeap) => K (.float .f64 r1) H1) (Br (flt .f64 y 13864612927836782592) (K (.float .f64 0) H) (loopK (exL Try.prog E_spec_l01ExpWide (cl (cl (cr (cl (cr (cr (cr (cr (cr (cr (bodyC Try.f153))))))))))) 56 4 [(0, 16)]) [ud, ud, ud, .float .f64 (fdiv .f64 y 4643211215818981376), .float .f64 4607182418800017408, .int .i64 12, ud, ud, ud, ud, ud, ud, ud, ud, ud, ud, ud, ud, ud, ud, ud, ud, ud, ud, ud, ud, ud, ud, ud, ud, ud, ud, ud, ud, ud, ud, ud] H (blockQ 0 (seqQ (exL Try.prog E_spec_l01ExpWide (cr (cr (cr (cr (cr (cr (cr (bodyC Try.f153)))))))) 4 4 []) (retK Try.prog Try.f153 K))))))) := by kernel_rfl
abbrev spec_l01ExpWide_P1 (y : Nat) (p : Nat) (k : Int)  : List Value := [ud, ud, ud, .float .f64 (fdiv .f64 y 4643211215818981376), .float .f64 p, .int .i64 k, ud, ud, ud, ud, ud, ud, ud, ud, ud, ud, ud, ud, ud, ud, ud, ud, ud, ud, ud, ud, ud, ud, ud, ud, ud, ud, ud, ud, ud, ud, ud]
theorem spec_l01ExpWide_r1 (y : Nat) (p : Nat) (k : Int)  (H : AHeap) (R : Post) : exL Try.prog E_spec_l01ExpWide (cl (cl (cr (cl (cr (cr (cr (cr (cr (cr (bodyC Try.f153))))))))))) 56 4 [(0, 16)] (spec_l01ExpWide_P1 y p k) H R =
  (Br (decide ((1 : Int) ≤ k)) (R .normal [ud, ud, ud, .float .f64 (fdiv .f64 y 4643211215818981376), .float .f64 (fadd .f64 4607182418800017408 (fdiv .f64 (fmul .f64 (fdiv .f64 y 4643211215818981376) p) (FloatKind.nearest .f64 k))), .int .i64 (IntKind.wrap .i64 (k - 1)), ud, ud, ud, ud, ud, ud, ud, ud, ud, ud, ud, ud, ud, ud, ud, ud, ud, ud, ud, ud, ud, ud, ud, ud, ud, ud, ud, ud, ud, ud, ud] H) (R (.exit 0) [ud, ud, ud, ud, .float .f64 p, ud, ud, ud, ud, ud, ud, ud, ud, ud, ud, ud, ud, ud, ud, ud, ud, ud, ud, ud, ud, ud, ud, ud, ud, ud, ud, ud, ud, ud, ud, ud, ud] H)) := by kernel_rfl
def spec_l01ExpWide_I1 (y : Nat) (Inv : Nat → Nat → Int → AHeap → Prop) : Nat → List Value → AHeap → Prop := fun μ tm H => ∃ (p : Nat), ∃ (k : Int), tm = (spec_l01ExpWide_P1 y p k) ∧ Inv μ p k H
theorem spec_l01ExpWide_L1 (y : Nat) {Q : Post} (Inv : Nat → Nat → Int → AHeap → Prop) (ν : Nat) (p : Nat) (k : Int)  (H : AHeap) (h0 : Inv ν p k H)
    (hs : ∀ (μ : Nat) (p : Nat) (k : Int)  (H : AHeap), Inv μ p k H → exL Try.prog E_spec_l01ExpWide (cl (cl (cr (cl (cr (cr (cr (cr (cr (cr (bodyC Try.f153))))))))))) 56 4 [(0, 16)] (spec_l01ExpWide_P1 y p k) H (loopQ (spec_l01ExpWide_I1 y Inv) μ Q)) : loopK (exL Try.prog E_spec_l01ExpWide (cl (cl (cr (cl (cr (cr (cr (cr (cr (cr (bodyC Try.f153))))))))))) 56 4 [(0, 16)]) (spec_l01ExpWide_P1 y p k) H Q :=
  ⟨spec_l01ExpWide_I1 y Inv, ν, ⟨p, k, rfl, h0⟩, fun μ tm H h => by obtain ⟨p, k, rfl, hI⟩ := h; exact hs μ p k  H hI⟩
theorem spec_l01ExpWide_n1 {y : Nat} {Q : Post} {Inv : Nat → Nat → Int → AHeap → Prop} {μ : Nat} (μ' : Nat) {p : Nat} {k : Int}  {H : AHeap} (hm : μ' < μ) (hI : Inv μ' p k H) : loopQ (spec_l01ExpWide_I1 y Inv) μ Q .normal (spec_l01ExpWide_P1 y p k) H := ⟨μ', hm, p, k, rfl, hI⟩
theorem spec_l01ExpWide_x1_0 (p : Nat) (H : AHeap) (K : Value → AHeap → Prop)  {I : Nat → List Value → AHeap → Prop} {μ : Nat} : loopQ I μ (blockQ 0 (seqQ (exL Try.prog E_spec_l01ExpWide (cr (cr (cr (cr (cr (cr (cr (bodyC Try.f153)))))))) 4 4 []) (retK Try.prog Try.f153 K))) (.exit 0) [ud, ud, ud, ud, .float .f64 p, ud, ud, ud, ud, ud, ud, ud, ud, ud, ud, ud, ud, ud, ud, ud, ud, ud, ud, ud, ud, ud, ud, ud, ud, ud, ud, ud, ud, ud, ud, ud, ud] H =
  (loopK (exL Try.prog E_spec_l01ExpWide (cl (cl (cr (cl (cr (cr (cr (cr (cr (cr (cr (bodyC Try.f153)))))))))))) 80 4 [(2, 16)]) [ud, ud, ud, ud, .float .f64 p, ud, .int .i64 0, ud, ud, ud, ud, ud, ud, ud, ud, ud, ud, ud, ud, ud, ud, ud, ud, ud, ud, ud, ud, ud, ud, ud, ud, ud, ud, ud, ud, ud, ud] H (blockQ 2 (seqQ (exL Try.prog E_spec_l01ExpWide (cr (cr (cr (cr (cr (cr (cr (cr (bodyC Try.f153))))))))) 4 4 []) (retK Try.prog Try.f153 K)))) := by kernel_rfl
abbrev spec_l01ExpWide_P2  (p_4 : Nat) (k_6 : Int)  : List Value := [ud, ud, ud, ud, .float .f64 p_4, ud, .int .i64 k_6, ud, ud, ud, ud, ud, ud, ud, ud, ud, ud, ud, ud, ud, ud, ud, ud, ud, ud, ud, ud, ud, ud, ud, ud, ud, ud, ud, ud, ud, ud]
theorem spec_l01ExpWide_r2  (p_4 : Nat) (k_6 : Int)  (H : AHeap) (R : Post) : exL Try.prog E_spec_l01ExpWide (cl (cl (cr (cl (cr (cr (cr (cr (cr (cr (cr (bodyC Try.f153)))))))))))) 80 4 [(2, 16)] (spec_l01ExpWide_P2 p_4 k_6) H R =
  (Br (decide ((k_6 : Int) < 8)) (R .normal [ud, ud, ud, ud, .float .f64 (fmul .f64 p_4 p_4), ud, .int .i64 (IntKind.wrap .i64 (k_6 + 1)), ud, ud, ud, ud, ud, ud, ud, ud, ud, ud, ud, ud, ud, ud, ud, ud, ud, ud, ud, ud, ud, ud, ud, ud, ud, ud, ud, ud, ud, ud] H) (R (.exit 2) [ud, ud, ud, ud, .float .f64 p_4, ud, ud, ud, ud, ud, ud, ud, ud, ud, ud, ud, ud, ud, ud, ud, ud, ud, ud, ud, ud, ud, ud, ud, ud, ud, ud, ud, ud, ud, ud, ud, ud] H)) := by kernel_rfl
def spec_l01ExpWide_I2  (Inv : Nat → Nat → Int → AHeap → Prop) : Nat → List Value → AHeap → Prop := fun μ tm H => ∃ (p_4 : Nat), ∃ (k_6 : Int), tm = (spec_l01ExpWide_P2 p_4 k_6) ∧ Inv μ p_4 k_6 H
theorem spec_l01ExpWide_L2  {Q : Post} (Inv : Nat → Nat → Int → AHeap → Prop) (ν : Nat) (p_4 : Nat) (k_6 : Int)  (H : AHeap) (h0 : Inv ν p_4 k_6 H)
    (hs : ∀ (μ : Nat) (p_4 : Nat) (k_6 : Int)  (H : AHeap), Inv μ p_4 k_6 H → exL Try.prog E_spec_l01ExpWide (cl (cl (cr (cl (cr (cr (cr (cr (cr (cr (cr (bodyC Try.f153)))))))))))) 80 4 [(2, 16)] (spec_l01ExpWide_P2 p_4 k_6) H (loopQ (spec_l01ExpWide_I2  Inv) μ Q)) : loopK (exL Try.prog E_spec_l01ExpWide (cl (cl (cr (cl (cr (cr (cr (cr (cr (cr (cr (bodyC Try.f153)))))))))))) 80 4 [(2, 16)]) (spec_l01ExpWide_P2 p_4 k_6) H Q :=
  ⟨spec_l01ExpWide_I2  Inv, ν, ⟨p_4, k_6, rfl, h0⟩, fun μ tm H h => by obtain ⟨p_4, k_6, rfl, hI⟩ := h; exact hs μ p_4 k_6  H hI⟩
theorem spec_l01ExpWide_n2  {Q : Post} {Inv : Nat → Nat → Int → AHeap → Prop} {μ : Nat} (μ' : Nat) {p_4 : Nat} {k_6 : Int}  {H : AHeap} (hm : μ' < μ) (hI : Inv μ' p_4 k_6 H) : loopQ (spec_l01ExpWide_I2  Inv) μ Q .normal (spec_l01ExpWide_P2 p_4 k_6) H := ⟨μ', hm, p_4, k_6, rfl, hI⟩
theorem spec_l01ExpWide_x2_2 (p_4 : Nat) (H : AHeap) (K : Value → AHeap → Prop)  {I : Nat → List Value → AHeap → Prop} {μ : Nat} : loopQ I μ (blockQ 2 (seqQ (exL Try.prog E_spec_l01ExpWide (cr (cr (cr (cr (cr (cr (cr (cr (bodyC Try.f153))))))))) 4 4 []) (retK Try.prog Try.f153 K))) (.exit 2) [ud, ud, ud, ud, .float .f64 p_4, ud, ud, ud, ud, ud, ud, ud, ud, ud, ud, ud, ud, ud, ud, ud, ud, ud, ud, ud, ud, ud, ud, ud, ud, ud, ud, ud, ud, ud, ud, ud, ud] H =
  (K (.float .f64 p_4) H) := by kernel_rfl
theorem E_spec_l01ExpWide_ok : ∀ g, FnOk Try.prog g (E_spec_l01ExpWide g) := FnOk.envOf (by
  intro x hx
  simp only [List.mem_cons, List.not_mem_nil, or_false] at hx
  subst hx; exact math_Inf_ok)
set_option maxHeartbeats 1000000 in
theorem spec_l01ExpWide_main (y : Nat) (H : AHeap) (K : Value → AHeap → Prop) (h : T_spec_l01ExpWide y H fun (r1 : Nat) (H' : AHeap) => K (.float .f64 r1) H') : bodyL Try.prog E_spec_l01ExpWide Try.f153 [.float .f64 y] H K := by
  rw [spec_l01ExpWide_vc]
  have hk := h
  unfold T_spec_l01ExpWide at hk
  have e : (p_spec_l01ExpWide y) = _ := rfl
  have e := e.trans (p_spec_l01ExpWide_eq y)
  have g0 := Grow.refl H
  refine Br.intro (fun c_1 => ?_) (fun c_1 => ?_)
  · have e := e.trans (cond_t c_1)
    have c_1n := nf_of_t c_1
    rw [e] at hk
    exact hk
  · have e := e.trans (cond_f c_1)
    have c_1n := nt_of_f c_1
    refine Br.intro (fun c_2 => ?_) (fun c_2 => ?_)
    · have e := e.trans (cond_t c_2)
      refine T_math_Inf_i ?_
      rw [e] at hk
      exact hk
    · have e := e.trans (cond_f c_2)
      refine Br.intro (fun c_3 => ?_) (fun c_3 => ?_)
      · have e := e.trans (cond_t c_3)
        rw [e] at hk
        exact hk
      · have e := e.trans (cond_f c_3)
        refine spec_l01ExpWide_L1 _ (fun (μ : Nat) (p : Nat) (k : Int) (H_1 : AHeap) => H = H_1 ∧ k ≤ (12 : Int) ∧ k - 1 + 1 ≤ (μ : Int) ∧ p_spec_l01ExpWide y = p_spec_l01ExpWide_l1 y (μ + 1) p k) (Int.toNat ((12 : Int) - 1 + 1)) _ _ H ?_ ?_
        · exact ⟨rfl, o6, o3, e⟩
        · intro μ p k  H_1 hI
          obtain ⟨rfl, v_4, hμ, e⟩ := hI
          rw [spec_l01ExpWide_r1]
          have e := e.trans (p_spec_l01ExpWide_l1_s y μ p k)
          have l_5 := g0.1
          refine Br.intro (fun c_6 => ?_) (fun c_6 => ?_)
          · have e := e.trans (cond_t c_6)
            have c_6' := of_decide_eq_true c_6
            rw [show IntKind.wrap .i64 (k - 1) = (k - 1) from wrap64 o3 o3]
            refine spec_l01ExpWide_n1 (μ - 1) o12 ⟨rfl, o1, o12, (by rw [show μ - 1 + 1 = μ from by first | omega]; exact e)⟩
          · have e := e.trans (cond_f c_6)
            have c_6' := of_decide_eq_false c_6
            rw [spec_l01ExpWide_x1_0]
            refine spec_l01ExpWide_L2  (fun (μ2 : Nat) (p_4 : Nat) (k_6 : Int) (H_2 : AHeap) => H = H_2 ∧ (0 : Int) ≤ k_6 ∧ ((k_6 ≤ 8 ∨ k_6 ≤ (0 : Int))) ∧ 8 - k_6 ≤ (μ2 : Int) ∧ p_spec_l01ExpWide y = p_spec_l01ExpWide_l2 y p k (fun (p_4 : Nat) (k_6 : Int) => p_4) (μ2 + 1) p_4 k_6) (Int.toNat (8 - (0 : Int))) _ _ H ?_ ?_
            · exact ⟨rfl, o6, o6, o3, e⟩
            · intro μ2 p_4 k_6  H_2 hI
              obtain ⟨rfl, v_7, v_8, hμ, e⟩ := hI
              rw [spec_l01ExpWide_r2]
              have e := e.trans (p_spec_l01ExpWide_l2_s y p k (fun (p_4 : Nat) (k_6 : Int) => p_4) μ2 p_4 k_6)
              have l_9 := g0.1
              refine Br.intro (fun c_10 => ?_) (fun c_10 => ?_)
              · have e := e.trans (cond_t c_10)
                have c_10' := of_decide_eq_true c_10
                rw [show IntKind.wrap .i64 (k_6 + 1) = (k_6 + 1) from wrap64 o3 o3]
                refine spec_l01ExpWide_n2 (μ2 - 1) o12 ⟨rfl, o1, o1, o12, (by rw [show μ2 - 1 + 1 = μ2 from by first | omega]; exact e)⟩
              · have e := e.trans (cond_f c_10)
                have c_10' := of_decide_eq_false c_10
                rw [spec_l01ExpWide_x2_2]
                rw [e] at hk
                exact hk
theorem spec_l01ExpWide_ok : FnOk Try.prog 153 S_spec_l01ExpWide := by
  refine FnOk.body mix_ok E_spec_l01ExpWide_ok Try.func153 rfl (by kernel_rfl) (by kernel_rfl) ?_ ?_ ?_ ?_ ?_
  · intro args H K K' h hk
    simp only [S_spec_l01ExpWide] at *
    unfold F_spec_l01ExpWide at *
    split at hk
    · have k := hk
      exact h _ _ k
    · exact hk.elim
  · intro _ args H K hk
    simp only [S_spec_l01ExpWide] at *
    unfold F_spec_l01ExpWide at *
    split at hk
    · have k := hk
      exact ⟨_, k, fun K' k' => k'⟩
    · exact hk.elim
  · intro args H K hk
    simp only [S_spec_l01ExpWide] at *
    unfold F_spec_l01ExpWide at *
    split at hk
    · have k := hk
      exact ⟨_, _, k⟩
    · exact hk.elim
  · intro hq; cases hq
  · have mm := @spec_l01ExpWide_main
    have ml := fun (args : List Value) (H : AHeap) (K : Value → AHeap → Prop) => bodyL_body (P := Try.prog) (env := E_spec_l01ExpWide ) (fn := Try.f153) (args := args) (H := H) (K := K) E_spec_l01ExpWide_ok 
    revert mm ml
    generalize bodyK Try.prog E_spec_l01ExpWide Try.f153 = Q
    generalize bodyL Try.prog E_spec_l01ExpWide Try.f153 = QL
    intro mm ml args H K hk
    simp only [S_spec_l01ExpWide] at *
    unfold F_spec_l01ExpWide at *
    split at hk
    · exact ml _ H K (mm _ H K hk)
    · exact hk.elim

def p_spec_l01Narrow (x : Nat) : Nat := ((fnarrow x).getD 0)
def p_spec_l01Narrow_eq := @p_spec_l01Narrow.eq_1
def T_spec_l01Narrow (x : Nat) (H : AHeap) (K : Nat → AHeap → Prop) : Prop := fnarrow x ≠ none ∧ K (p_spec_l01Narrow x) H
theorem T_spec_l01Narrow_i {x : Nat} {H : AHeap} {K : Nat → AHeap → Prop} (h : fnarrow x ≠ none ∧ K (p_spec_l01Narrow x) H) : T_spec_l01Narrow x H K := h

/-! spec_l01Narrow: function 112 -/
def E_spec_l01Narrow : Env := envOf []
def F_spec_l01Narrow : List Value → AHeap → (Value → AHeap → Prop) → Prop
  | [.float .f64 x], H, K => T_spec_l01Narrow x H fun (r1 : Nat) (H' : AHeap) => K (.float .f32 r1) H'
  | _, _, _ => False
def S_spec_l01Narrow : FSpec := { F := F_spec_l01Narrow, quiet := true, tame := false }
theorem spec_l01Narrow_vc (x : Nat) (H : AHeap) (K : Value → AHeap → Prop) : bodyL Try.prog E_spec_l01Narrow Try.f112 [.float .f64 x] H K =
  (∃ x1 : Nat, fnarrow x = some x1 ∧ K (.float .f32 x1) H) := by kernel_rfl
theorem E_spec_l01Narrow_ok : ∀ g, FnOk Try.prog g (E_spec_l01Narrow g) := FnOk.envOf (by
  intro x hx; cases hx)
set_option maxHeartbeats 1000000 in
theorem spec_l01Narrow_main (x : Nat) (H : AHeap) (K : Value → AHeap → Prop) (h : T_spec_l01Narrow x H fun (r1 : Nat) (H' : AHeap) => K (.float .f32 r1) H') : bodyL Try.prog E_spec_l01Narrow Try.f112 [.float .f64 x] H K := by
  rw [spec_l01Narrow_vc]
  obtain ⟨pr0, hk⟩ := h
  have e : (p_spec_l01Narrow x) = _ := rfl
  have e := e.trans (p_spec_l01Narrow_eq x)
  have g0 := Grow.refl H
  refine ⟨_, opt_get (d := 0) (by assumption), ?_⟩
  rw [e] at hk
  exact hk
theorem spec_l01Narrow_ok : FnOk Try.prog 112 S_spec_l01Narrow := by
  refine FnOk.body mix_ok E_spec_l01Narrow_ok Try.func112 rfl (by kernel_rfl) (by kernel_rfl) ?_ ?_ ?_ ?_ ?_
  · intro args H K K' h hk
    simp only [S_spec_l01Narrow] at *
    unfold F_spec_l01Narrow at *
    split at hk
    · obtain ⟨pr0, k⟩ := hk
      exact ⟨pr0, h _ _ k⟩
    · exact hk.elim
  · intro _ args H K hk
    simp only [S_spec_l01Narrow] at *
    unfold F_spec_l01Narrow at *
    split at hk
    · obtain ⟨pr0, k⟩ := hk
      exact ⟨_, k, fun K' k' => ⟨pr0, k'⟩⟩
    · exact hk.elim
  · intro args H K hk
    simp only [S_spec_l01Narrow] at *
    unfold F_spec_l01Narrow at *
    split at hk
    · obtain ⟨pr0, k⟩ := hk
      exact ⟨_, _, k⟩
    · exact hk.elim
  · intro hq; cases hq
  · have mm := @spec_l01Narrow_main
    have ml := fun (args : List Value) (H : AHeap) (K : Value → AHeap → Prop) => bodyL_body (P := Try.prog) (env := E_spec_l01Narrow ) (fn := Try.f112) (args := args) (H := H) (K := K) E_spec_l01Narrow_ok 
    revert mm ml
    generalize bodyK Try.prog E_spec_l01Narrow Try.f112 = Q
    generalize bodyL Try.prog E_spec_l01Narrow Try.f112 = QL
    intro mm ml args H K hk
    simp only [S_spec_l01Narrow] at *
    unfold F_spec_l01Narrow at *
    split at hk
    · exact ml _ H K (mm _ H K hk)
    · exact hk.elim

def p_spec_l01Exp (x : Nat) : Nat := (p_spec_l01Narrow ((p_spec_l01ExpWide (fwide x))))
def p_spec_l01Exp_eq := @p_spec_l01Exp.eq_1
def T_spec_l01Exp (x : Nat) (H : AHeap) (K : Nat → AHeap → Prop) : Prop := fnarrow (p_spec_l01ExpWide (fwide x)) ≠ none ∧ K (p_spec_l01Exp x) H
theorem T_spec_l01Exp_i {x : Nat} {H : AHeap} {K : Nat → AHeap → Prop} (h : fnarrow (p_spec_l01ExpWide (fwide x)) ≠ none ∧ K (p_spec_l01Exp x) H) : T_spec_l01Exp x H K := h

/-! spec_l01Exp: function 109 -/
def E_spec_l01Exp : Env := envOf [(153, S_spec_l01ExpWide), (112, S_spec_l01Narrow)]
def F_spec_l01Exp : List Value → AHeap → (Value → AHeap → Prop) → Prop
  | [.float .f32 x], H, K => T_spec_l01Exp x H fun (r1 : Nat) (H' : AHeap) => K (.float .f32 r1) H'
  | _, _, _ => False
def S_spec_l01Exp : FSpec := { F := F_spec_l01Exp, quiet := true, tame := false }
theorem spec_l01Exp_vc (x : Nat) (H : AHeap) (K : Value → AHeap → Prop) : bodyL Try.prog E_spec_l01Exp Try.f109 [.float .f32 x] H K =
  (T_spec_l01ExpWide (fwide x) H fun (r1 : Nat) (H1 : AHeap) => T_spec_l01Narrow r1 H1 fun (r2 : Nat) (H2 : AHeap) => K (.float .f32 r2) H2) := by kernel_rfl
theorem E_spec_l01Exp_ok : ∀ g, FnOk Try.prog g (E_spec_l01Exp g) := FnOk.envOf (by
  intro x hx
  simp only [List.mem_cons, List.not_mem_nil, or_false] at hx
  rcases hx with rfl | rfl
  · exact spec_l01ExpWide_ok
  · exact spec_l01Narrow_ok)
theorem o18 {P : Prop} (h : P := by first | assumption | omega | (simp; omega)) : P := h
set_option maxHeartbeats 1000000 in
theorem spec_l01Exp_main (x : Nat) (H : AHeap) (K : Value → AHeap → Prop) (h : T_spec_l01Exp x H fun (r1 : Nat) (H' : AHeap) => K (.float .f32 r1) H') : bodyL Try.prog E_spec_l01Exp Try.f109 [.float .f32 x] H K := by
  rw [spec_l01Exp_vc]
  obtain ⟨pr0, hk⟩ := h
  have e : (p_spec_l01Exp x) = _ := rfl
  have e := e.trans (p_spec_l01Exp_eq x)
  have g0 := Grow.refl H
  refine T_spec_l01ExpWide_i ?_
  refine T_spec_l01Narrow_i ⟨o18, ?_⟩
  rw [e] at hk
  exact hk
theorem spec_l01Exp_ok : FnOk Try.prog 109 S_spec_l01Exp := by
  refine FnOk.body mix_ok E_spec_l01Exp_ok Try.func109 rfl (by kernel_rfl) (by kernel_rfl) ?_ ?_ ?_ ?_ ?_
  · intro args H K K' h hk
    simp only [S_spec_l01Exp] at *
    unfold F_spec_l01Exp at *
    split at hk
    · obtain ⟨pr0, k⟩ := hk
      exact ⟨pr0, h _ _ k⟩
    · exact hk.elim
  · intro _ args H K hk
    simp only [S_spec_l01Exp] at *
    unfold F_spec_l01Exp at *
    split at hk
    · obtain ⟨pr0, k⟩ := hk
      exact ⟨_, k, fun K' k' => ⟨pr0, k'⟩⟩
    · exact hk.elim
  · intro args H K hk
    simp only [S_spec_l01Exp] at *
    unfold F_spec_l01Exp at *
    split at hk
    · obtain ⟨pr0, k⟩ := hk
      exact ⟨_, _, k⟩
    · exact hk.elim
  · intro hq; cases hq
  · have mm := @spec_l01Exp_main
    have ml := fun (args : List Value) (H : AHeap) (K : Value → AHeap → Prop) => bodyL_body (P := Try.prog) (env := E_spec_l01Exp ) (fn := Try.f109) (args := args) (H := H) (K := K) E_spec_l01Exp_ok 
    revert mm ml
    generalize bodyK Try.prog E_spec_l01Exp Try.f109 = Q
    generalize bodyL Try.prog E_spec_l01Exp Try.f109 = QL
    intro mm ml args H K hk
    simp only [S_spec_l01Exp] at *
    unfold F_spec_l01Exp at *
    split at hk
    · exact ml _ H K (mm _ H K hk)
    · exact hk.elim
def p_math_Float32frombits (x : Int) : Nat := cn .f32 x.toNat
def T_math_Float32frombits (x : Int) (H : AHeap) (K : Nat → AHeap → Prop) : Prop := K (p_math_Float32frombits x) H
theorem T_math_Float32frombits_i {x : Int} {H : AHeap} {K : Nat → AHeap → Prop} (h : K (p_math_Float32frombits x) H) : T_math_Float32frombits x H K := h
def F_math_Float32frombits : List Value → AHeap → (Value → AHeap → Prop) → Prop
  | [.int .u32 b], H, K => T_math_Float32frombits b H fun r1 H' => K (.float .f32 r1) H'
  | _, _, _ => False
def S_math_Float32frombits : FSpec := { F := F_math_Float32frombits, quiet := true }
theorem F_math_Float32frombits_o {args : List Value} {H : AHeap} {K : Value → AHeap → Prop} (h : S_math_Float32frombits.F args H K) : ∃ x, args = [.int .u32 x] ∧ K (.float .f32 (p_math_Float32frombits x)) H := by
  simp only [S_math_Float32frombits] at h
  unfold F_math_Float32frombits at h
  split at h
  · exact ⟨_, rfl, h⟩
  · exact h.elim
theorem math_Float32frombits_ok : FnOk Try.prog 183 S_math_Float32frombits := by
  refine FnOk.ext rfl ?_ ?_ ?_ ?_
  · intro args H K K' h hk
    obtain ⟨x, rfl, k⟩ := F_math_Float32frombits_o hk
    exact h _ _ k
  · intro _ args H K hk
    obtain ⟨x, rfl, k⟩ := F_math_Float32frombits_o hk
    exact ⟨_, k, fun K' k' => k'⟩
  · intro args H K hk
    obtain ⟨x, rfl, k⟩ := F_math_Float32frombits_o hk
    exact ⟨_, _, k⟩
  · intro ρ w args args' H K ha hk
    obtain ⟨x, rfl, k⟩ := F_math_Float32frombits_o hk
    obtain ⟨y, ys, rfl, h3, h4⟩ := ha.uncons
    obtain rfl := h4.unnil
    cases h3
    refine ⟨_, .float .f32 x.toNat, w, ?_, .refl w, .float .f32 _ _ rfl, k⟩
    have := run_callFunc_extern (e := Extern.MathFloatBits.float32frombits) Try.func183 (by kernel_rfl) (by kernel_rfl) (by kernel_rfl) (by kernel_rfl) #[.int .u32 x] w
    rw [this]; rfl

def p_spec_l01From (n : Int) : Nat := (p_math_Float32frombits (IntKind.wrap .u32 n))
def p_spec_l01From_eq := @p_spec_l01From.eq_1
def T_spec_l01From (n : Int) (H : AHeap) (K : Nat → AHeap → Prop) : Prop := K (p_spec_l01From n) H

theorem T_spec_l01From_i {n : Int} {H : AHeap} {K : Nat → AHeap → Prop} (h : K (p_spec_l01From n) H) : T_spec_l01From n H K := h
/-! spec_l01From: function 154 -/
def E_spec_l01From : Env := envOf [(183, S_math_Float32frombits)]
def F_spec_l01From : List Value → AHeap → (Value → AHeap → Prop) → Prop
  | [.int .i64 n], H, K => T_spec_l01From n H fun (r1 : Nat) (H' : AHeap) => K (.float .f32 r1) H'
  | _, _, _ => False
def S_spec_l01From : FSpec := { F := F_spec_l01From, quiet := true, tame := false }
theorem spec_l01From_vc (n : Int) (H : AHeap) (K : Value → AHeap → Prop) : bodyL Try.prog E_spec_l01From Try.f154 [.int .i64 n] H K =
  (T_math_Float32frombits (IntKind.wrap .u32 n) H fun (r1 : Nat) (H1 : AHeap) => K (.float .f32 r1) H1) := by kernel_rfl
theorem E_spec_l01From_ok : ∀ g, FnOk Try.prog g (E_spec_l01From g) := FnOk.envOf (by
  intro x hx
  simp only [List.mem_cons, List.not_mem_nil, or_false] at hx
  subst hx; exact math_Float32frombits_ok)
set_option maxHeartbeats 1000000 in
theorem spec_l01From_main (n : Int) (H : AHeap) (K : Value → AHeap → Prop) (h : T_spec_l01From n H fun (r1 : Nat) (H' : AHeap) => K (.float .f32 r1) H') : bodyL Try.prog E_spec_l01From Try.f154 [.int .i64 n] H K := by
  rw [spec_l01From_vc]
  simp only [T_math_Float32frombits]
  unfold T_spec_l01From p_spec_l01From at h
  repeat' (first | exact h | (exfalso; simp_all; done) | (refine ⟨by decide, ?_⟩) | (refine Br.intro (fun hb => ?_) (fun hb => ?_) <;> (try simp only [hb, cond_true, cond_false, Bool.not_true, Bool.not_false] at h)))
theorem spec_l01From_ok : FnOk Try.prog 154 S_spec_l01From := by
  refine FnOk.body mix_ok E_spec_l01From_ok Try.func154 rfl (by kernel_rfl) (by kernel_rfl) ?_ ?_ ?_ ?_ ?_
  · intro args H K K' h hk
    simp only [S_spec_l01From] at *
    unfold F_spec_l01From at *
    split at hk
    · have k := hk
      exact h _ _ k
    · exact hk.elim
  · intro _ args H K hk
    simp only [S_spec_l01From] at *
    unfold F_spec_l01From at *
    split at hk
    · have k := hk
      exact ⟨_, k, fun K' k' => k'⟩
    · exact hk.elim
  · intro args H K hk
    simp only [S_spec_l01From] at *
    unfold F_spec_l01From at *
    split at hk
    · have k := hk
      exact ⟨_, _, k⟩
    · exact hk.elim
  · intro hq; cases hq
  · have mm := @spec_l01From_main
    have ml := fun (args : List Value) (H : AHeap) (K : Value → AHeap → Prop) => bodyL_body (P := Try.prog) (env := E_spec_l01From ) (fn := Try.f154) (args := args) (H := H) (K := K) E_spec_l01From_ok 
    revert mm ml
    generalize bodyK Try.prog E_spec_l01From Try.f154 = Q
    generalize bodyL Try.prog E_spec_l01From Try.f154 = QL
    intro mm ml args H K hk
    simp only [S_spec_l01From] at *
    unfold F_spec_l01From at *
    split at hk
    · exact ml _ H K (mm _ H K hk)
    · exact hk.elim
def p_math_NaN  : Nat := (p_math_Float64frombits 9221120237041090561)
def T_math_NaN  (H : AHeap) (K : Nat → AHeap → Prop) : Prop := K (p_math_NaN) H

theorem T_math_NaN_i  {H : AHeap} {K : Nat → AHeap → Prop} (h : K (p_math_NaN) H) : T_math_NaN  H K := h
/-! math_NaN: function 159 -/
def E_math_NaN : Env := envOf [(185, S_math_Float64frombits)]
def F_math_NaN : List Value → AHeap → (Value → AHeap → Prop) → Prop
  | [], H, K => T_math_NaN  H fun (r1 : Nat) (H' : AHeap) => K (.float .f64 r1) H'
  | _, _, _ => False
def S_math_NaN : FSpec := { F := F_math_NaN, quiet := true, tame := false }
theorem math_NaN_vc  (H : AHeap) (K : Value → AHeap → Prop) : bodyL Try.prog E_math_NaN Try.f159 [] H K =
  (T_math_Float64frombits 9221120237041090561 H fun (r1 : Nat) (H1 : AHeap) => K (.float .f64 r1) H1) := by kernel_rfl
theorem E_math_NaN_ok : ∀ g, FnOk Try.prog g (E_math_NaN g) := FnOk.envOf (by
  intro x hx
  simp only [List.mem_cons, List.not_mem_nil, or_false] at hx
  subst hx; exact math_Float64frombits_ok)
set_option maxHeartbeats 1000000 in
theorem math_NaN_main  (H : AHeap) (K : Value → AHeap → Prop) (h : T_math_NaN  H fun (r1 : Nat) (H' : AHeap) => K (.float .f64 r1) H') : bodyL Try.prog E_math_NaN Try.f159 [] H K := by
  rw [math_NaN_vc]
  simp only [T_math_Float64frombits]
  unfold T_math_NaN p_math_NaN at h
  repeat' (first | exact h | (exfalso; simp_all; done) | (refine ⟨by decide, ?_⟩) | (refine Br.intro (fun hb => ?_) (fun hb => ?_) <;> (try simp only [hb, cond_true, cond_false, Bool.not_true, Bool.not_false] at h)))
theorem math_NaN_ok : FnOk Try.prog 159 S_math_NaN := by
  refine FnOk.body mix_ok E_math_NaN_ok Try.func159 rfl (by kernel_rfl) (by kernel_rfl) ?_ ?_ ?_ ?_ ?_
  · intro args H K K' h hk
    simp only [S_math_NaN] at *
    unfold F_math_NaN at *
    split at hk
    · have k := hk
      exact h _ _ k
    · exact hk.elim
  · intro _ args H K hk
    simp only [S_math_NaN] at *
    unfold F_math_NaN at *
    split at hk
    · have k := hk
      exact ⟨_, k, fun K' k' => k'⟩
    · exact hk.elim
  · intro args H K hk
    simp only [S_math_NaN] at *
    unfold F_math_NaN at *
    split at hk
    · have k := hk
      exact ⟨_, _, k⟩
    · exact hk.elim
  · intro hq; cases hq
  · have mm := @math_NaN_main
    have ml := fun (args : List Value) (H : AHeap) (K : Value → AHeap → Prop) => bodyL_body (P := Try.prog) (env := E_math_NaN ) (fn := Try.f159) (args := args) (H := H) (K := K) E_math_NaN_ok 
    revert mm ml
    generalize bodyK Try.prog E_math_NaN Try.f159 = Q
    generalize bodyL Try.prog E_math_NaN Try.f159 = QL
    intro mm ml args H K hk
    simp only [S_math_NaN] at *
    unfold F_math_NaN at *
    split at hk
    · exact ml _ H K (mm  H K hk)
    · exact hk.elim

def p_spec_l01SineWide_l1 (y : Nat) : Nat → Nat → Int → Nat
  | 0, _, _ => 0
  | μ + 1, p, k => (bif decide ((1 : Int) ≤ k) then (p_spec_l01SineWide_l1 y μ (fsub .f64 4607182418800017408 (fdiv .f64 (fmul .f64 (fmul .f64 (fmul .f64 (fsub .f64 4602678819172646912 (fsub .f64 (fadd .f64 (fsub .f64 y (FloatKind.nearest .f64 (((ftoi .f64 y .i64).getD 0)))) 4607182418800017408) 4602678819172646912)) 4618760256179416344) (fmul .f64 (fsub .f64 4602678819172646912 (fsub .f64 (fadd .f64 (fsub .f64 y (FloatKind.nearest .f64 (((ftoi .f64 y .i64).getD 0)))) 4607182418800017408) 4602678819172646912)) 4618760256179416344)) p) (FloatKind.nearest .f64 (IntKind.wrap .i64 ((IntKind.wrap .i64 (2 * k)) * (IntKind.wrap .i64 ((IntKind.wrap .i64 (2 * k)) + 1))))))) (k - 1)) else (bif fle .f64 4602678819172646912 (fadd .f64 (fsub .f64 y (FloatKind.nearest .f64 (((ftoi .f64 y .i64).getD 0)))) 4607182418800017408) then fneg .f64 (fmul .f64 (fmul .f64 (fsub .f64 4602678819172646912 (fsub .f64 (fadd .f64 (fsub .f64 y (FloatKind.nearest .f64 (((ftoi .f64 y .i64).getD 0)))) 4607182418800017408) 4602678819172646912)) 4618760256179416344) p) else fmul .f64 (fmul .f64 (fsub .f64 4602678819172646912 (fsub .f64 (fadd .f64 (fsub .f64 y (FloatKind.nearest .f64 (((ftoi .f64 y .i64).getD 0)))) 4607182418800017408) 4602678819172646912)) 4618760256179416344) p))
def p_spec_l01SineWide_l1_s := fun y μ p k => @p_spec_l01SineWide_l1.eq_2 y p k μ
def p_spec_l01SineWide_l1b (y : Nat) : Nat → Nat → Int → Nat
  | 0, _, _ => 0
  | μ + 1, p, k => (bif decide ((1 : Int) ≤ k) then (p_spec_l01SineWide_l1b y μ (fsub .f64 4607182418800017408 (fdiv .f64 (fmul .f64 (fmul .f64 (fmul .f64 (fsub .f64 (fadd .f64 (fsub .f64 y (FloatKind.nearest .f64 (((ftoi .f64 y .i64).getD 0)))) 4607182418800017408) 4602678819172646912) 4618760256179416344) (fmul .f64 (fsub .f64 (fadd .f64 (fsub .f64 y (FloatKind.nearest .f64 (((ftoi .f64 y .i64).getD 0)))) 4607182418800017408) 4602678819172646912) 4618760256179416344)) p) (FloatKind.nearest .f64 (IntKind.wrap .i64 ((IntKind.wrap .i64 (2 * k)) * (IntKind.wrap .i64 ((IntKind.wrap .i64 (2 * k)) + 1))))))) (k - 1)) else (bif fle .f64 4602678819172646912 (fadd .f64 (fsub .f64 y (FloatKind.nearest .f64 (((ftoi .f64 y .i64).getD 0)))) 4607182418800017408) then fneg .f64 (fmul .f64 (fmul .f64 (fsub .f64 (fadd .f64 (fsub .f64 y (FloatKind.nearest .f64 (((ftoi .f64 y .i64).getD 0)))) 4607182418800017408) 4602678819172646912) 4618760256179416344) p) else fmul .f64 (fmul .f64 (fsub .f64 (fadd .f64 (fsub .f64 y (FloatKind.nearest .f64 (((ftoi .f64 y .i64).getD 0)))) 4607182418800017408) 4602678819172646912) 4618760256179416344) p))
def p_spec_l01SineWide_l1b_s := fun y μ p k => @p_spec_l01SineWide_l1b.eq_2 y p k μ
def p_spec_l01SineWide_l1c (y : Nat) : Nat → Nat → Int → Nat
  | 0, _, _ => 0
  | μ + 1, p, k => (bif decide ((1 : Int) ≤ k) then (p_spec_l01SineWide_l1c y μ (fsub .f64 4607182418800017408 (fdiv .f64 (fmul .f64 (fmul .f64 (fmul .f64 (fsub .f64 4602678819172646912 (fadd .f64 (fsub .f64 y (FloatKind.nearest .f64 (((ftoi .f64 y .i64).getD 0)))) 4607182418800017408)) 4618760256179416344) (fmul .f64 (fsub .f64 4602678819172646912 (fadd .f64 (fsub .f64 y (FloatKind.nearest .f64 (((ftoi .f64 y .i64).getD 0)))) 4607182418800017408)) 4618760256179416344)) p) (FloatKind.nearest .f64 (IntKind.wrap .i64 ((IntKind.wrap .i64 (2 * k)) * (IntKind.wrap .i64 ((IntKind.wrap .i64 (2 * k)) + 1))))))) (k - 1)) else (bif fle .f64 4602678819172646912 (fadd .f64 (fsub .f64 y (FloatKind.nearest .f64 (((ftoi .f64 y .i64).getD 0)))) 4607182418800017408) then fneg .f64 (fmul .f64 (fmul .f64 (fsub .f64 4602678819172646912 (fadd .f64 (fsub .f64 y (FloatKind.nearest .f64 (((ftoi .f64 y .i64).getD 0)))) 4607182418800017408)) 4618760256179416344) p) else fmul .f64 (fmul .f64 (fsub .f64 4602678819172646912 (fadd .f64 (fsub .f64 y (FloatKind.nearest .f64 (((ftoi .f64 y .i64).getD 0)))) 4607182418800017408)) 4618760256179416344) p))
def p_spec_l01SineWide_l1c_s := fun y μ p k => @p_spec_l01SineWide_l1c.eq_2 y p k μ
def p_spec_l01SineWide_l1d (y : Nat) : Nat → Nat → Int → Nat
  | 0, _, _ => 0
  | μ + 1, p, k => (bif decide ((1 : Int) ≤ k) then (p_spec_l01SineWide_l1d y μ (fsub .f64 4607182418800017408 (fdiv .f64 (fmul .f64 (fmul .f64 (fmul .f64 (fadd .f64 (fsub .f64 y (FloatKind.nearest .f64 (((ftoi .f64 y .i64).getD 0)))) 4607182418800017408) 4618760256179416344) (fmul .f64 (fadd .f64 (fsub .f64 y (FloatKind.nearest .f64 (((ftoi .f64 y .i64).getD 0)))) 4607182418800017408) 4618760256179416344)) p) (FloatKind.nearest .f64 (IntKind.wrap .i64 ((IntKind.wrap .i64 (2 * k)) * (IntKind.wrap .i64 ((IntKind.wrap .i64 (2 * k)) + 1))))))) (k - 1)) else (bif fle .f64 4602678819172646912 (fadd .f64 (fsub .f64 y (FloatKind.nearest .f64 (((ftoi .f64 y .i64).getD 0)))) 4607182418800017408) then fneg .f64 (fmul .f64 (fmul .f64 (fadd .f64 (fsub .f64 y (FloatKind.nearest .f64 (((ftoi .f64 y .i64).getD 0)))) 4607182418800017408) 4618760256179416344) p) else fmul .f64 (fmul .f64 (fadd .f64 (fsub .f64 y (FloatKind.nearest .f64 (((ftoi .f64 y .i64).getD 0)))) 4607182418800017408) 4618760256179416344) p))
def p_spec_l01SineWide_l1d_s := fun y μ p k => @p_spec_l01SineWide_l1d.eq_2 y p k μ
def p_spec_l01SineWide_l1e (y : Nat) : Nat → Nat → Int → Nat
  | 0, _, _ => 0
  | μ + 1, p, k => (bif decide ((1 : Int) ≤ k) then (p_spec_l01SineWide_l1e y μ (fsub .f64 4607182418800017408 (fdiv .f64 (fmul .f64 (fmul .f64 (fmul .f64 (fsub .f64 4602678819172646912 (fsub .f64 (fsub .f64 y (FloatKind.nearest .f64 (((ftoi .f64 y .i64).getD 0)))) 4602678819172646912)) 4618760256179416344) (fmul .f64 (fsub .f64 4602678819172646912 (fsub .f64 (fsub .f64 y (FloatKind.nearest .f64 (((ftoi .f64 y .i64).getD 0)))) 4602678819172646912)) 4618760256179416344)) p) (FloatKind.nearest .f64 (IntKind.wrap .i64 ((IntKind.wrap .i64 (2 * k)) * (IntKind.wrap .i64 ((IntKind.wrap .i64 (2 * k)) + 1))))))) (k - 1)) else (bif fle .f64 4602678819172646912 (fsub .f64 y (FloatKind.nearest .f64 (((ftoi .f64 y .i64).getD 0)))) then fneg .f64 (fmul .f64 (fmul .f64 (fsub .f64 4602678819172646912 (fsub .f64 (fsub .f64 y (FloatKind.nearest .f64 (((ftoi .f64 y .i64).getD 0)))) 4602678819172646912)) 4618760256179416344) p) else fmul .f64 (fmul .f64 (fsub .f64 4602678819172646912 (fsub .f64 (fsub .f64 y (FloatKind.nearest .f64 (((ftoi .f64 y .i64).getD 0)))) 4602678819172646912)) 4618760256179416344) p))
def p_spec_l01SineWide_l1e_s := fun y μ p k => @p_spec_l01SineWide_l1e.eq_2 y p k μ
def p_spec_l01SineWide_l1f (y : Nat) : Nat → Nat → Int → Nat
  | 0, _, _ => 0
  | μ + 1, p, k => (bif decide ((1 : Int) ≤ k) then (p_spec_l01SineWide_l1f y μ (fsub .f64 4607182418800017408 (fdiv .f64 (fmul .f64 (fmul .f64 (fmul .f64 (fsub .f64 (fsub .f64 y (FloatKind.nearest .f64 (((ftoi .f64 y .i64).getD 0)))) 4602678819172646912) 4618760256179416344) (fmul .f64 (fsub .f64 (fsub .f64 y (FloatKind.nearest .f64 (((ftoi .f64 y .i64).getD 0)))) 4602678819172646912) 4618760256179416344)) p) (FloatKind.nearest .f64 (IntKind.wrap .i64 ((IntKind.wrap .i64 (2 * k)) * (IntKind.wrap .i64 ((IntKind.wrap .i64 (2 * k)) + 1))))))) (k - 1)) else (bif fle .f64 4602678819172646912 (fsub .f64 y (FloatKind.nearest .f64 (((ftoi .f64 y .i64).getD 0)))) then fneg .f64 (fmul .f64 (fmul .f64 (fsub .f64 (fsub .f64 y (FloatKind.nearest .f64 (((ftoi .f64 y .i64).getD 0)))) 4602678819172646912) 4618760256179416344) p) else fmul .f64 (fmul .f64 (fsub .f64 (fsub .f64 y (FloatKind.nearest .f64 (((ftoi .f64 y .i64).getD 0)))) 4602678819172646912) 4618760256179416344) p))
def p_spec_l01SineWide_l1f_s := fun y μ p k => @p_spec_l01SineWide_l1f.eq_2 y p k μ
def p_spec_l01SineWide_l1g (y : Nat) : Nat → Nat → Int → Nat
  | 0, _, _ => 0
  | μ + 1, p, k => (bif decide ((1 : Int) ≤ k) then (p_spec_l01SineWide_l1g y μ (fsub .f64 4607182418800017408 (fdiv .f64 (fmul .f64 (fmul .f64 (fmul .f64 (fsub .f64 4602678819172646912 (fsub .f64 y (FloatKind.nearest .f64 (((ftoi .f64 y .i64).getD 0))))) 4618760256179416344) (fmul .f64 (fsub .f64 4602678819172646912 (fsub .f64 y (FloatKind.nearest .f64 (((ftoi .f64 y .i64).getD 0))))) 4618760256179416344)) p) (FloatKind.nearest .f64 (IntKind.wrap .i64 ((IntKind.wrap .i64 (2 * k)) * (IntKind.wrap .i64 ((IntKind.wrap .i64 (2 * k)) + 1))))))) (k - 1)) else (bif fle .f64 4602678819172646912 (fsub .f64 y (FloatKind.nearest .f64 (((ftoi .f64 y .i64).getD 0)))) then fneg .f64 (fmul .f64 (fmul .f64 (fsub .f64 4602678819172646912 (fsub .f64 y (FloatKind.nearest .f64 (((ftoi .f64 y .i64).getD 0))))) 4618760256179416344) p) else fmul .f64 (fmul .f64 (fsub .f64 4602678819172646912 (fsub .f64 y (FloatKind.nearest .f64 (((ftoi .f64 y .i64).getD 0))))) 4618760256179416344) p))
def p_spec_l01SineWide_l1g_s := fun y μ p k => @p_spec_l01SineWide_l1g.eq_2 y p k μ
def p_spec_l01SineWide_l1h (y : Nat) : Nat → Nat → Int → Nat
  | 0, _, _ => 0
  | μ + 1, p, k => (bif decide ((1 : Int) ≤ k) then (p_spec_l01SineWide_l1h y μ (fsub .f64 4607182418800017408 (fdiv .f64 (fmul .f64 (fmul .f64 (fmul .f64 (fsub .f64 y (FloatKind.nearest .f64 (((ftoi .f64 y .i64).getD 0)))) 4618760256179416344) (fmul .f64 (fsub .f64 y (FloatKind.nearest .f64 (((ftoi .f64 y .i64).getD 0)))) 4618760256179416344)) p) (FloatKind.nearest .f64 (IntKind.wrap .i64 ((IntKind.wrap .i64 (2 * k)) * (IntKind.wrap .i64 ((IntKind.wrap .i64 (2 * k)) + 1))))))) (k - 1)) else (bif fle .f64 4602678819172646912 (fsub .f64 y (FloatKind.nearest .f64 (((ftoi .f64 y .i64).getD 0)))) then fneg .f64 (fmul .f64 (fmul .f64 (fsub .f64 y (FloatKind.nearest .f64 (((ftoi .f64 y .i64).getD 0)))) 4618760256179416344) p) else fmul .f64 (fmul .f64 (fsub .f64 y (FloatKind.nearest .f64 (((ftoi .f64 y .i64).getD 0)))) 4618760256179416344) p))
def p_spec_l01SineWide_l1h_s := fun y μ p k => @p_spec_l01SineWide_l1h.eq_2 y p k μ
def p_spec_l01SineWide (y : Nat) : Nat := (bif !(feq .f64 (fsub .f64 y y) 0) then p_math_NaN else (bif fle .f64 4841369599423283200 y then 0 else (bif fle .f64 y 14064741636278059008 then 0 else (bif flt .f64 (fsub .f64 y (FloatKind.nearest .f64 (((ftoi .f64 y .i64).getD 0)))) 0 then (bif fle .f64 4602678819172646912 (fadd .f64 (fsub .f64 y (FloatKind.nearest .f64 (((ftoi .f64 y .i64).getD 0)))) 4607182418800017408) then (bif flt .f64 4598175219545276416 (fsub .f64 (fadd .f64 (fsub .f64 y (FloatKind.nearest .f64 (((ftoi .f64 y .i64).getD 0)))) 4607182418800017408) 4602678819172646912) then (p_spec_l01SineWide_l1 y (Int.toNat ((8 : Int) - 1 + 1) + 1) 4607182418800017408 (8 : Int)) else (p_spec_l01SineWide_l1b y (Int.toNat ((8 : Int) - 1 + 1) + 1) 4607182418800017408 (8 : Int))) else (bif flt .f64 4598175219545276416 (fadd .f64 (fsub .f64 y (FloatKind.nearest .f64 (((ftoi .f64 y .i64).getD 0)))) 4607182418800017408) then (p_spec_l01SineWide_l1c y (Int.toNat ((8 : Int) - 1 + 1) + 1) 4607182418800017408 (8 : Int)) else (p_spec_l01SineWide_l1d y (Int.toNat ((8 : Int) - 1 + 1) + 1) 4607182418800017408 (8 : Int)))) else (bif fle .f64 4602678819172646912 (fsub .f64 y (FloatKind.nearest .f64 (((ftoi .f64 y .i64).getD 0)))) then (bif flt .f64 4598175219545276416 (fsub .f64 (fsub .f64 y (FloatKind.nearest .f64 (((ftoi .f64 y .i64).getD 0)))) 4602678819172646912) then (p_spec_l01SineWide_l1e y (Int.toNat ((8 : Int) - 1 + 1) + 1) 4607182418800017408 (8 : Int)) else (p_spec_l01SineWide_l1f y (Int.toNat ((8 : Int) - 1 + 1) + 1) 4607182418800017408 (8 : Int))) else (bif flt .f64 4598175219545276416 (fsub .f64 y (FloatKind.nearest .f64 (((ftoi .f64 y .i64).getD 0)))) then (p_spec_l01SineWide_l1g y (Int.toNat ((8 : Int) - 1 + 1) + 1) 4607182418800017408 (8 : Int)) else (p_spec_l01SineWide_l1h y (Int.toNat ((8 : Int) - 1 + 1) + 1) 4607182418800017408 (8 : Int))))))))
def p_spec_l01SineWide_eq := @p_spec_l01SineWide.eq_1
def T_spec_l01SineWide (y : Nat) (H : AHeap) (K : Nat → AHeap → Prop) : Prop := K (p_spec_l01SineWide y) H
theorem T_spec_l01SineWide_i {y : Nat} {H : AHeap} {K : Nat → AHeap → Prop} (h : K (p_spec_l01SineWide y) H) : T_spec_l01SineWide y H K := h
theorem spec_sine_l1_eq (y : Nat) : ∀ (μ p : Nat) (k : Int), p_spec_l01SineWide_l1 y μ p k = sinS (fmul .f64 (fsub .f64 4602678819172646912 (fsub .f64 (fadd .f64 (fsub .f64 y (FloatKind.nearest .f64 (((ftoi .f64 y .i64).getD 0)))) 4607182418800017408) 4602678819172646912)) 4618760256179416344) (fle .f64 4602678819172646912 (fadd .f64 (fsub .f64 y (FloatKind.nearest .f64 (((ftoi .f64 y .i64).getD 0)))) 4607182418800017408)) μ p k := by
  intro μ; induction μ with
  | zero => intro p k; rfl
  | succ μ ih => intro p k; rw [p_spec_l01SineWide_l1_s, sinS, ih]
theorem spec_sine_l1b_eq (y : Nat) : ∀ (μ p : Nat) (k : Int), p_spec_l01SineWide_l1b y μ p k = sinS (fmul .f64 (fsub .f64 (fadd .f64 (fsub .f64 y (FloatKind.nearest .f64 (((ftoi .f64 y .i64).getD 0)))) 4607182418800017408) 4602678819172646912) 4618760256179416344) (fle .f64 4602678819172646912 (fadd .f64 (fsub .f64 y (FloatKind.nearest .f64 (((ftoi .f64 y .i64).getD 0)))) 4607182418800017408)) μ p k := by
  intro μ; induction μ with
  | zero => intro p k; rfl
  | succ μ ih => intro p k; rw [p_spec_l01SineWide_l1b_s, sinS, ih]
theorem spec_sine_l1c_eq (y : Nat) : ∀ (μ p : Nat) (k : Int), p_spec_l01SineWide_l1c y μ p k = sinS (fmul .f64 (fsub .f64 4602678819172646912 (fadd .f64 (fsub .f64 y (FloatKind.nearest .f64 (((ftoi .f64 y .i64).getD 0)))) 4607182418800017408)) 4618760256179416344) (fle .f64 4602678819172646912 (fadd .f64 (fsub .f64 y (FloatKind.nearest .f64 (((ftoi .f64 y .i64).getD 0)))) 4607182418800017408)) μ p k := by
  intro μ; induction μ with
  | zero => intro p k; rfl
  | succ μ ih => intro p k; rw [p_spec_l01SineWide_l1c_s, sinS, ih]
theorem spec_sine_l1d_eq (y : Nat) : ∀ (μ p : Nat) (k : Int), p_spec_l01SineWide_l1d y μ p k = sinS (fmul .f64 (fadd .f64 (fsub .f64 y (FloatKind.nearest .f64 (((ftoi .f64 y .i64).getD 0)))) 4607182418800017408) 4618760256179416344) (fle .f64 4602678819172646912 (fadd .f64 (fsub .f64 y (FloatKind.nearest .f64 (((ftoi .f64 y .i64).getD 0)))) 4607182418800017408)) μ p k := by
  intro μ; induction μ with
  | zero => intro p k; rfl
  | succ μ ih => intro p k; rw [p_spec_l01SineWide_l1d_s, sinS, ih]
theorem spec_sine_l1e_eq (y : Nat) : ∀ (μ p : Nat) (k : Int), p_spec_l01SineWide_l1e y μ p k = sinS (fmul .f64 (fsub .f64 4602678819172646912 (fsub .f64 (fsub .f64 y (FloatKind.nearest .f64 (((ftoi .f64 y .i64).getD 0)))) 4602678819172646912)) 4618760256179416344) (fle .f64 4602678819172646912 (fsub .f64 y (FloatKind.nearest .f64 (((ftoi .f64 y .i64).getD 0))))) μ p k := by
  intro μ; induction μ with
  | zero => intro p k; rfl
  | succ μ ih => intro p k; rw [p_spec_l01SineWide_l1e_s, sinS, ih]
theorem spec_sine_l1f_eq (y : Nat) : ∀ (μ p : Nat) (k : Int), p_spec_l01SineWide_l1f y μ p k = sinS (fmul .f64 (fsub .f64 (fsub .f64 y (FloatKind.nearest .f64 (((ftoi .f64 y .i64).getD 0)))) 4602678819172646912) 4618760256179416344) (fle .f64 4602678819172646912 (fsub .f64 y (FloatKind.nearest .f64 (((ftoi .f64 y .i64).getD 0))))) μ p k := by
  intro μ; induction μ with
  | zero => intro p k; rfl
  | succ μ ih => intro p k; rw [p_spec_l01SineWide_l1f_s, sinS, ih]
theorem spec_sine_l1g_eq (y : Nat) : ∀ (μ p : Nat) (k : Int), p_spec_l01SineWide_l1g y μ p k = sinS (fmul .f64 (fsub .f64 4602678819172646912 (fsub .f64 y (FloatKind.nearest .f64 (((ftoi .f64 y .i64).getD 0))))) 4618760256179416344) (fle .f64 4602678819172646912 (fsub .f64 y (FloatKind.nearest .f64 (((ftoi .f64 y .i64).getD 0))))) μ p k := by
  intro μ; induction μ with
  | zero => intro p k; rfl
  | succ μ ih => intro p k; rw [p_spec_l01SineWide_l1g_s, sinS, ih]
theorem spec_sine_l1h_eq (y : Nat) : ∀ (μ p : Nat) (k : Int), p_spec_l01SineWide_l1h y μ p k = sinS (fmul .f64 (fsub .f64 y (FloatKind.nearest .f64 (((ftoi .f64 y .i64).getD 0)))) 4618760256179416344) (fle .f64 4602678819172646912 (fsub .f64 y (FloatKind.nearest .f64 (((ftoi .f64 y .i64).getD 0))))) μ p k := by
  intro μ; induction μ with
  | zero => intro p k; rfl
  | succ μ ih => intro p k; rw [p_spec_l01SineWide_l1h_s, sinS, ih]
theorem spec_sine_val (y : Nat) (h : Bd .f64 (52 + lp .f64) y) (hw : In52 y) : p_spec_l01SineWide y = sineOf (fractOf y) := by
  rw [p_spec_l01SineWide_eq, fin_asked, h.1, hw.1, hw.2]
  simp only [spec_sine_l1_eq, spec_sine_l1b_eq, spec_sine_l1c_eq, spec_sine_l1d_eq, spec_sine_l1e_eq, spec_sine_l1f_eq, spec_sine_l1g_eq, spec_sine_l1h_eq, Bool.not_true, cond_false]
  unfold fractOf
  cases flt .f64 (fsub .f64 y (FloatKind.nearest .f64 (((ftoi .f64 y .i64).getD 0)))) 0
  · simp only [cond_false]; exact sineOf_bif _
  · simp only [cond_true]; exact sineOf_bif _
theorem spec_sine_bd (y : Nat) (h : Bd .f64 (1 + lp .f64) y) : Bd .f64 1140 (p_spec_l01SineWide y) := by
  rw [spec_sine_val y (h.mono o3) (in52 h)]; exact sineOf_bd (fractOf_bd (h.mono o3))
/-! spec_l01SineWide: function 155 -/
def E_spec_l01SineWide : Env := envOf [(159, S_math_NaN)]
def F_spec_l01SineWide : List Value → AHeap → (Value → AHeap → Prop) → Prop
  | [.float .f64 y], H, K => T_spec_l01SineWide y H fun (r1 : Nat) (H' : AHeap) => K (.float .f64 r1) H'
  | _, _, _ => False
def S_spec_l01SineWide : FSpec := { F := F_spec_l01SineWide, quiet := true, tame := false }
theorem spec_l01SineWide_vc (y : Nat) (H : AHeap) (K : Value → AHeap → Prop) : bodyL Try.prog E_spec_l01SineWide Try.f155 [.float .f64 y] H K =
  (Br (!(feq .f64 (fsub .f64 y y) 0)) (T_math_NaN  H fun (r1 : Nat) (H1 : AHeap) => K (.float .f64 r1) H1) (Br (fle .f64 4841369599423283200 y) (K (.float .f64 0) H) (Br (fle .f64 y 14064741636278059008) (K (.float .f64 0) H) (∃ n1 : Int, ftoi .f64 y .i64 = some n1 ∧ Br (flt .f64 (fsub .f64 y (FloatKind.nearest .f64 n1)) 0) (Br (fle .f64 4602678819172646912 (fadd .f64 (fsub .f64 y (FloatKind.nearest .f64 n1)) 4607182418800017408)) (Br (flt .f64 4598175219545276416 (fsub .f64 (fadd .f64 (fsub .f64 y (FloatKind.nearest .f64 n1)) 4607182418800017408) 4602678819172646912)) (loopK (exL Try.prog E_spec_l01SineWide (cl (cl (cr (cl (cr (cr (cr (cr (cr (cr (cr (cr (cr (cr (cr (bodyC Try.f155)))))))))))))))) 496 4 [(0, 176)]) [ud, ud, ud, ud, .bool (fle .f64 4602678819172646912 (fadd .f64 (fsub .f64 y (FloatKind.nearest .f64 n1)) 4607182418800017408)), .float .f64 (fmul .f64 (fsub .f64 4602678819172646912 (fsub .f64 (fadd .f64 (fsub .f64 y (FloatKind.nearest .f64 n1)) 4607182418800017408) 4602678819172646912)) 4618760256179416344), .float .f64 (fmul .f64 (fmul .f64 (fsub .f64 4602678819172646912 (fsub .f64 (fadd .f64 (fsub .f64 y (FloatKind.nearest .f64 n1)) 4607182418800017408) 4602678819172646912)) 4618760256179416344) (fmul .f64 (fsub .f64 4602678819172646912 (fsub .f64 (fadd .f64 (fsub .f64 y (FloatKind.nearest .f64 n1)) 4607182418800017408) 4602678819172646912)) 4618760256179416344)), .float .f64 4607182418800017408, .int .i64 8, ud, ud, ud, ud, ud, ud, ud, ud, ud, ud, ud, ud, ud, ud, ud, ud, ud, ud, ud, ud, ud, ud, ud, ud, ud, ud, ud, ud, ud, ud, ud, ud, ud, ud, ud, ud, ud, ud, ud, ud, ud, ud, ud, ud, ud, ud, ud, ud, ud, ud, ud, ud, ud, ud, ud, ud, ud, ud] H (blockQ 0 (seqQ (exL Try.prog E_spec_l01SineWide (cr (cr (cr (cr (cr (cr (cr (cr (cr (cr (cr (cr (bodyC Try.f155))))))))))))) 4 4 []) (retK Try.prog Try.f155 K)))) (loopK (exL Try.prog E_spec_l01SineWide (cl (cl (cr (cl (cr (cr (cr (cr (cr (cr (cr (cr (cr (cr (cr (bodyC Try.f155)))))))))))))))) 496 4 [(0, 176)]) [ud, ud, ud, ud, .bool (fle .f64 4602678819172646912 (fadd .f64 (fsub .f64 y (FloatKind.nearest .f64 n1)) 4607182418800017408)), .float .f64 (fmul .f64 (fsub .f64 (fadd .f64 (fsub .f64 y (FloatKind.nearest .f64 n1)) 4607182418800017408) 4602678819172646912) 4618760256179416344), .float .f64 (fmul .f64 (fmul .f64 (fsub .f64 (fadd .f64 (fsub .f64 y (FloatKind.nearest .f64 n1)) 4607182418800017408) 4602678819172646912) 4618760256179416344) (fmul .f64 (fsub .f64 (fadd .f64 (fsub .f64 y (FloatKind.nearest .f64 n1)) 4607182418800017408) 4602678819172646912) 4618760256179416344)), .float .f64 4607182418800017408, .int .i64 8, ud, ud, ud, ud, ud, ud, ud, ud, ud, ud, ud, ud, ud, ud, ud, ud, ud, ud, ud, ud, ud, ud, ud, ud, ud, ud, ud, ud, ud, ud, ud, ud, ud, ud, ud, ud, ud, ud, ud, ud, ud, ud, ud, ud, ud, ud, ud, ud, ud, ud, ud, ud, ud, ud, ud, ud, ud, ud] H (blockQ 0 (seqQ (exL Try.prog E_spec_l01SineWide (cr (cr (cr (cr (cr (cr (cr (cr (cr (cr (cr (cr (bodyC Try.f155))))))))))))) 4 4 []) (retK Try.prog Try.f155 K))))) (Br (flt .f64 4598175219545276416 (fadd .f64 (fsub .f64 y (FloatKind.nearest .f64 n1)) 4607182418800017408)) (loopK (exL Try.prog E_spec_l01SineWide (cl (cl (cr (cl (cr (cr (cr (cr (cr (cr (cr (cr (cr (cr (cr (bodyC Try.f155)))))))))))))))) 496 4 [(0, 176)]) [ud, ud, ud, ud, .bool (fle .f64 4602678819172646912 (fadd .f64 (fsub .f64 y (FloatKind.nearest .f64 n1)) 4607182418800017408)), .float .f64 (fmul .f64 (fsub .f64 4602678819172646912 (fadd .f64 (fsub .f64 y (FloatKind.nearest .f64 n1)) 4607182418800017408)) 4618760256179416344), .float .f64 (fmul .f64 (fmul .f64 (fsub .f64 4602678819172646912 (fadd .f64 (fsub .f64 y (FloatKind.nearest .f64 n1)) 4607182418800017408)) 4618760256179416344) (fmul .f64 (fsub .f64 4602678819172646912 (fadd .f64 (fsub .f64 y (FloatKind.nearest .f64 n1)) 4607182418800017408)) 4618760256179416344)), .float .f64 4607182418800017408, .int .i64 8, ud, ud, ud, ud, ud, ud, ud, ud, ud, ud, ud, ud, ud, ud, ud, ud, ud, ud, ud, ud, ud, ud, ud, ud, ud, ud, ud, ud, ud, ud, ud, ud, ud, ud, ud, ud, ud, ud, ud, ud, ud, ud, ud, ud, ud, ud, ud, ud, ud, ud, ud, ud, ud, ud, ud, ud, ud, ud] H (blockQ 0 (seqQ (exL Try.prog E_spec_l01SineWide (cr (cr (cr (cr (cr (cr (cr (cr (cr (cr (cr (cr (bodyC Try.f155))))))))))))) 4 4 []) (retK Try.prog Try.f155 K)))) (loopK (exL Try.prog E_spec_l01SineWide (cl (cl (cr (cl (cr (cr (cr (cr (cr (cr (cr (cr (cr (cr (cr (bodyC Try.f155)))))))))))))))) 496 4 [(0, 176)]) [ud, ud, ud, ud, .bool (fle .f64 4602678819172646912 (fadd .f64 (fsub .f64 y (FloatKind.nearest .f64 n1)) 4607182418800017408)), .float .f64 (fmul .f64 (fadd .f64 (fsub .f64 y (FloatKind.nearest .f64 n1)) 4607182418800017408) 4618760256179416344), .float .f64 (fmul .f64 (fmul .f64 (fadd .f64 (fsub .f64 y (FloatKind.nearest .f64 n1)) 4607182418800017408) 4618760256179416344) (fmul .f64 (fadd .f64 (fsub .f64 y (FloatKind.nearest .f64 n1)) 4607182418800017408) 4618760256179416344)), .float .f64 4607182418800017408, .int .i64 8, ud, ud, ud, ud, ud, ud, ud, ud, ud, ud, ud, ud, ud, ud, ud, ud, ud, ud, ud, ud, ud, ud, ud, ud, ud, ud, ud, ud, ud, ud, ud, ud, ud, ud, ud, ud, ud, ud, ud, ud, ud, ud, ud, ud, ud, ud, ud, ud, ud, ud, ud, ud, ud, ud, ud, ud, ud, ud] H (blockQ 0 (seqQ (exL Try.prog E_spec_l01SineWide (cr (cr (cr (cr (cr (cr (cr (cr (cr (cr (cr (cr (bodyC Try.f155))))))))))))) 4 4 []) (retK Try.prog Try.f155 K)))))) (Br (fle .f64 4602678819172646912 (fsub .f64 y (FloatKind.nearest .f64 n1))) (Br (flt .f64 4598175219545276416 (fsub .f64 (fsub .f64 y (FloatKind.nearest .f64 n1)) 4602678819172646912)) (loopK (exL Try.prog E_spec_l01SineWide (cl (cl (cr (cl (cr (cr (cr (cr (cr (cr (cr (cr (cr (cr (cr (bodyC Try.f155)))))))))))))))) 496 4 [(0, 176)]) [ud, ud, ud, ud, .bool (fle .f64 4602678819172646912 (fsub .f64 y (FloatKind.nearest .f64 n1))), .float .f64 (fmul .f64 (fsub .f64 4602678819172646912 (fsub .f64 (fsub .f64 y (FloatKind.nearest .f64 n1)) 4602678819172646912)) 4618760256179416344), .float .f64 (fmul .f64 (fmul .f64 (fsub .f64 4602678819172646912 (fsub .f64 (fsub .f64 y (FloatKind.nearest .f64 n1)) 4602678819172646912)) 4618760256179416344) (fmul .f64 (fsub .f64 4602678819172646912 (fsub .f64 (fsub .f64 y (FloatKind.nearest .f64 n1)) 4602678819172646912)) 4618760256179416344)), .float .f64 4607182418800017408, .int .i64 8, ud, ud, ud, ud, ud, ud, ud, ud, ud, ud, ud, ud, ud, ud, ud, ud, ud, ud, ud, ud, ud, ud, ud, ud, ud, ud, ud, ud, ud, ud, ud, ud, ud, ud, ud, ud, ud, ud, ud, ud, ud, ud, ud, ud, ud, ud, ud, ud, ud, ud, ud, ud, ud, ud, ud, ud, ud, ud] H (blockQ 0 (seqQ (exL Try.prog E_spec_l01SineWide (cr (cr (cr (cr (cr (cr (cr (cr (cr (cr (cr (cr (bodyC Try.f155))))))))))))) 4 4 []) (retK Try.prog Try.f155 K)))) (loopK (exL Try.prog E_spec_l01SineWide (cl (cl (cr (cl (cr (cr (cr (cr (cr (cr (cr (cr (cr (cr (cr (bodyC Try.f155)))))))))))))))) 496 4 [(0, 176)]) [ud, ud, ud, ud, .bool (fle .f64 4602678819172646912 (fsub .f64 y (FloatKind.nearest .f64 n1))), .float .f64 (fmul .f64 (fsub .f64 (fsub .f64 y (FloatKind.nearest .f64 n1)) 4602678819172646912) 4618760256179416344), .float .f64 (fmul .f64 (fmul .f64 (fsub .f64 (fsub .f64 y (FloatKind.nearest .f64 n1)) 4602678819172646912) 4618760256179416344) (fmul .f64 (fsub .f64 (fsub .f64 y (FloatKind.nearest .f64 n1)) 4602678819172646912) 4618760256179416344)), .float .f64 4607182418800017408, .int .i64 8, ud, ud, ud, ud, ud, ud, ud, ud, ud, ud, ud, ud, ud, ud, ud, ud, ud, ud, ud, ud, ud, ud, ud, ud, ud, ud, ud, ud, ud, ud, ud, ud, ud, ud, ud, ud, ud, ud, ud, ud, ud, ud, ud, ud, ud, ud, ud, ud, ud, ud, ud, ud, ud, ud, ud, ud, ud, ud] H (blockQ 0 (seqQ (exL Try.prog E_spec_l01SineWide (cr (cr (cr (cr (cr (cr (cr (cr (cr (cr (cr (cr (bodyC Try.f155))))))))))))) 4 4 []) (retK Try.prog Try.f155 K))))) (Br (flt .f64 4598175219545276416 (fsub .f64 y (FloatKind.nearest .f64 n1))) (loopK (exL Try.prog E_spec_l01SineWide (cl (cl (cr (cl (cr (cr (cr (cr (cr (cr (cr (cr (cr (cr (cr (bodyC Try.f155)))))))))))))))) 496 4 [(0, 176)]) [ud, ud, ud, ud, .bool (fle .f64 4602678819172646912 (fsub .f64 y (FloatKind.nearest .f64 n1))), .float .f64 (fmul .f64 (fsub .f64 4602678819172646912 (fsub .f64 y (FloatKind.nearest .f64 n1))) 4618760256179416344), .float .f64 (fmul .f64 (fmul .f64 (fsub .f64 4602678819172646912 (fsub .f64 y (FloatKind.nearest .f64 n1))) 4618760256179416344) (fmul .f64 (fsub .f64 4602678819172646912 (fsub .f64 y (FloatKind.nearest .f64 n1))) 4618760256179416344)), .float .f64 4607182418800017408, .int .i64 8, ud, ud, ud, ud, ud, ud, ud, ud, ud, ud, ud, ud, ud, ud, ud, ud, ud, ud, ud, ud, ud, ud, ud, ud, ud, ud, ud, ud, ud, ud, ud, ud, ud, ud, ud, ud, ud, ud, ud, ud, ud, ud, ud, ud, ud, ud, ud, ud, ud, ud, ud, ud, ud, ud, ud, ud, ud, ud] H (blockQ 0 (seqQ (exL Try.prog E_spec_l01SineWide (cr (cr (cr (cr (cr (cr (cr (cr (cr (cr (cr (cr (bodyC Try.f155))))))))))))) 4 4 []) (retK Try.prog Try.f155 K)))) (loopK (exL Try.prog E_spec_l01SineWide (cl (cl (cr (cl (cr (cr (cr (cr (cr (cr (cr (cr (cr (cr (cr (bodyC Try.f155)))))))))))))))) 496 4 [(0, 176)]) [ud, ud, ud, ud, .bool (fle .f64 4602678819172646912 (fsub .f64 y (FloatKind.nearest .f64 n1))), .float .f64 (fmul .f64 (fsub .f64 y (FloatKind.nearest .f64 n1)) 4618760256179416344), .float .f64 (fmul .f64 (fmul .f64 (fsub .f64 y (FloatKind.nearest .f64 n1)) 4618760256179416344) (fmul .f64 (fsub .f64 y (FloatKind.nearest .f64 n1)) 4618760256179416344)), .float .f64 4607182418800017408, .int .i64 8, ud, ud, ud, ud, ud, ud, ud, ud, ud, ud, ud, ud, ud, ud, ud, ud, ud, ud, ud, ud, ud, ud, ud, ud, ud, ud, ud, ud, ud, ud, ud, ud, ud, ud, ud, ud, ud, ud, ud, ud, ud, ud, ud, ud, ud, ud, ud, ud, ud, ud, ud, ud, ud, ud, ud, ud, ud, ud] H (blockQ 0 (seqQ (exL Try.prog E_spec_l01SineWide (cr (cr (cr (cr (cr (cr (cr (cr (cr (cr (cr (cr (bodyC Try.f155))))))))))))) 4 4 []) (retK Try.prog Try.f155 K)))))))))) := by kernel_rfl
abbrev spec_l01SineWide_P1 (z1_4 : Bool) (z1_5 : Nat) (z1_6 : Nat) (p : Nat) (k : Int)  : List Value := [ud, ud, ud, ud, .bool z1_4, .float .f64 z1_5, .float .f64 z1_6, .float .f64 p, .int .i64 k, ud, ud, ud, ud, ud, ud, ud, ud, ud, ud, ud, ud, ud, ud, ud, ud, ud, ud, ud, ud, ud, ud, ud, ud, ud, ud, ud, ud, ud, ud, ud, ud, ud, ud, ud, ud, ud, ud, ud, ud, ud, ud, ud, ud, ud, ud, ud, ud, ud, ud, ud, ud, ud, ud, ud, ud, ud, ud]
theorem spec_l01SineWide_r1 (z1_4 : Bool) (z1_5 : Nat) (z1_6 : Nat) (p : Nat) (k : Int)  (H : AHeap) (R : Post) : exL Try.prog E_spec_l01SineWide (cl (cl (cr (cl (cr (cr (cr (cr (cr (cr (cr (cr (cr (cr (cr (bodyC Try.f155)))))))))))))))) 496 4 [(0, 176)] (spec_l01SineWide_P1 z1_4 z1_5 z1_6 p k) H R =
  (Br (decide ((1 : Int) ≤ k)) (R .normal [ud, ud, ud, ud, .bool z1_4, .float .f64 z1_5, .float .f64 z1_6, .float .f64 (fsub .f64 4607182418800017408 (fdiv .f64 (fmul .f64 z1_6 p) (FloatKind.nearest .f64 (IntKind.wrap .i64 ((IntKind.wrap .i64 (2 * k)) * (IntKind.wrap .i64 ((IntKind.wrap .i64 (2 * k)) + 1))))))), .int .i64 (IntKind.wrap .i64 (k - 1)), ud, ud, ud, ud, ud, ud, ud, ud, ud, ud, ud, ud, ud, ud, ud, ud, ud, ud, ud, ud, ud, ud, ud, ud, ud, ud, ud, ud, ud, ud, ud, ud, ud, ud, ud, ud, ud, ud, ud, ud, ud, ud, ud, ud, ud, ud, ud, ud, ud, ud, ud, ud, ud, ud, ud, ud, ud, ud] H) (R (.exit 0) [ud, ud, ud, ud, .bool z1_4, .float .f64 z1_5, ud, .float .f64 p, ud, ud, ud, ud, ud, ud, ud, ud, ud, ud, ud, ud, ud, ud, ud, ud, ud, ud, ud, ud, ud, ud, ud, ud, ud, ud, ud, ud, ud, ud, ud, ud, ud, ud, ud, ud, ud, ud, ud, ud, ud, ud, ud, ud, ud, ud, ud, ud, ud, ud, ud, ud, ud, ud, ud, ud, ud, ud, ud] H)) := by kernel_rfl
def spec_l01SineWide_I1 (z1_4 : Bool) (z1_5 : Nat) (z1_6 : Nat) (Inv : Nat → Nat → Int → AHeap → Prop) : Nat → List Value → AHeap → Prop := fun μ tm H => ∃ (p : Nat), ∃ (k : Int), tm = (spec_l01SineWide_P1 z1_4 z1_5 z1_6 p k) ∧ Inv μ p k H
theorem spec_l01SineWide_L1 (z1_4 : Bool) (z1_5 : Nat) (z1_6 : Nat) {Q : Post} (Inv : Nat → Nat → Int → AHeap → Prop) (ν : Nat) (p : Nat) (k : Int)  (H : AHeap) (h0 : Inv ν p k H)
    (hs : ∀ (μ : Nat) (p : Nat) (k : Int)  (H : AHeap), Inv μ p k H → exL Try.prog E_spec_l01SineWide (cl (cl (cr (cl (cr (cr (cr (cr (cr (cr (cr (cr (cr (cr (cr (bodyC Try.f155)))))))))))))))) 496 4 [(0, 176)] (spec_l01SineWide_P1 z1_4 z1_5 z1_6 p k) H (loopQ (spec_l01SineWide_I1 z1_4 z1_5 z1_6 Inv) μ Q)) : loopK (exL Try.prog E_spec_l01SineWide (cl (cl (cr (cl (cr (cr (cr (cr (cr (cr (cr (cr (cr (cr (cr (bodyC Try.f155)))))))))))))))) 496 4 [(0, 176)]) (spec_l01SineWide_P1 z1_4 z1_5 z1_6 p k) H Q :=
  ⟨spec_l01SineWide_I1 z1_4 z1_5 z1_6 Inv, ν, ⟨p, k, rfl, h0⟩, fun μ tm H h => by obtain ⟨p, k, rfl, hI⟩ := h; exact hs μ p k  H hI⟩
theorem spec_l01SineWide_n1 {z1_4 : Bool} {z1_5 : Nat} {z1_6 : Nat} {Q : Post} {Inv : Nat → Nat → Int → AHeap → Prop} {μ : Nat} (μ' : Nat) {p : Nat} {k : Int}  {H : AHeap} (hm : μ' < μ) (hI : Inv μ' p k H) : loopQ (spec_l01SineWide_I1 z1_4 z1_5 z1_6 Inv) μ Q .normal (spec_l01SineWide_P1 z1_4 z1_5 z1_6 p k) H := ⟨μ', hm, p, k, rfl, hI⟩
theorem spec_l01SineWide_x1_0 (z1_4 : Bool) (z1_5 : Nat) (p : Nat) (H : AHeap) (K : Value → AHeap → Prop)  {I : Nat → List Value → AHeap → Prop} {μ : Nat} : loopQ I μ (blockQ 0 (seqQ (exL Try.prog E_spec_l01SineWide (cr (cr (cr (cr (cr (cr (cr (cr (cr (cr (cr (cr (bodyC Try.f155))))))))))))) 4 4 []) (retK Try.prog Try.f155 K))) (.exit 0) [ud, ud, ud, ud, .bool z1_4, .float .f64 z1_5, ud, .float .f64 p, ud, ud, ud, ud, ud, ud, ud, ud, ud, ud, ud, ud, ud, ud, ud, ud, ud, ud, ud, ud, ud, ud, ud, ud, ud, ud, ud, ud, ud, ud, ud, ud, ud, ud, ud, ud, ud, ud, ud, ud, ud, ud, ud, ud, ud, ud, ud, ud, ud, ud, ud, ud, ud, ud, ud, ud, ud, ud, ud] H =
  (Br z1_4 (K (.float .f64 (fneg .f64 (fmul .f64 z1_5 p))) H) (K (.float .f64 (fmul .f64 z1_5 p)) H)) := by kernel_rfl
theorem E_spec_l01SineWide_ok : ∀ g, FnOk Try.prog g (E_spec_l01SineWide g) := FnOk.envOf (by
  intro x hx
  simp only [List.mem_cons, List.not_mem_nil, or_false] at hx
  subst hx; exact math_NaN_ok)
set_option maxHeartbeats 1000000 in
theorem spec_l01SineWide_main (y : Nat) (H : AHeap) (K : Value → AHeap → Prop) (h : T_spec_l01SineWide y H fun (r1 : Nat) (H' : AHeap) => K (.float .f64 r1) H') : bodyL Try.prog E_spec_l01SineWide Try.f155 [.float .f64 y] H K := by
  rw [spec_l01SineWide_vc]
  have hk := h
  unfold T_spec_l01SineWide at hk
  have e : (p_spec_l01SineWide y) = _ := rfl
  have e := e.trans (p_spec_l01SineWide_eq y)
  have g0 := Grow.refl H
  refine Br.intro (fun c_1 => ?_) (fun c_1 => ?_)
  · have e := e.trans (cond_t c_1)
    have c_1n := nf_of_t c_1
    refine T_math_NaN_i ?_
    rw [e] at hk
    exact hk
  · have e := e.trans (cond_f c_1)
    have c_1n := nt_of_f c_1
    refine Br.intro (fun c_2 => ?_) (fun c_2 => ?_)
    · have e := e.trans (cond_t c_2)
      rw [e] at hk
      exact hk
    · have e := e.trans (cond_f c_2)
      refine Br.intro (fun c_3 => ?_) (fun c_3 => ?_)
      · have e := e.trans (cond_t c_3)
        rw [e] at hk
        exact hk
      · have e := e.trans (cond_f c_3)
        refine ⟨_, opt_get (d := 0) (by exact fract_ne (wide_in (by assumption) (by assumption) (by assumption))), ?_⟩
        refine Br.intro (fun c_4 => ?_) (fun c_4 => ?_)
        · have e := e.trans (cond_t c_4)
          refine Br.intro (fun c_5 => ?_) (fun c_5 => ?_)
          · have e := e.trans (cond_t c_5)
            refine Br.intro (fun c_6 => ?_) (fun c_6 => ?_)
            · have e := e.trans (cond_t c_6)
              refine spec_l01SineWide_L1 _ _ _ (fun (μ : Nat) (p : Nat) (k : Int) (H_1 : AHeap) => H = H_1 ∧ k ≤ (8 : Int) ∧ k - 1 + 1 ≤ (μ : Int) ∧ p_spec_l01SineWide y = p_spec_l01SineWide_l1 y (μ + 1) p k) (Int.toNat ((8 : Int) - 1 + 1)) _ _ H ?_ ?_
              · exact ⟨rfl, o6, o3, e⟩
              · intro μ p k  H_1 hI
                obtain ⟨rfl, v_7, hμ, e⟩ := hI
                rw [spec_l01SineWide_r1]
                have e := e.trans (p_spec_l01SineWide_l1_s y μ p k)
                have l_8 := g0.1
                refine Br.intro (fun c_9 => ?_) (fun c_9 => ?_)
                · have e := e.trans (cond_t c_9)
                  have c_9' := of_decide_eq_true c_9
                  rw [show IntKind.wrap .i64 (k - 1) = (k - 1) from wrap64 o3 o3]
                  refine spec_l01SineWide_n1 (μ - 1) o12 ⟨rfl, o1, o12, (by rw [show μ - 1 + 1 = μ from by first | omega]; exact e)⟩
                · have e := e.trans (cond_f c_9)
                  have c_9' := of_decide_eq_false c_9
                  rw [spec_l01SineWide_x1_0]
                  refine Br.intro (fun c_10 => ?_) (fun c_10 => ?_)
                  · have e := e.trans (cond_t c_10)
                    rw [e] at hk
                    exact hk
                  · have e := e.trans (cond_f c_10)
                    rw [e] at hk
                    exact hk
            · have e := e.trans (cond_f c_6)
              refine spec_l01SineWide_L1 _ _ _ (fun (μ : Nat) (p : Nat) (k : Int) (H_2 : AHeap) => H = H_2 ∧ k ≤ (8 : Int) ∧ k - 1 + 1 ≤ (μ : Int) ∧ p_spec_l01SineWide y = p_spec_l01SineWide_l1b y (μ + 1) p k) (Int.toNat ((8 : Int) - 1 + 1)) _ _ H ?_ ?_
              · exact ⟨rfl, o6, o3, e⟩
              · intro μ p k  H_2 hI
                obtain ⟨rfl, v_11, hμ, e⟩ := hI
                rw [spec_l01SineWide_r1]
                have e := e.trans (p_spec_l01SineWide_l1b_s y μ p k)
                have l_12 := g0.1
                refine Br.intro (fun c_13 => ?_) (fun c_13 => ?_)
                · have e := e.trans (cond_t c_13)
                  have c_13' := of_decide_eq_true c_13
                  rw [show IntKind.wrap .i64 (k - 1) = (k - 1) from wrap64 o3 o3]
                  refine spec_l01SineWide_n1 (μ - 1) o12 ⟨rfl, o1, o12, (by rw [show μ - 1 + 1 = μ from by first | omega]; exact e)⟩
                · have e := e.trans (cond_f c_13)
                  have c_13' := of_decide_eq_false c_13
                  rw [spec_l01SineWide_x1_0]
                  refine Br.intro (fun c_14 => ?_) (fun c_14 => ?_)
                  · have e := e.trans (cond_t c_14)
                    rw [e] at hk
                    exact hk
                  · have e := e.trans (cond_f c_14)
                    rw [e] at hk
                    exact hk
          · have e := e.trans (cond_f c_5)
            refine Br.intro (fun c_15 => ?_) (fun c_15 => ?_)
            · have e := e.trans (cond_t c_15)
              refine spec_l01SineWide_L1 _ _ _ (fun (μ : Nat) (p : Nat) (k : Int) (H_3 : AHeap) => H = H_3 ∧ k ≤ (8 : Int) ∧ k - 1 + 1 ≤ (μ : Int) ∧ p_spec_l01SineWide y = p_spec_l01SineWide_l1c y (μ + 1) p k) (Int.toNat ((8 : Int) - 1 + 1)) _ _ H ?_ ?_
              · exact ⟨rfl, o6, o3, e⟩
              · intro μ p k  H_3 hI
                obtain ⟨rfl, v_16, hμ, e⟩ := hI
                rw [spec_l01SineWide_r1]
                have e := e.trans (p_spec_l01SineWide_l1c_s y μ p k)
                have l_17 := g0.1
                refine Br.intro (fun c_18 => ?_) (fun c_18 => ?_)
                · have e := e.trans (cond_t c_18)
                  have c_18' := of_decide_eq_true c_18
                  rw [show IntKind.wrap .i64 (k - 1) = (k - 1) from wrap64 o3 o3]
                  refine spec_l01SineWide_n1 (μ - 1) o12 ⟨rfl, o1, o12, (by rw [show μ - 1 + 1 = μ from by first | omega]; exact e)⟩
                · have e := e.trans (cond_f c_18)
                  have c_18' := of_decide_eq_false c_18
                  rw [spec_l01SineWide_x1_0]
                  refine Br.intro (fun c_19 => ?_) (fun c_19 => ?_)
                  · have e := e.trans (cond_t c_19)
                    rw [e] at hk
                    exact hk
                  · have e := e.trans (cond_f c_19)
                    rw [e] at hk
                    exact hk
            · have e := e.trans (cond_f c_15)
              refine spec_l01SineWide_L1 _ _ _ (fun (μ : Nat) (p : Nat) (k : Int) (H_4 : AHeap) => H = H_4 ∧ k ≤ (8 : Int) ∧ k - 1 + 1 ≤ (μ : Int) ∧ p_spec_l01SineWide y = p_spec_l01SineWide_l1d y (μ + 1) p k) (Int.toNat ((8 : Int) - 1 + 1)) _ _ H ?_ ?_
              · exact ⟨rfl, o6, o3, e⟩
              · intro μ p k  H_4 hI
                obtain ⟨rfl, v_20, hμ, e⟩ := hI
                rw [spec_l01SineWide_r1]
                have e := e.trans (p_spec_l01SineWide_l1d_s y μ p k)
                have l_21 := g0.1
                refine Br.intro (fun c_22 => ?_) (fun c_22 => ?_)
                · have e := e.trans (cond_t c_22)
                  have c_22' := of_decide_eq_true c_22
                  rw [show IntKind.wrap .i64 (k - 1) = (k - 1) from wrap64 o3 o3]
                  refine spec_l01SineWide_n1 (μ - 1) o12 ⟨rfl, o1, o12, (by rw [show μ - 1 + 1 = μ from by first | omega]; exact e)⟩
                · have e := e.trans (cond_f c_22)
                  have c_22' := of_decide_eq_false c_22
                  rw [spec_l01SineWide_x1_0]
                  refine Br.intro (fun c_23 => ?_) (fun c_23 => ?_)
                  · have e := e.trans (cond_t c_23)
                    rw [e] at hk
                    exact hk
                  · have e := e.trans (cond_f c_23)
                    rw [e] at hk
                    exact hk
        · have e := e.trans (cond_f c_4)
          refine Br.intro (fun c_24 => ?_) (fun c_24 => ?_)
          · have e := e.trans (cond_t c_24)
            refine Br.intro (fun c_25 => ?_) (fun c_25 => ?_)
            · have e := e.trans (cond_t c_25)
              refine spec_l01SineWide_L1 _ _ _ (fun (μ : Nat) (p : Nat) (k : Int) (H_5 : AHeap) => H = H_5 ∧ k ≤ (8 : Int) ∧ k - 1 + 1 ≤ (μ : Int) ∧ p_spec_l01SineWide y = p_spec_l01SineWide_l1e y (μ + 1) p k) (Int.toNat ((8 : Int) - 1 + 1)) _ _ H ?_ ?_
              · exact ⟨rfl, o6, o3, e⟩
              · intro μ p k  H_5 hI
                obtain ⟨rfl, v_26, hμ, e⟩ := hI
                rw [spec_l01SineWide_r1]
                have e := e.trans (p_spec_l01SineWide_l1e_s y μ p k)
                have l_27 := g0.1
                refine Br.intro (fun c_28 => ?_) (fun c_28 => ?_)
                · have e := e.trans (cond_t c_28)
                  have c_28' := of_decide_eq_true c_28
                  rw [show IntKind.wrap .i64 (k - 1) = (k - 1) from wrap64 o3 o3]
                  refine spec_l01SineWide_n1 (μ - 1) o12 ⟨rfl, o1, o12, (by rw [show μ - 1 + 1 = μ from by first | omega]; exact e)⟩
                · have e := e.trans (cond_f c_28)
                  have c_28' := of_decide_eq_false c_28
                  rw [spec_l01SineWide_x1_0]
                  refine Br.intro (fun c_29 => ?_) (fun c_29 => ?_)
                  · have e := e.trans (cond_t c_29)
                    rw [e] at hk
                    exact hk
                  · have e := e.trans (cond_f c_29)
                    rw [e] at hk
                    exact hk
            · have e := e.trans (cond_f c_25)
              refine spec_l01SineWide_L1 _ _ _ (fun (μ : Nat) (p : Nat) (k : Int) (H_6 : AHeap) => H = H_6 ∧ k ≤ (8 : Int) ∧ k - 1 + 1 ≤ (μ : Int) ∧ p_spec_l01SineWide y = p_spec_l01SineWide_l1f y (μ + 1) p k) (Int.toNat ((8 : Int) - 1 + 1)) _ _ H ?_ ?_
              · exact ⟨rfl, o6, o3, e⟩
              · intro μ p k  H_6 hI
                obtain ⟨rfl, v_30, hμ, e⟩ := hI
                rw [spec_l01SineWide_r1]
                have e := e.trans (p_spec_l01SineWide_l1f_s y μ p k)
                have l_31 := g0.1
                refine Br.intro (fun c_32 => ?_) (fun c_32 => ?_)
                · have e := e.trans (cond_t c_32)
                  have c_32' := of_decide_eq_true c_32
                  rw [show IntKind.wrap .i64 (k - 1) = (k - 1) from wrap64 o3 o3]
                  refine spec_l01SineWide_n1 (μ - 1) o12 ⟨rfl, o1, o12, (by rw [show μ - 1 + 1 = μ from by first | omega]; exact e)⟩
                · have e := e.trans (cond_f c_32)
                  have c_32' := of_decide_eq_false c_32
                  rw [spec_l01SineWide_x1_0]
                  refine Br.intro (fun c_33 => ?_) (fun c_33 => ?_)
                  · have e := e.trans (cond_t c_33)
                    rw [e] at hk
                    exact hk
                  · have e := e.trans (cond_f c_33)
                    rw [e] at hk
                    exact hk
          · have e := e.trans (cond_f c_24)
            refine Br.intro (fun c_34 => ?_) (fun c_34 => ?_)
            · have e := e.trans (cond_t c_34)
              refine spec_l01SineWide_L1 _ _ _ (fun (μ : Nat) (p : Nat) (k : Int) (H_7 : AHeap) => H = H_7 ∧ k ≤ (8 : Int) ∧ k - 1 + 1 ≤ (μ : Int) ∧ p_spec_l01SineWide y = p_spec_l01SineWide_l1g y (μ + 1) p k) (Int.toNat ((8 : Int) - 1 + 1)) _ _ H ?_ ?_
              · exact ⟨rfl, o6, o3, e⟩
              · intro μ p k  H_7 hI
                obtain ⟨rfl, v_35, hμ, e⟩ := hI
                rw [spec_l01SineWide_r1]
                have e := e.trans (p_spec_l01SineWide_l1g_s y μ p k)
                have l_36 := g0.1
                refine Br.intro (fun c_37 => ?_) (fun c_37 => ?_)
                · have e := e.trans (cond_t c_37)
                  have c_37' := of_decide_eq_true c_37
                  rw [show IntKind.wrap .i64 (k - 1) = (k - 1) from wrap64 o3 o3]
                  refine spec_l01SineWide_n1 (μ - 1) o12 ⟨rfl, o1, o12, (by rw [show μ - 1 + 1 = μ from by first | omega]; exact e)⟩
                · have e := e.trans (cond_f c_37)
                  have c_37' := of_decide_eq_false c_37
                  rw [spec_l01SineWide_x1_0]
                  refine Br.intro (fun c_38 => ?_) (fun c_38 => ?_)
                  · have e := e.trans (cond_t c_38)
                    rw [e] at hk
                    exact hk
                  · have e := e.trans (cond_f c_38)
                    rw [e] at hk
                    exact hk
            · have e := e.trans (cond_f c_34)
              refine spec_l01SineWide_L1 _ _ _ (fun (μ : Nat) (p : Nat) (k : Int) (H_8 : AHeap) => H = H_8 ∧ k ≤ (8 : Int) ∧ k - 1 + 1 ≤ (μ : Int) ∧ p_spec_l01SineWide y = p_spec_l01SineWide_l1h y (μ + 1) p k) (Int.toNat ((8 : Int) - 1 + 1)) _ _ H ?_ ?_
              · exact ⟨rfl, o6, o3, e⟩
              · intro μ p k  H_8 hI
                obtain ⟨rfl, v_39, hμ, e⟩ := hI
                rw [spec_l01SineWide_r1]
                have e := e.trans (p_spec_l01SineWide_l1h_s y μ p k)
                have l_40 := g0.1
                refine Br.intro (fun c_41 => ?_) (fun c_41 => ?_)
                · have e := e.trans (cond_t c_41)
                  have c_41' := of_decide_eq_true c_41
                  rw [show IntKind.wrap .i64 (k - 1) = (k - 1) from wrap64 o3 o3]
                  refine spec_l01SineWide_n1 (μ - 1) o12 ⟨rfl, o1, o12, (by rw [show μ - 1 + 1 = μ from by first | omega]; exact e)⟩
                · have e := e.trans (cond_f c_41)
                  have c_41' := of_decide_eq_false c_41
                  rw [spec_l01SineWide_x1_0]
                  refine Br.intro (fun c_42 => ?_) (fun c_42 => ?_)
                  · have e := e.trans (cond_t c_42)
                    rw [e] at hk
                    exact hk
                  · have e := e.trans (cond_f c_42)
                    rw [e] at hk
                    exact hk
theorem spec_l01SineWide_ok : FnOk Try.prog 155 S_spec_l01SineWide := by
  refine FnOk.body mix_ok E_spec_l01SineWide_ok Try.func155 rfl (by kernel_rfl) (by kernel_rfl) ?_ ?_ ?_ ?_ ?_
  · intro args H K K' h hk
    simp only [S_spec_l01SineWide] at *
    unfold F_spec_l01SineWide at *
    split at hk
    · have k := hk
      exact h _ _ k
    · exact hk.elim
  · intro _ args H K hk
    simp only [S_spec_l01SineWide] at *
    unfold F_spec_l01SineWide at *
    split at hk
    · have k := hk
      exact ⟨_, k, fun K' k' => k'⟩
    · exact hk.elim
  · intro args H K hk
    simp only [S_spec_l01SineWide] at *
    unfold F_spec_l01SineWide at *
    split at hk
    · have k := hk
      exact ⟨_, _, k⟩
    · exact hk.elim
  · intro hq; cases hq
  · have mm := @spec_l01SineWide_main
    have ml := fun (args : List Value) (H : AHeap) (K : Value → AHeap → Prop) => bodyL_body (P := Try.prog) (env := E_spec_l01SineWide ) (fn := Try.f155) (args := args) (H := H) (K := K) E_spec_l01SineWide_ok 
    revert mm ml
    generalize bodyK Try.prog E_spec_l01SineWide Try.f155 = Q
    generalize bodyL Try.prog E_spec_l01SineWide Try.f155 = QL
    intro mm ml args H K hk
    simp only [S_spec_l01SineWide] at *
    unfold F_spec_l01SineWide at *
    split at hk
    · exact ml _ H K (mm _ H K hk)
    · exact hk.elim

def p_spec_l01Phasor_l1 (turns : Nat) : Nat → Nat → Int → Nat × Nat
  | 0, _, _ => (0, 0)
  | μ + 1, f, quarter => (bif fle .f64 4598175219545276416 f then (p_spec_l01Phasor_l1 turns μ (fsub .f64 f 4598175219545276416) (quarter + 1)) else (bif (quarter : Int) == 1 then ((p_spec_l01Narrow (fsub .f64 0 (p_spec_l01SineWide f))), (p_spec_l01Narrow ((p_spec_l01SineWide (fsub .f64 4598175219545276416 f))))) else (bif (quarter : Int) == 2 then ((p_spec_l01Narrow (fsub .f64 0 ((p_spec_l01SineWide (fsub .f64 4598175219545276416 f))))), (p_spec_l01Narrow (fsub .f64 0 (p_spec_l01SineWide f)))) else (bif (quarter : Int) == 3 then ((p_spec_l01Narrow (p_spec_l01SineWide f)), (p_spec_l01Narrow (fsub .f64 0 ((p_spec_l01SineWide (fsub .f64 4598175219545276416 f)))))) else ((p_spec_l01Narrow ((p_spec_l01SineWide (fsub .f64 4598175219545276416 f)))), (p_spec_l01Narrow (p_spec_l01SineWide f)))))))
def p_spec_l01Phasor_l1_s := fun turns μ f quarter => @p_spec_l01Phasor_l1.eq_2 turns f quarter μ
def p_spec_l01Phasor (turns : Nat) : Nat × Nat := (bif !(feq .f64 (fsub .f64 turns turns) 0) then ((p_spec_l01From (2143289344 : Int)), (p_spec_l01From (2143289344 : Int))) else (bif fle .f64 4841369599423283200 turns then (1065353216, 0) else (bif fle .f64 turns 14064741636278059008 then (1065353216, 0) else (bif flt .f64 (fsub .f64 turns (FloatKind.nearest .f64 (((ftoi .f64 turns .i64).getD 0)))) 0 then (p_spec_l01Phasor_l1 turns (Int.toNat (qm (fadd .f64 (fsub .f64 turns (FloatKind.nearest .f64 (((ftoi .f64 turns .i64).getD 0)))) 4607182418800017408)) + 1) (fadd .f64 (fsub .f64 turns (FloatKind.nearest .f64 (((ftoi .f64 turns .i64).getD 0)))) 4607182418800017408) (0 : Int)) else (p_spec_l01Phasor_l1 turns (Int.toNat (qm (fsub .f64 turns (FloatKind.nearest .f64 (((ftoi .f64 turns .i64).getD 0))))) + 1) (fsub .f64 turns (FloatKind.nearest .f64 (((ftoi .f64 turns .i64).getD 0)))) (0 : Int))))))
def p_spec_l01Phasor_eq := @p_spec_l01Phasor.eq_1
def T_spec_l01Phasor (turns : Nat) (H : AHeap) (K : Nat → Nat → AHeap → Prop) : Prop := K ((p_spec_l01Phasor turns).1) ((p_spec_l01Phasor turns).2) H
theorem T_spec_l01Phasor_i {turns : Nat} {H : AHeap} {K : Nat → Nat → AHeap → Prop} (h : K ((p_spec_l01Phasor turns).1) ((p_spec_l01Phasor turns).2) H) : T_spec_l01Phasor turns H K := h

/-! spec_l01Phasor: function 111 -/
def E_spec_l01Phasor : Env := envOf [(154, S_spec_l01From), (155, S_spec_l01SineWide), (112, S_spec_l01Narrow)]
def F_spec_l01Phasor : List Value → AHeap → (Value → AHeap → Prop) → Prop
  | [.float .f64 turns], H, K => T_spec_l01Phasor turns H fun (r1_r : Nat) (r1_i : Nat) (H' : AHeap) => K (.complex .f32 r1_r r1_i) H'
  | _, _, _ => False
def S_spec_l01Phasor : FSpec := { F := F_spec_l01Phasor, quiet := true, tame := false }
theorem spec_l01Phasor_vc (turns : Nat) (H : AHeap) (K : Value → AHeap → Prop) : bodyL Try.prog E_spec_l01Phasor Try.f111 [.float .f64 turns] H K =
  (Br (!(feq .f64 (fsub .f64 turns turns) 0)) (T_spec_l01From 2143289344 H fun (r1 : Nat) (H1 : AHeap) => T_spec_l01From 2143289344 H1 fun (r2 : Nat) (H2 : AHeap) => K (.complex .f32 r1 r2) H2) (Br (fle .f64 4841369599423283200 turns) (K (.complex .f32 1065353216 0) H) (Br (fle .f64 turns 14064741636278059008) (K (.complex .f32 1065353216 0) H) (∃ n1 : Int, ftoi .f64 turns .i64 = some n1 ∧ Br (flt .f64 (fsub .f64 turns (FloatKind.nearest .f64 n1)) 0) (loopK (exL Try.prog E_spec_l01Phasor (cl (cl (cl (cr (cr (cr (cr (cr (cr (bodyC Try.f111)))))))))) 24 4 [(0, 24)]) [ud, ud, ud, .float .f64 (fadd .f64 (fsub .f64 turns (FloatKind.nearest .f64 n1)) 4607182418800017408), .int .i64 0, ud, ud, ud, ud, ud, ud, ud, ud, ud, ud, ud, ud, ud, ud, ud, ud, ud, ud, ud, ud, ud, ud, ud, ud, ud, ud, ud, ud, ud, ud, ud, ud, ud, ud, ud, ud, ud, ud, ud, ud, ud, ud, ud, ud, ud, ud, ud, ud, ud, ud, ud, ud, ud, ud, ud, ud, ud, ud, ud, ud, ud, ud, ud, ud, ud, ud] H (blockQ 0 (seqQ (exL Try.prog E_spec_l01Phasor (cr (cr (cr (cr (cr (cr (cr (bodyC Try.f111)))))))) 4 4 []) (retK Try.prog Try.f111 K)))) (loopK (exL Try.prog E_spec_l01Phasor (cl (cl (cl (cr (cr (cr (cr (cr (cr (bodyC Try.f111)))))))))) 24 4 [(0, 24)]) [ud, ud, ud, .float .f64 (fsub .f64 turns (FloatKind.nearest .f64 n1)), .int .i64 0, ud, ud, ud, ud, ud, ud, ud, ud, ud, ud, ud, ud, ud, ud, ud, ud, ud, ud, ud, ud, ud, ud, ud, ud, ud, ud, ud, ud, ud, ud, ud, ud, ud, ud, ud, ud, ud, ud, ud, ud, ud, ud, ud, ud, ud, ud, ud, ud, ud, ud, ud, ud, ud, ud, ud, ud, ud, ud, ud, ud, ud, ud, ud, ud, ud, ud] H (blockQ 0 (seqQ (exL Try.prog E_spec_l01Phasor (cr (cr (cr (cr (cr (cr (cr (bodyC Try.f111)))))))) 4 4 []) (retK Try.prog Try.f111 K)))))))) := by kernel_rfl
abbrev spec_l01Phasor_P1  (f : Nat) (quarter : Int)  : List Value := [ud, ud, ud, .float .f64 f, .int .i64 quarter, ud, ud, ud, ud, ud, ud, ud, ud, ud, ud, ud, ud, ud, ud, ud, ud, ud, ud, ud, ud, ud, ud, ud, ud, ud, ud, ud, ud, ud, ud, ud, ud, ud, ud, ud, ud, ud, ud, ud, ud, ud, ud, ud, ud, ud, ud, ud, ud, ud, ud, ud, ud, ud, ud, ud, ud, ud, ud, ud, ud, ud, ud, ud, ud, ud, ud]
theorem spec_l01Phasor_r1  (f : Nat) (quarter : Int)  (H : AHeap) (R : Post) : exL Try.prog E_spec_l01Phasor (cl (cl (cl (cr (cr (cr (cr (cr (cr (bodyC Try.f111)))))))))) 24 4 [(0, 24)] (spec_l01Phasor_P1 f quarter) H R =
  (Br (fle .f64 4598175219545276416 f) (R .normal [ud, ud, ud, .float .f64 (fsub .f64 f 4598175219545276416), .int .i64 (IntKind.wrap .i64 (quarter + 1)), ud, ud, ud, ud, ud, ud, ud, ud, ud, ud, ud, ud, ud, ud, ud, ud, ud, ud, ud, ud, ud, ud, ud, ud, ud, ud, ud, ud, ud, ud, ud, ud, ud, ud, ud, ud, ud, ud, ud, ud, ud, ud, ud, ud, ud, ud, ud, ud, ud, ud, ud, ud, ud, ud, ud, ud, ud, ud, ud, ud, ud, ud, ud, ud, ud, ud] H) (R (.exit 0) [ud, ud, ud, .float .f64 f, .int .i64 quarter, ud, ud, ud, ud, ud, ud, ud, ud, ud, ud, ud, ud, ud, ud, ud, ud, ud, ud, ud, ud, ud, ud, ud, ud, ud, ud, ud, ud, ud, ud, ud, ud, ud, ud, ud, ud, ud, ud, ud, ud, ud, ud, ud, ud, ud, ud, ud, ud, ud, ud, ud, ud, ud, ud, ud, ud, ud, ud, ud, ud, ud, ud, ud, ud, ud, ud] H)) := by kernel_rfl
def spec_l01Phasor_I1  (Inv : Nat → Nat → Int → AHeap → Prop) : Nat → List Value → AHeap → Prop := fun μ tm H => ∃ (f : Nat), ∃ (quarter : Int), tm = (spec_l01Phasor_P1 f quarter) ∧ Inv μ f quarter H
theorem spec_l01Phasor_L1  {Q : Post} (Inv : Nat → Nat → Int → AHeap → Prop) (ν : Nat) (f : Nat) (quarter : Int)  (H : AHeap) (h0 : Inv ν f quarter H)
    (hs : ∀ (μ : Nat) (f : Nat) (quarter : Int)  (H : AHeap), Inv μ f quarter H → exL Try.prog E_spec_l01Phasor (cl (cl (cl (cr (cr (cr (cr (cr (cr (bodyC Try.f111)))))))))) 24 4 [(0, 24)] (spec_l01Phasor_P1 f quarter) H (loopQ (spec_l01Phasor_I1  Inv) μ Q)) : loopK (exL Try.prog E_spec_l01Phasor (cl (cl (cl (cr (cr (cr (cr (cr (cr (bodyC Try.f111)))))))))) 24 4 [(0, 24)]) (spec_l01Phasor_P1 f quarter) H Q :=
  ⟨spec_l01Phasor_I1  Inv, ν, ⟨f, quarter, rfl, h0⟩, fun μ tm H h => by obtain ⟨f, quarter, rfl, hI⟩ := h; exact hs μ f quarter  H hI⟩
theorem spec_l01Phasor_n1  {Q : Post} {Inv : Nat → Nat → Int → AHeap → Prop} {μ : Nat} (μ' : Nat) {f : Nat} {quarter : Int}  {H : AHeap} (hm : μ' < μ) (hI : Inv μ' f quarter H) : loopQ (spec_l01Phasor_I1  Inv) μ Q .normal (spec_l01Phasor_P1 f quarter) H := ⟨μ', hm, f, quarter, rfl, hI⟩
theorem spec_l01Phasor_x1_0 (f : Nat) (quarter : Int) (H : AHeap) (K : Value → AHeap → Prop)  {I : Nat → List Value → AHeap → Prop} {μ : Nat} : loopQ I μ (blockQ 0 (seqQ (exL Try.prog E_spec_l01Phasor (cr (cr (cr (cr (cr (cr (cr (bodyC Try.f111)))))))) 4 4 []) (retK Try.prog Try.f111 K))) (.exit 0) [ud, ud, ud, .float .f64 f, .int .i64 quarter, ud, ud, ud, ud, ud, ud, ud, ud, ud, ud, ud, ud, ud, ud, ud, ud, ud, ud, ud, ud, ud, ud, ud, ud, ud, ud, ud, ud, ud, ud, ud, ud, ud, ud, ud, ud, ud, ud, ud, ud, ud, ud, ud, ud, ud, ud, ud, ud, ud, ud, ud, ud, ud, ud, ud, ud, ud, ud, ud, ud, ud, ud, ud, ud, ud, ud] H =
  (T_spec_l01SineWide (fsub .f64 4598175219545276416 f) H fun (r3 : Nat) (H3 : AHeap) => T_spec_l01SineWide f H3 fun (r4 : Nat) (H4 : AHeap) => Br ((quarter : Int) == 1) (T_spec_l01Narrow (fsub .f64 0 r4) H4 fun (r5 : Nat) (H5 : AHeap) => T_spec_l01Narrow r3 H5 fun (r6 : Nat) (H6 : AHeap) => K (.complex .f32 r5 r6) H6) (Br ((quarter : Int) == 2) (T_spec_l01Narrow (fsub .f64 0 r3) H4 fun (r7 : Nat) (H7 : AHeap) => T_spec_l01Narrow (fsub .f64 0 r4) H7 fun (r8 : Nat) (H8 : AHeap) => K (.complex .f32 r7 r8) H8) (Br ((quarter : Int) == 3) (T_spec_l01Narrow r4 H4 fun (r9 : Nat) (H9 : AHeap) => T_spec_l01Narrow (fsub .f64 0 r3) H9 fun (r10 : Nat) (H10 : AHeap) => K (.complex .f32 r9 r10) H10) (T_spec_l01Narrow r3 H4 fun (r11 : Nat) (H11 : AHeap) => T_spec_l01Narrow r4 H11 fun (r12 : Nat) (H12 : AHeap) => K (.complex .f32 r11 r12) H12)))) := by kernel_rfl
theorem E_spec_l01Phasor_ok : ∀ g, FnOk Try.prog g (E_spec_l01Phasor g) := FnOk.envOf (by
  intro x hx
  simp only [List.mem_cons, List.not_mem_nil, or_false] at hx
  rcases hx with rfl | rfl | rfl
  · exact spec_l01From_ok
  · exact spec_l01SineWide_ok
  · exact spec_l01Narrow_ok)
theorem o5 {P : Prop} (h : P := by first | omega | (simp; done) | (simp; omega) | (first | omega | with_reducible exact (qm_step (by assumption) (by assumption)).1 | with_reducible exact (fract_bd (wide_in (by assumption) (by assumption) (by assumption))) | with_reducible exact (fract_bd1 (wide_in (by assumption) (by assumption) (by assumption)) (by assumption)) | (have := (qm_step (by assumption) (by assumption)); have := qm_le (qm_step (by assumption) (by assumption)).1; omega) | (have := qm_le (fract_bd1 (wide_in (by assumption) (by assumption) (by assumption)) (by assumption)); omega) | (have := qm_le (fract_bd (wide_in (by assumption) (by assumption) (by assumption))); omega))) : P := h
theorem o26 {P : Prop} (h : P := by first | omega | (have := qm_step (by assumption) (by assumption); omega)) : P := h
theorem o2 {P : Prop} (h : P := by first | omega | (first | omega | with_reducible exact (qm_step (by assumption) (by assumption)).1 | with_reducible exact (fract_bd (wide_in (by assumption) (by assumption) (by assumption))) | with_reducible exact (fract_bd1 (wide_in (by assumption) (by assumption) (by assumption)) (by assumption)) | (have := (qm_step (by assumption) (by assumption)); have := qm_le (qm_step (by assumption) (by assumption)).1; omega) | (have := qm_le (fract_bd1 (wide_in (by assumption) (by assumption) (by assumption)) (by assumption)); omega) | (have := qm_le (fract_bd (wide_in (by assumption) (by assumption) (by assumption))); omega)) | (simp only [List.length_append, List.length_cons, List.length_nil, List.length_set]; done) | (simp only [List.length_append, List.length_cons, List.length_nil, List.length_set]; omega)) : P := h
theorem o32 {P : Prop} (h : P := by first | exact lp_up1 (by assumption) | exact rest_bd1 (by assumption)) : P := h
theorem o11 {P : Prop} (h : P := by first | assumption | omega | (simp; omega) | (first | exact bd_nar (by assumption) | exact bd_nar0 (by assumption))) : P := h
set_option maxHeartbeats 1000000 in
theorem spec_l01Phasor_main (turns : Nat) (H : AHeap) (K : Value → AHeap → Prop) (h : T_spec_l01Phasor turns H fun (r1_r : Nat) (r1_i : Nat) (H' : AHeap) => K (.complex .f32 r1_r r1_i) H') : bodyL Try.prog E_spec_l01Phasor Try.f111 [.float .f64 turns] H K := by
  rw [spec_l01Phasor_vc]
  have hk := h
  unfold T_spec_l01Phasor at hk
  have e : (p_spec_l01Phasor turns) = _ := rfl
  have e := e.trans (p_spec_l01Phasor_eq turns)
  have g0 := Grow.refl H
  refine Br.intro (fun c_1 => ?_) (fun c_1 => ?_)
  · have e := e.trans (cond_t c_1)
    have c_1n := nf_of_t c_1
    refine T_spec_l01From_i ?_
    refine T_spec_l01From_i ?_
    rw [e] at hk
    exact hk
  · have e := e.trans (cond_f c_1)
    have c_1n := nt_of_f c_1
    refine Br.intro (fun c_2 => ?_) (fun c_2 => ?_)
    · have e := e.trans (cond_t c_2)
      rw [e] at hk
      exact hk
    · have e := e.trans (cond_f c_2)
      refine Br.intro (fun c_3 => ?_) (fun c_3 => ?_)
      · have e := e.trans (cond_t c_3)
        rw [e] at hk
        exact hk
      · have e := e.trans (cond_f c_3)
        refine ⟨_, opt_get (d := 0) (by exact fract_ne (wide_in (by assumption) (by assumption) (by assumption))), ?_⟩
        refine Br.intro (fun c_4 => ?_) (fun c_4 => ?_)
        · have e := e.trans (cond_t c_4)
          refine spec_l01Phasor_L1  (fun (μ : Nat) (f : Nat) (quarter : Int) (H_1 : AHeap) => H = H_1 ∧ Bd .f64 (lp .f64) f ∧ 0 ≤ quarter ∧ quarter + qm f ≤ 4 ∧ -4 ≤ qm f ∧ qm f ≤ (μ : Int) ∧ p_spec_l01Phasor turns = p_spec_l01Phasor_l1 turns (μ + 1) f quarter) (Int.toNat (qm (fadd .f64 (fsub .f64 turns (FloatKind.nearest .f64 (((ftoi .f64 turns .i64).getD 0)))) 4607182418800017408))) _ _ H ?_ ?_
          · exact ⟨rfl, o5, o5, o5, o5, o3, e⟩
          · intro μ f quarter  H_1 hI
            obtain ⟨rfl, v_5, v_6, v_7, v_8, hμ, e⟩ := hI
            rw [spec_l01Phasor_r1]
            have e := e.trans (p_spec_l01Phasor_l1_s turns μ f quarter)
            have l_9 := g0.1
            refine Br.intro (fun c_10 => ?_) (fun c_10 => ?_)
            · have e := e.trans (cond_t c_10)
              rw [show IntKind.wrap .i64 (quarter + 1) = (quarter + 1) from wrap64 o3 o3]
              refine spec_l01Phasor_n1 (μ - 1) o26 ⟨rfl, o2, o2, o2, o2, o26, (by rw [show μ - 1 + 1 = μ from by first | omega | (have := qm_step (by assumption) (by assumption); omega)]; exact e)⟩
            · have e := e.trans (cond_f c_10)
              rw [spec_l01Phasor_x1_0]
              refine T_spec_l01SineWide_i ?_
              have z_11 := spec_sine_bd (fsub .f64 4598175219545276416 f) o32
              refine T_spec_l01SineWide_i ?_
              have z_12 := spec_sine_bd f o32
              refine Br.intro (fun c_13 => ?_) (fun c_13 => ?_)
              · have e := e.trans (cond_t c_13)
                have c_13' := ieq_t c_13
                refine T_spec_l01Narrow_i ⟨o11, ?_⟩
                refine T_spec_l01Narrow_i ⟨o11, ?_⟩
                rw [e] at hk
                exact hk
              · have e := e.trans (cond_f c_13)
                have c_13' := ieq_f c_13
                refine Br.intro (fun c_14 => ?_) (fun c_14 => ?_)
                · have e := e.trans (cond_t c_14)
                  have c_14' := ieq_t c_14
                  refine T_spec_l01Narrow_i ⟨o11, ?_⟩
                  refine T_spec_l01Narrow_i ⟨o11, ?_⟩
                  rw [e] at hk
                  exact hk
                · have e := e.trans (cond_f c_14)
                  have c_14' := ieq_f c_14
                  refine Br.intro (fun c_15 => ?_) (fun c_15 => ?_)
                  · have e := e.trans (cond_t c_15)
                    have c_15' := ieq_t c_15
                    refine T_spec_l01Narrow_i ⟨o11, ?_⟩
                    refine T_spec_l01Narrow_i ⟨o11, ?_⟩
                    rw [e] at hk
                    exact hk
                  · have e := e.trans (cond_f c_15)
                    have c_15' := ieq_f c_15
                    refine T_spec_l01Narrow_i ⟨o11, ?_⟩
                    refine T_spec_l01Narrow_i ⟨o11, ?_⟩
                    rw [e] at hk
                    exact hk
        · have e := e.trans (cond_f c_4)
          refine spec_l01Phasor_L1  (fun (μ : Nat) (f : Nat) (quarter : Int) (H_2 : AHeap) => H = H_2 ∧ Bd .f64 (lp .f64) f ∧ 0 ≤ quarter ∧ quarter + qm f ≤ 4 ∧ -4 ≤ qm f ∧ qm f ≤ (μ : Int) ∧ p_spec_l01Phasor turns = p_spec_l01Phasor_l1 turns (μ + 1) f quarter) (Int.toNat (qm (fsub .f64 turns (FloatKind.nearest .f64 (((ftoi .f64 turns .i64).getD 0)))))) _ _ H ?_ ?_
          · exact ⟨rfl, o5, o5, o5, o5, o3, e⟩
          · intro μ f quarter  H_2 hI
            obtain ⟨rfl, v_16, v_17, v_18, v_19, hμ, e⟩ := hI
            rw [spec_l01Phasor_r1]
            have e := e.trans (p_spec_l01Phasor_l1_s turns μ f quarter)
            have l_20 := g0.1
            refine Br.intro (fun c_21 => ?_) (fun c_21 => ?_)
            · have e := e.trans (cond_t c_21)
              rw [show IntKind.wrap .i64 (quarter + 1) = (quarter + 1) from wrap64 o3 o3]
              refine spec_l01Phasor_n1 (μ - 1) o26 ⟨rfl, o2, o2, o2, o2, o26, (by rw [show μ - 1 + 1 = μ from by first | omega | (have := qm_step (by assumption) (by assumption); omega)]; exact e)⟩
            · have e := e.trans (cond_f c_21)
              rw [spec_l01Phasor_x1_0]
              refine T_spec_l01SineWide_i ?_
              have z_22 := spec_sine_bd (fsub .f64 4598175219545276416 f) o32
              refine T_spec_l01SineWide_i ?_
              have z_23 := spec_sine_bd f o32
              refine Br.intro (fun c_24 => ?_) (fun c_24 => ?_)
              · have e := e.trans (cond_t c_24)
                have c_24' := ieq_t c_24
                refine T_spec_l01Narrow_i ⟨o11, ?_⟩
                refine T_spec_l01Narrow_i ⟨o11, ?_⟩
                rw [e] at hk
                exact hk
              · have e := e.trans (cond_f c_24)
                have c_24' := ieq_f c_24
                refine Br.intro (fun c_25 => ?_) (fun c_25 => ?_)
                · have e := e.trans (cond_t c_25)
                  have c_25' := ieq_t c_25
                  refine T_spec_l01Narrow_i ⟨o11, ?_⟩
                  refine T_spec_l01Narrow_i ⟨o11, ?_⟩
                  rw [e] at hk
                  exact hk
                · have e := e.trans (cond_f c_25)
                  have c_25' := ieq_f c_25
                  refine Br.intro (fun c_26 => ?_) (fun c_26 => ?_)
                  · have e := e.trans (cond_t c_26)
                    have c_26' := ieq_t c_26
                    refine T_spec_l01Narrow_i ⟨o11, ?_⟩
                    refine T_spec_l01Narrow_i ⟨o11, ?_⟩
                    rw [e] at hk
                    exact hk
                  · have e := e.trans (cond_f c_26)
                    have c_26' := ieq_f c_26
                    refine T_spec_l01Narrow_i ⟨o11, ?_⟩
                    refine T_spec_l01Narrow_i ⟨o11, ?_⟩
                    rw [e] at hk
                    exact hk
theorem spec_l01Phasor_ok : FnOk Try.prog 111 S_spec_l01Phasor := by
  refine FnOk.body mix_ok E_spec_l01Phasor_ok Try.func111 rfl (by kernel_rfl) (by kernel_rfl) ?_ ?_ ?_ ?_ ?_
  · intro args H K K' h hk
    simp only [S_spec_l01Phasor] at *
    unfold F_spec_l01Phasor at *
    split at hk
    · have k := hk
      exact h _ _ k
    · exact hk.elim
  · intro _ args H K hk
    simp only [S_spec_l01Phasor] at *
    unfold F_spec_l01Phasor at *
    split at hk
    · have k := hk
      exact ⟨_, k, fun K' k' => k'⟩
    · exact hk.elim
  · intro args H K hk
    simp only [S_spec_l01Phasor] at *
    unfold F_spec_l01Phasor at *
    split at hk
    · have k := hk
      exact ⟨_, _, k⟩
    · exact hk.elim
  · intro hq; cases hq
  · have mm := @spec_l01Phasor_main
    have ml := fun (args : List Value) (H : AHeap) (K : Value → AHeap → Prop) => bodyL_body (P := Try.prog) (env := E_spec_l01Phasor ) (fn := Try.f111) (args := args) (H := H) (K := K) E_spec_l01Phasor_ok 
    revert mm ml
    generalize bodyK Try.prog E_spec_l01Phasor Try.f111 = Q
    generalize bodyL Try.prog E_spec_l01Phasor Try.f111 = QL
    intro mm ml args H K hk
    simp only [S_spec_l01Phasor] at *
    unfold F_spec_l01Phasor at *
    split at hk
    · exact ml _ H K (mm _ H K hk)
    · exact hk.elim
def p_spec_l01Scale (x_r : Nat) (x_i : Nat) (vby : Nat) : Nat × Nat := (fmul .f32 x_r vby, fmul .f32 x_i vby)
def p_spec_l01Scale_eq := @p_spec_l01Scale.eq_1
def T_spec_l01Scale (x_r : Nat) (x_i : Nat) (vby : Nat) (H : AHeap) (K : Nat → Nat → AHeap → Prop) : Prop := K (p_spec_l01Scale x_r x_i vby).1 (p_spec_l01Scale x_r x_i vby).2 H

theorem T_spec_l01Scale_i {x_r : Nat} {x_i : Nat} {vby : Nat} {H : AHeap} {K : Nat → Nat → AHeap → Prop} (h : K (p_spec_l01Scale x_r x_i vby).1 (p_spec_l01Scale x_r x_i vby).2 H) : T_spec_l01Scale x_r x_i vby H K := h
/-! spec_l01Scale: function 110 -/
def E_spec_l01Scale : Env := envOf []
def F_spec_l01Scale : List Value → AHeap → (Value → AHeap → Prop) → Prop
  | [.complex .f32 x_r x_i, .float .f32 vby], H, K => T_spec_l01Scale x_r x_i vby H fun (r1_r : Nat) (r1_i : Nat) (H' : AHeap) => K (.complex .f32 r1_r r1_i) H'
  | _, _, _ => False
def S_spec_l01Scale : FSpec := { F := F_spec_l01Scale, quiet := true, tame := false }
theorem spec_l01Scale_vc (x_r : Nat) (x_i : Nat) (vby : Nat) (H : AHeap) (K : Value → AHeap → Prop) : bodyL Try.prog E_spec_l01Scale Try.f110 [.complex .f32 x_r x_i, .float .f32 vby] H K =
  (K (.complex .f32 (fmul .f32 x_r vby) (fmul .f32 x_i vby)) H) := by kernel_rfl
theorem E_spec_l01Scale_ok : ∀ g, FnOk Try.prog g (E_spec_l01Scale g) := FnOk.envOf (by
  intro x hx; cases hx)
set_option maxHeartbeats 1000000 in
theorem spec_l01Scale_main (x_r : Nat) (x_i : Nat) (vby : Nat) (H : AHeap) (K : Value → AHeap → Prop) (h : T_spec_l01Scale x_r x_i vby H fun (r1_r : Nat) (r1_i : Nat) (H' : AHeap) => K (.complex .f32 r1_r r1_i) H') : bodyL Try.prog E_spec_l01Scale Try.f110 [.complex .f32 x_r x_i, .float .f32 vby] H K := by
  rw [spec_l01Scale_vc]
  unfold T_spec_l01Scale p_spec_l01Scale at h
  repeat' (first | exact h | (exfalso; simp_all; done) | (refine ⟨by decide, ?_⟩) | (refine Br.intro (fun hb => ?_) (fun hb => ?_) <;> (try simp only [hb, cond_true, cond_false, Bool.not_true, Bool.not_false] at h)))
theorem spec_l01Scale_ok : FnOk Try.prog 110 S_spec_l01Scale := by
  refine FnOk.body mix_ok E_spec_l01Scale_ok Try.func110 rfl (by kernel_rfl) (by kernel_rfl) ?_ ?_ ?_ ?_ ?_
  · intro args H K K' h hk
    simp only [S_spec_l01Scale] at *
    unfold F_spec_l01Scale at *
    split at hk
    · have k := hk
      exact h _ _ k
    · exact hk.elim
  · intro _ args H K hk
    simp only [S_spec_l01Scale] at *
    unfold F_spec_l01Scale at *
    split at hk
    · have k := hk
      exact ⟨_, k, fun K' k' => k'⟩
    · exact hk.elim
  · intro args H K hk
    simp only [S_spec_l01Scale] at *
    unfold F_spec_l01Scale at *
    split at hk
    · have k := hk
      exact ⟨_, _, k⟩
    · exact hk.elim
  · intro hq; cases hq
  · have mm := @spec_l01Scale_main
    have ml := fun (args : List Value) (H : AHeap) (K : Value → AHeap → Prop) => bodyL_body (P := Try.prog) (env := E_spec_l01Scale ) (fn := Try.f110) (args := args) (H := H) (K := K) E_spec_l01Scale_ok 
    revert mm ml
    generalize bodyK Try.prog E_spec_l01Scale Try.f110 = Q
    generalize bodyL Try.prog E_spec_l01Scale Try.f110 = QL
    intro mm ml args H K hk
    simp only [S_spec_l01Scale] at *
    unfold F_spec_l01Scale at *
    split at hk
    · exact ml _ H K (mm _ _ _ H K hk)
    · exact hk.elim

def p_spec_l03Kernel_l1 (scale : Nat) : Nat → (List (Nat × Nat)) → Int → (List (Nat × Nat))
  | 0, _, _ => []
  | μ + 1, l_vout, k => (bif decide ((k : Int) ≤ (2 * (((ftoi .f64 ((p_math_Ceil (fwide (fmul .f32 1077936128 scale)))) .i64).getD 0)))) then (p_spec_l03Kernel_l1 scale μ ((l_vout ++ [((p_spec_l01Scale ((p_spec_l01Phasor (fwide (fdiv .f32 (FloatKind.nearest .f32 ((k - (((ftoi .f64 ((p_math_Ceil (fwide (fmul .f32 1077936128 scale)))) .i64).getD 0))))) scale))).1) ((p_spec_l01Phasor (fwide (fdiv .f32 (FloatKind.nearest .f32 ((k - (((ftoi .f64 ((p_math_Ceil (fwide (fmul .f32 1077936128 scale)))) .i64).getD 0))))) scale))).2) (fdiv .f32 ((p_spec_l01Exp (fmul .f32 (fmul .f32 3204448256 (fdiv .f32 (FloatKind.nearest .f32 ((k - (((ftoi .f64 ((p_math_Ceil (fwide (fmul .f32 1077936128 scale)))) .i64).getD 0))))) scale)) (fdiv .f32 (FloatKind.nearest .f32 ((k - (((ftoi .f64 ((p_math_Ceil (fwide (fmul .f32 1077936128 scale)))) .i64).getD 0))))) scale)))) scale)).1, (p_spec_l01Scale ((p_spec_l01Phasor (fwide (fdiv .f32 (FloatKind.nearest .f32 ((k - (((ftoi .f64 ((p_math_Ceil (fwide (fmul .f32 1077936128 scale)))) .i64).getD 0))))) scale))).1) ((p_spec_l01Phasor (fwide (fdiv .f32 (FloatKind.nearest .f32 ((k - (((ftoi .f64 ((p_math_Ceil (fwide (fmul .f32 1077936128 scale)))) .i64).getD 0))))) scale))).2) (fdiv .f32 ((p_spec_l01Exp (fmul .f32 (fmul .f32 3204448256 (fdiv .f32 (FloatKind.nearest .f32 ((k - (((ftoi .f64 ((p_math_Ceil (fwide (fmul .f32 1077936128 scale)))) .i64).getD 0))))) scale)) (fdiv .f32 (FloatKind.nearest .f32 ((k - (((ftoi .f64 ((p_math_Ceil (fwide (fmul .f32 1077936128 scale)))) .i64).getD 0))))) scale)))) scale)).2)])) (k + 1)) else l_vout)
def p_spec_l03Kernel_l1_s := fun scale μ l_vout k => @p_spec_l03Kernel_l1.eq_2 scale l_vout k μ
def p_spec_l03Kernel (scale : Nat) : (List (Nat × Nat)) := (p_spec_l03Kernel_l1 scale (Int.toNat ((2 * (((ftoi .f64 ((p_math_Ceil (fwide (fmul .f32 1077936128 scale)))) .i64).getD 0))) - (0 : Int) + 1) + 1) (([] : List (Nat × Nat))) (0 : Int))
def p_spec_l03Kernel_eq := @p_spec_l03Kernel.eq_1
def T_spec_l03Kernel (scale : Nat) (H : AHeap) (K : (Option Addr) → Nat → Nat → AHeap → Prop) : Prop := (bif fle .f32 1056964608 scale then fle .f32 scale 1098907648 else false) = true ∧ ((∀ (r1_a : Option Addr) (r1_n r1_e : Nat), ∀ H' : AHeap, Grow H H' → OwnS fC H' H.length r1_a r1_n r1_e (p_spec_l03Kernel scale) → K r1_a r1_n r1_e H'))
theorem T_spec_l03Kernel_i {scale : Nat} {H : AHeap} {K : (Option Addr) → Nat → Nat → AHeap → Prop} (h : (bif fle .f32 1056964608 scale then fle .f32 scale 1098907648 else false) = true ∧ ((∀ (r1_a : Option Addr) (r1_n r1_e : Nat), ∀ H' : AHeap, Grow H H' → OwnS fC H' H.length r1_a r1_n r1_e (p_spec_l03Kernel scale) → K r1_a r1_n r1_e H'))) : T_spec_l03Kernel scale H K := h
theorem spec_l03Kernel_l1_len (x : Nat) : ∀ (μ : Nat) (o : List (Nat × Nat)) (k : Int), (p_spec_l03Kernel_l1 x μ o k).length ≤ o.length + μ := by
  intro μ
  induction μ with
  | zero => intro o k; exact Nat.zero_le _
  | succ μ ih =>
    intro o k
    rw [p_spec_l03Kernel_l1_s]
    cases decide (k ≤ (2 * (((ftoi .f64 ((p_math_Ceil (fwide (fmul .f32 1077936128 x)))) .i64).getD 0))))
    · show o.length ≤ _; omega
    · simp only [cond_true]
      refine Nat.le_trans (ih _ _) ?_
      rw [List.length_append, List.length_singleton]; omega
theorem spec_l03Kernel_len (x : Nat) (h : (bif fle .f32 1056964608 x then fle .f32 x 1098907648 else false) = true) : (p_spec_l03Kernel x).length ≤ 1000 := by
  have hr : -256 ≤ (ftoi .f64 (p_math_Ceil (fwide (fmul .f32 1077936128 x))) .i64).getD 0 ∧ (ftoi .f64 (p_math_Ceil (fwide (fmul .f32 1077936128 x))) .i64).getD 0 ≤ 256 := rad_le h
  rw [p_spec_l03Kernel_eq]
  refine Nat.le_trans (spec_l03Kernel_l1_len _ _ _ _) ?_
  rw [List.length_nil]; omega
/-! spec_l03Kernel: function 84 -/
def E_spec_l03Kernel : Env := envOf [(108, S_math_Ceil), (109, S_spec_l01Exp), (111, S_spec_l01Phasor), (110, S_spec_l01Scale)]
def F_spec_l03Kernel : List Value → AHeap → (Value → AHeap → Prop) → Prop
  | [.float .f32 scale], H, K => T_spec_l03Kernel scale H fun (r1_a : Option Addr) (r1_n : Nat) (r1_e : Nat) (H' : AHeap) => K (.slice r1_a r1_n r1_e) H'
  | _, _, _ => False
def S_spec_l03Kernel : FSpec := { F := F_spec_l03Kernel, quiet := false, tame := true }
theorem spec_l03Kernel_vc (scale : Nat) (H : AHeap) (K : Value → AHeap → Prop) : bodyL Try.prog E_spec_l03Kernel Try.f84 [.float .f32 scale] H K =
  (T_math_Ceil (fwide (fmul .f32 1077936128 scale)) H fun (r1 : Nat) (H1 : AHeap) => ∃ n1 : Int, ftoi .f64 r1 .i64 = some n1 ∧ Al [] H1 fun b1 H2 => loopK (exL Try.prog E_spec_l03Kernel (cl (cl (cr (cl (cr (cr (cr (bodyC Try.f84)))))))) 57 4 [(0, 16)]) [.float .f32 scale, ud, ud, .int .i64 n1, .slice (some ⟨b1, 0, none⟩) 0 1, .int .i64 0, ud, ud, ud, ud, ud, ud, ud, ud, ud, ud, ud, ud, ud, ud, ud, ud, ud, ud, ud, ud, ud, ud, ud, ud, ud, ud, ud, ud, ud, ud, ud, ud, ud, ud, ud, ud] H2 (blockQ 0 (seqQ (exL Try.prog E_spec_l03Kernel (cr (cr (cr (cr (bodyC Try.f84))))) 4 4 []) (retK Try.prog Try.f84 K)))) := by kernel_rfl
abbrev spec_l03Kernel_P1 (n1 : Int) (scale : Nat) (vout_a : Option Addr) (vout_n : Nat) (vout_e : Nat) (k : Int)  : List Value := [.float .f32 scale, ud, ud, .int .i64 n1, .slice vout_a vout_n vout_e, .int .i64 k, ud, ud, ud, ud, ud, ud, ud, ud, ud, ud, ud, ud, ud, ud, ud, ud, ud, ud, ud, ud, ud, ud, ud, ud, ud, ud, ud, ud, ud, ud, ud, ud, ud, ud, ud, ud]
theorem spec_l03Kernel_r1 (n1 : Int) (scale : Nat) (vout_a : Option Addr) (vout_n : Nat) (vout_e : Nat) (k : Int)  (H : AHeap) (R : Post) : exL Try.prog E_spec_l03Kernel (cl (cl (cr (cl (cr (cr (cr (bodyC Try.f84)))))))) 57 4 [(0, 16)] (spec_l03Kernel_P1 n1 scale vout_a vout_n vout_e k) H R =
  (Br (decide ((k : Int) ≤ IntKind.wrap .i64 (2 * n1))) (T_spec_l01Exp (fmul .f32 (fmul .f32 3204448256 (fdiv .f32 (FloatKind.nearest .f32 (IntKind.wrap .i64 (k - n1))) scale)) (fdiv .f32 (FloatKind.nearest .f32 (IntKind.wrap .i64 (k - n1))) scale)) H fun (r2 : Nat) (H3 : AHeap) => T_spec_l01Phasor (fwide (fdiv .f32 (FloatKind.nearest .f32 (IntKind.wrap .i64 (k - n1))) scale)) H3 fun (r3 : Nat) (r4 : Nat) (H4 : AHeap) => T_spec_l01Scale r3 r4 (fdiv .f32 r2 scale) H4 fun (r5 : Nat) (r6 : Nat) (H5 : AHeap) => Al [.complex .f32 r5 r6] H5 fun b2 H6 => ∃ o1 w1 : List Value, ownB H6 vout_a vout_n vout_e 1 = some o1 ∧ rdS H6 (some ⟨b2, 0, none⟩) (1 * 1) = some w1 ∧ ((vout_a : Option Addr) = none → 0 < (1 : Nat)) ∧ (vout_n : Nat) + 1 < most ∧ Ap H6 (killB H6 vout_a ++ [some ⟨o1 ++ w1, true⟩]) fun b3 H7 => R .normal [.float .f32 scale, ud, ud, .int .i64 n1, .slice (some ⟨b3, 0, none⟩) (vout_n + 1) 1, .int .i64 (IntKind.wrap .i64 (k + 1)), ud, ud, ud, ud, ud, ud, ud, ud, ud, ud, ud, ud, ud, ud, ud, ud, ud, ud, ud, ud, ud, ud, ud, ud, ud, ud, ud, ud, ud, ud, ud, ud, ud, ud, ud, ud] H7) (R (.exit 0) [ud, ud, ud, ud, .slice vout_a vout_n vout_e, ud, ud, ud, ud, ud, ud, ud, ud, ud, ud, ud, ud, ud, ud, ud, ud, ud, ud, ud, ud, ud, ud, ud, ud, ud, ud, ud, ud, ud, ud, ud, ud, ud, ud, ud, ud, ud] H)) := by kernel_rfl
def spec_l03Kernel_I1 (n1 : Int) (scale : Nat) (Inv : Nat → (Option Addr) → Nat → Nat → Int → AHeap → Prop) : Nat → List Value → AHeap → Prop := fun μ tm H => ∃ (vout_a : Option Addr), ∃ (vout_n : Nat), ∃ (vout_e : Nat), ∃ (k : Int), tm = (spec_l03Kernel_P1 n1 scale vout_a vout_n vout_e k) ∧ Inv μ vout_a vout_n vout_e k H
theorem spec_l03Kernel_L1 (n1 : Int) (scale : Nat) {Q : Post} (Inv : Nat → (Option Addr) → Nat → Nat → Int → AHeap → Prop) (ν : Nat) (vout_a : Option Addr) (vout_n : Nat) (vout_e : Nat) (k : Int)  (H : AHeap) (h0 : Inv ν vout_a vout_n vout_e k H)
    (hs : ∀ (μ : Nat) (vout_a : Option Addr) (vout_n : Nat) (vout_e : Nat) (k : Int)  (H : AHeap), Inv μ vout_a vout_n vout_e k H → exL Try.prog E_spec_l03Kernel (cl (cl (cr (cl (cr (cr (cr (bodyC Try.f84)))))))) 57 4 [(0, 16)] (spec_l03Kernel_P1 n1 scale vout_a vout_n vout_e k) H (loopQ (spec_l03Kernel_I1 n1 scale Inv) μ Q)) : loopK (exL Try.prog E_spec_l03Kernel (cl (cl (cr (cl (cr (cr (cr (bodyC Try.f84)))))))) 57 4 [(0, 16)]) (spec_l03Kernel_P1 n1 scale vout_a vout_n vout_e k) H Q :=
  ⟨spec_l03Kernel_I1 n1 scale Inv, ν, ⟨vout_a, vout_n, vout_e, k, rfl, h0⟩, fun μ tm H h => by obtain ⟨vout_a, vout_n, vout_e, k, rfl, hI⟩ := h; exact hs μ vout_a vout_n vout_e k  H hI⟩
theorem spec_l03Kernel_n1 {n1 : Int} {scale : Nat} {Q : Post} {Inv : Nat → (Option Addr) → Nat → Nat → Int → AHeap → Prop} {μ : Nat} (μ' : Nat) {vout_a : Option Addr} {vout_n : Nat} {vout_e : Nat} {k : Int}  {H : AHeap} (hm : μ' < μ) (hI : Inv μ' vout_a vout_n vout_e k H) : loopQ (spec_l03Kernel_I1 n1 scale Inv) μ Q .normal (spec_l03Kernel_P1 n1 scale vout_a vout_n vout_e k) H := ⟨μ', hm, vout_a, vout_n, vout_e, k, rfl, hI⟩
theorem spec_l03Kernel_x1_0 (vout_a : Option Addr) (vout_n : Nat) (vout_e : Nat) (H : AHeap) (K : Value → AHeap → Prop)  {I : Nat → List Value → AHeap → Prop} {μ : Nat} : loopQ I μ (blockQ 0 (seqQ (exL Try.prog E_spec_l03Kernel (cr (cr (cr (cr (bodyC Try.f84))))) 4 4 []) (retK Try.prog Try.f84 K))) (.exit 0) [ud, ud, ud, ud, .slice vout_a vout_n vout_e, ud, ud, ud, ud, ud, ud, ud, ud, ud, ud, ud, ud, ud, ud, ud, ud, ud, ud, ud, ud, ud, ud, ud, ud, ud, ud, ud, ud, ud, ud, ud, ud, ud, ud, ud, ud, ud] H =
  (K (.slice vout_a vout_n vout_e) H) := by kernel_rfl
theorem E_spec_l03Kernel_ok : ∀ g, FnOk Try.prog g (E_spec_l03Kernel g) := FnOk.envOf (by
  intro x hx
  simp only [List.mem_cons, List.not_mem_nil, or_false] at hx
  rcases hx with rfl | rfl | rfl | rfl
  · exact math_Ceil_ok
  · exact spec_l01Exp_ok
  · exact spec_l01Phasor_ok
  · exact spec_l01Scale_ok)
theorem o8 {P : Prop} (h : P := by first | rfl | omega | (simp only [List.length_set]; done) | (simp only [List.length_set, List.length_replicate]; omega)) : P := h
theorem o10 {P : Prop} (h : P := by first | (simp only [List.length_map, List.length_cons, List.length_nil, List.length_append]; done) | (simp only [List.length_map, List.length_cons, List.length_nil, List.length_append]; omega) | (simp only [List.length_map, List.length_cons, List.length_nil, List.length_append, List.length_take, List.length_drop]; omega)) : P := h
theorem o9 {P : Prop} (h : P := by first | omega | (simp only [List.length_append, List.length_cons, List.length_nil]; done) | (simp only [List.length_append, List.length_cons, List.length_nil]; omega) | (simp only [List.length_append, List.length_cons, List.length_nil, List.length_take, List.length_drop]; omega)) : P := h
set_option maxHeartbeats 1000000 in
theorem spec_l03Kernel_main (scale : Nat) (H : AHeap) (K : Value → AHeap → Prop) (h : T_spec_l03Kernel scale H fun (r1_a : Option Addr) (r1_n : Nat) (r1_e : Nat) (H' : AHeap) => K (.slice r1_a r1_n r1_e) H') : bodyL Try.prog E_spec_l03Kernel Try.f84 [.float .f32 scale] H K := by
  rw [spec_l03Kernel_vc]
  obtain ⟨pr0, hk⟩ := h
  have hr : -256 ≤ (ftoi .f64 (p_math_Ceil (fwide (fmul .f32 1077936128 scale))) .i64).getD 0 ∧ (ftoi .f64 (p_math_Ceil (fwide (fmul .f32 1077936128 scale))) .i64).getD 0 ≤ 256 := rad_le (by assumption)
  have e : (p_spec_l03Kernel scale) = _ := rfl
  have e := e.trans (p_spec_l03Kernel_eq scale)
  have g0 := Grow.refl H
  refine T_math_Ceil_i ?_
  refine ⟨_, opt_get (d := 0) (by exact rad_ne (by assumption)), ?_⟩
  refine Al.intro (fun b_1 H_1 hb_2 hl_3 g_4 o_5 => ?_)
  have o_5 : Own H_1 b_1 ((([] : List (Nat × Nat))).map fC) := o_5
  have l_7 := g_4.1
  have g_8 := g0.trans g_4
  have l_9 := g_8.1
  have w_44 := o_5.lt
  refine spec_l03Kernel_L1 _ _ (fun (μ : Nat) (vout_a : Option Addr) (vout_n : Nat) (vout_e : Nat) (k : Int) (H_2 : AHeap) => ∃ (l_vout : List (Nat × Nat)), ∃ (b_10 : Nat), vout_a = some ⟨b_10, 0, none⟩ ∧ vout_n = l_vout.length ∧ vout_e = 1 ∧ Own H_2 b_10 (l_vout.map fC) ∧ Grow H H_2 ∧ H.length ≤ b_10 ∧ (0 : Int) ≤ k ∧ ((k ≤ (2 * (((ftoi .f64 ((p_math_Ceil (fwide (fmul .f32 1077936128 scale)))) .i64).getD 0))) + 1 ∨ k ≤ (0 : Int))) ∧ (l_vout.length : Int) ≤ k ∧ (2 * (((ftoi .f64 ((p_math_Ceil (fwide (fmul .f32 1077936128 scale)))) .i64).getD 0))) - k + 1 ≤ (μ : Int) ∧ p_spec_l03Kernel scale = p_spec_l03Kernel_l1 scale (μ + 1) l_vout k) (Int.toNat ((2 * (((ftoi .f64 ((p_math_Ceil (fwide (fmul .f32 1077936128 scale)))) .i64).getD 0))) - (0 : Int) + 1)) _ _ _ _ H_1 ?_ ?_
  · exact ⟨_, _, rfl, o8, rfl, o_5, g_8, o3, o6, o6, o6, o3, e⟩
  · intro μ vout_a vout_n vout_e k  H_2 hI
    obtain ⟨l_vout, b_10, rfl, rfl, rfl, o_11, g_12, l_13, v_14, v_15, v_16, hμ, e⟩ := hI
    rw [spec_l03Kernel_r1]
    have e := e.trans (p_spec_l03Kernel_l1_s scale μ l_vout k)
    have w_17 := o_11.lt
    have l_18 := g_12.1
    rw [show IntKind.wrap .i64 (2 * (((ftoi .f64 ((p_math_Ceil (fwide (fmul .f32 1077936128 scale)))) .i64).getD 0))) = (2 * (((ftoi .f64 ((p_math_Ceil (fwide (fmul .f32 1077936128 scale)))) .i64).getD 0))) from wrap64 o3 o3]
    refine Br.intro (fun c_19 => ?_) (fun c_19 => ?_)
    · have e := e.trans (cond_t c_19)
      have c_19' := of_decide_eq_true c_19
      rw [show IntKind.wrap .i64 (k - (((ftoi .f64 ((p_math_Ceil (fwide (fmul .f32 1077936128 scale)))) .i64).getD 0))) = (k - (((ftoi .f64 ((p_math_Ceil (fwide (fmul .f32 1077936128 scale)))) .i64).getD 0))) from wrap64 o3 o3]
      refine T_spec_l01Exp_i ⟨(by first | assumption | omega | (simp; omega) | (exact spec_l01ExpWide_nar (sq_neg (by decide +kernel)))), ?_⟩
      refine T_spec_l01Phasor_i ?_
      refine T_spec_l01Scale_i ?_
      refine Al.intro (fun b_20 H_3 hb_21 hl_22 g_23 o_24 => ?_)
      have o_24 : Own H_3 b_20 (([((p_spec_l01Scale ((p_spec_l01Phasor (fwide (fdiv .f32 (FloatKind.nearest .f32 ((k - (((ftoi .f64 ((p_math_Ceil (fwide (fmul .f32 1077936128 scale)))) .i64).getD 0))))) scale))).1) ((p_spec_l01Phasor (fwide (fdiv .f32 (FloatKind.nearest .f32 ((k - (((ftoi .f64 ((p_math_Ceil (fwide (fmul .f32 1077936128 scale)))) .i64).getD 0))))) scale))).2) (fdiv .f32 ((p_spec_l01Exp (fmul .f32 (fmul .f32 3204448256 (fdiv .f32 (FloatKind.nearest .f32 ((k - (((ftoi .f64 ((p_math_Ceil (fwide (fmul .f32 1077936128 scale)))) .i64).getD 0))))) scale)) (fdiv .f32 (FloatKind.nearest .f32 ((k - (((ftoi .f64 ((p_math_Ceil (fwide (fmul .f32 1077936128 scale)))) .i64).getD 0))))) scale)))) scale)).1, (p_spec_l01Scale ((p_spec_l01Phasor (fwide (fdiv .f32 (FloatKind.nearest .f32 ((k - (((ftoi .f64 ((p_math_Ceil (fwide (fmul .f32 1077936128 scale)))) .i64).getD 0))))) scale))).1) ((p_spec_l01Phasor (fwide (fdiv .f32 (FloatKind.nearest .f32 ((k - (((ftoi .f64 ((p_math_Ceil (fwide (fmul .f32 1077936128 scale)))) .i64).getD 0))))) scale))).2) (fdiv .f32 ((p_spec_l01Exp (fmul .f32 (fmul .f32 3204448256 (fdiv .f32 (FloatKind.nearest .f32 ((k - (((ftoi .f64 ((p_math_Ceil (fwide (fmul .f32 1077936128 scale)))) .i64).getD 0))))) scale)) (fdiv .f32 (FloatKind.nearest .f32 ((k - (((ftoi .f64 ((p_math_Ceil (fwide (fmul .f32 1077936128 scale)))) .i64).getD 0))))) scale)))) scale)).2)]).map fC) := o_24
      have l_26 := g_23.1
      have g_27 := g_12.trans g_23
      have l_28 := g_27.1
      have o_29 := o_11.grow g_23
      have w_30 := o_29.lt
      have w_43 := o_24.lt
      refine ⟨_, _, o_29.ownB o10 rfl, (isl_rdS (o_24.isL o8)), (fun h => by cases h), o28, ?_⟩
      refine Ap.app o_29 rfl rfl (fun b_35 H_4 q_41 hl_31 o_32 k_33 => ?_)
      have o_32 := map_snoc o_32
      have l_36 := k_33.1
      have g_37 := g_27.keep (b := b_10) o3 k_33
      have l_38 := g_37.1
      have o_39 := o_24.keep o3 k_33
      have w_40 := o_39.lt
      have w_42 := o_32.lt
      rw [show IntKind.wrap .i64 (k + 1) = (k + 1) from wrap64 o3 o3]
      refine spec_l03Kernel_n1 (μ - 1) o12 ⟨_, _, rfl, o9, rfl, o_32, g_37, o3, o1, o1, o1, o12, (by rw [show μ - 1 + 1 = μ from by first | omega]; exact e)⟩
    · have e := e.trans (cond_f c_19)
      have c_19' := of_decide_eq_false c_19
      rw [spec_l03Kernel_x1_0]
      rw [e] at hk
      exact hk _ _ _ H_2 g_12 (o_11.ownS o8 o3)
theorem spec_l03Kernel_ok : FnOk Try.prog 84 S_spec_l03Kernel := by
  refine FnOk.body mix_ok E_spec_l03Kernel_ok Try.func84 rfl (by kernel_rfl) (by kernel_rfl) ?_ ?_ ?_ ?_ ?_
  · intro args H K K' h hk
    simp only [S_spec_l03Kernel] at *
    unfold F_spec_l03Kernel at *
    split at hk
    · obtain ⟨pr0, k⟩ := hk
      exact ⟨pr0, (fun r1_a r1_n r1_e H' gg ow0 => h _ _ (k r1_a r1_n r1_e H' gg ow0))⟩
    · exact hk.elim
  · intro hq; cases hq
  · intro args H K hk
    simp only [S_spec_l03Kernel] at *
    unfold F_spec_l03Kernel at *
    split at hk
    · obtain ⟨pr0, k⟩ := hk
      exact liveS fun a n e H1 g o => ⟨_, _, k a n e H1 g o⟩
    · exact hk.elim
  · intro _ args H K hk
    simp only [S_spec_l03Kernel] at *
    unfold F_spec_l03Kernel at *
    split at hk
    · obtain ⟨pr0, k⟩ := hk
      exact ⟨pr0, (fun r1_a r1_n r1_e H' gg ow0 => ⟨gg, k r1_a r1_n r1_e H' gg ow0⟩)⟩
    · exact hk.elim
  · have mm := @spec_l03Kernel_main
    have ml := fun (args : List Value) (H : AHeap) (K : Value → AHeap → Prop) => bodyL_body (P := Try.prog) (env := E_spec_l03Kernel ) (fn := Try.f84) (args := args) (H := H) (K := K) E_spec_l03Kernel_ok 
    revert mm ml
    generalize bodyK Try.prog E_spec_l03Kernel Try.f84 = Q
    generalize bodyL Try.prog E_spec_l03Kernel Try.f84 = QL
    intro mm ml args H K hk
    simp only [S_spec_l03Kernel] at *
    unfold F_spec_l03Kernel at *
    split at hk
    · exact ml _ H K (mm _ H K hk)
    · exact hk.elim

def p_spec_l03Energy_l1 (l_list : List Nat) : Nat → Nat → Int → Nat
  | 0, _, _ => 0
  | μ + 1, sum, t7 => (bif decide ((t7 : Int) < (l_list.length : Int)) then (p_spec_l03Energy_l1 l_list μ (fadd .f32 sum (fmul .f32 (((l_list).getD (t7 : Int).toNat 0)) (((l_list).getD (t7 : Int).toNat 0)))) (t7 + 1)) else sum)
def p_spec_l03Energy_l1_s := fun l_list μ sum t7 => @p_spec_l03Energy_l1.eq_2 l_list sum t7 μ
def p_spec_l03Energy (l_list : List Nat) : Nat := (p_spec_l03Energy_l1 l_list (Int.toNat ((l_list.length : Int) - (0 : Int)) + 1) 0 (0 : Int))
def p_spec_l03Energy_eq := @p_spec_l03Energy.eq_1
def T_spec_l03Energy (list_a : Option Addr) (list_n : Nat) (list_e : Nat) (H : AHeap) (K : Nat → AHeap → Prop) : Prop := ∃ (l_list : List Nat), IsL fF H list_a list_n l_list ∧ l_list.length < 1073741824 ∧ K (p_spec_l03Energy l_list) H
theorem T_spec_l03Energy_i {list_a : Option Addr} {list_n : Nat} {list_e : Nat} {H : AHeap} {K : Nat → AHeap → Prop} (h : ∃ (l_list : List Nat), IsL fF H list_a list_n l_list ∧ l_list.length < 1073741824 ∧ K (p_spec_l03Energy l_list) H) : T_spec_l03Energy list_a list_n list_e H K := h

/-! spec_l03Energy: function 86 -/
def E_spec_l03Energy : Env := envOf []
def F_spec_l03Energy : List Value → AHeap → (Value → AHeap → Prop) → Prop
  | [.slice list_a list_n list_e], H, K => T_spec_l03Energy list_a list_n list_e H fun (r1 : Nat) (H' : AHeap) => K (.float .f32 r1) H'
  | _, _, _ => False
def S_spec_l03Energy : FSpec := { F := F_spec_l03Energy, quiet := true, tame := false }
theorem spec_l03Energy_vc (list_a : Option Addr) (list_n : Nat) (list_e : Nat) (H : AHeap) (K : Value → AHeap → Prop) : bodyL Try.prog E_spec_l03Energy Try.f86 [.slice list_a list_n list_e] H K =
  (loopK (exL Try.prog E_spec_l03Energy (cl (cl (cr (cl (cr (cr (bodyC Try.f86))))))) 201 4 [(0, 8)]) [.slice list_a list_n list_e, ud, ud, .float .f32 0, ud, ud, .int .i64 (list_n : Int), .int .i64 0, ud, ud, ud, ud, ud, ud, ud, ud, ud, ud, ud, ud, ud, ud, ud] H (blockQ 0 (seqQ (exL Try.prog E_spec_l03Energy (cr (cr (cr (bodyC Try.f86)))) 4 4 []) (retK Try.prog Try.f86 K)))) := by kernel_rfl
abbrev spec_l03Energy_P1 (list_a : Option Addr) (list_e : Nat) (list_n : Nat) (sum : Nat) (t7 : Int)  : List Value := [.slice list_a list_n list_e, ud, ud, .float .f32 sum, ud, ud, .int .i64 (list_n : Int), .int .i64 t7, ud, ud, ud, ud, ud, ud, ud, ud, ud, ud, ud, ud, ud, ud, ud]
theorem spec_l03Energy_r1 (list_a : Option Addr) (list_e : Nat) (list_n : Nat) (sum : Nat) (t7 : Int)  (H : AHeap) (R : Post) : exL Try.prog E_spec_l03Energy (cl (cl (cr (cl (cr (cr (bodyC Try.f86))))))) 201 4 [(0, 8)] (spec_l03Energy_P1 list_a list_e list_n sum t7) H R =
  (Br (decide ((t7 : Int) < (list_n : Int))) ((0 : Int) ≤ t7 ∧ t7 < (list_n : Int) ∧ ∃ b1 f1, (list_a : Option Addr) = some ⟨b1, f1, none⟩ ∧ ∃ x1 : Nat,  rdC H b1 (f1 + (t7 : Int).toNat * 1) = some (.float .f32 x1) ∧ (0 : Int) ≤ t7 ∧ t7 < (list_n : Int) ∧ ∃ b2 f2, (list_a : Option Addr) = some ⟨b2, f2, none⟩ ∧ ∃ x2 : Nat,  rdC H b2 (f2 + (t7 : Int).toNat * 1) = some (.float .f32 x2) ∧ R .normal [.slice list_a list_n list_e, ud, ud, .float .f32 (fadd .f32 sum (fmul .f32 x1 x2)), ud, ud, .int .i64 (list_n : Int), .int .i64 (IntKind.wrap .i64 (t7 + 1)), ud, ud, ud, ud, ud, ud, ud, ud, ud, ud, ud, ud, ud, ud, ud] H) (R (.exit 0) [ud, ud, ud, .float .f32 sum, ud, ud, ud, ud, ud, ud, ud, ud, ud, ud, ud, ud, ud, ud, ud, ud, ud, ud, ud] H)) := by kernel_rfl
def spec_l03Energy_I1 (list_a : Option Addr) (list_e : Nat) (list_n : Nat) (Inv : Nat → Nat → Int → AHeap → Prop) : Nat → List Value → AHeap → Prop := fun μ tm H => ∃ (sum : Nat), ∃ (t7 : Int), tm = (spec_l03Energy_P1 list_a list_e list_n sum t7) ∧ Inv μ sum t7 H
theorem spec_l03Energy_L1 (list_a : Option Addr) (list_e : Nat) (list_n : Nat) {Q : Post} (Inv : Nat → Nat → Int → AHeap → Prop) (ν : Nat) (sum : Nat) (t7 : Int)  (H : AHeap) (h0 : Inv ν sum t7 H)
    (hs : ∀ (μ : Nat) (sum : Nat) (t7 : Int)  (H : AHeap), Inv μ sum t7 H → exL Try.prog E_spec_l03Energy (cl (cl (cr (cl (cr (cr (bodyC Try.f86))))))) 201 4 [(0, 8)] (spec_l03Energy_P1 list_a list_e list_n sum t7) H (loopQ (spec_l03Energy_I1 list_a list_e list_n Inv) μ Q)) : loopK (exL Try.prog E_spec_l03Energy (cl (cl (cr (cl (cr (cr (bodyC Try.f86))))))) 201 4 [(0, 8)]) (spec_l03Energy_P1 list_a list_e list_n sum t7) H Q :=
  ⟨spec_l03Energy_I1 list_a list_e list_n Inv, ν, ⟨sum, t7, rfl, h0⟩, fun μ tm H h => by obtain ⟨sum, t7, rfl, hI⟩ := h; exact hs μ sum t7  H hI⟩
theorem spec_l03Energy_n1 {list_a : Option Addr} {list_e : Nat} {list_n : Nat} {Q : Post} {Inv : Nat → Nat → Int → AHeap → Prop} {μ : Nat} (μ' : Nat) {sum : Nat} {t7 : Int}  {H : AHeap} (hm : μ' < μ) (hI : Inv μ' sum t7 H) : loopQ (spec_l03Energy_I1 list_a list_e list_n Inv) μ Q .normal (spec_l03Energy_P1 list_a list_e list_n sum t7) H := ⟨μ', hm, sum, t7, rfl, hI⟩
theorem spec_l03Energy_x1_0 (sum : Nat) (H : AHeap) (K : Value → AHeap → Prop)  {I : Nat → List Value → AHeap → Prop} {μ : Nat} : loopQ I μ (blockQ 0 (seqQ (exL Try.prog E_spec_l03Energy (cr (cr (cr (bodyC Try.f86)))) 4 4 []) (retK Try.prog Try.f86 K))) (.exit 0) [ud, ud, ud, .float .f32 sum, ud, ud, ud, ud, ud, ud, ud, ud, ud, ud, ud, ud, ud, ud, ud, ud, ud, ud, ud] H =
  (K (.float .f32 sum) H) := by kernel_rfl
theorem E_spec_l03Energy_ok : ∀ g, FnOk Try.prog g (E_spec_l03Energy g) := FnOk.envOf (by
  intro x hx; cases hx)
set_option maxHeartbeats 1000000 in
theorem spec_l03Energy_main (list_a : Option Addr) (list_n : Nat) (list_e : Nat) (H : AHeap) (K : Value → AHeap → Prop) (h : T_spec_l03Energy list_a list_n list_e H fun (r1 : Nat) (H' : AHeap) => K (.float .f32 r1) H') : bodyL Try.prog E_spec_l03Energy Try.f86 [.slice list_a list_n list_e] H K := by
  rw [spec_l03Energy_vc]
  obtain ⟨l_list, i_list, bd_11, hk⟩ := h
  obtain rfl := i_list.eqn
  have e : (p_spec_l03Energy l_list) = _ := rfl
  have e := e.trans (p_spec_l03Energy_eq l_list)
  have g0 := Grow.refl H
  refine spec_l03Energy_L1 _ _ _ (fun (μ : Nat) (sum : Nat) (t7 : Int) (H_1 : AHeap) => H = H_1 ∧ (0 : Int) ≤ t7 ∧ t7 ≤ (l_list.length : Int) ∧ (l_list.length : Int) - t7 ≤ (μ : Int) ∧ p_spec_l03Energy l_list = p_spec_l03Energy_l1 l_list (μ + 1) sum t7) (Int.toNat ((l_list.length : Int) - (0 : Int))) _ _ H ?_ ?_
  · exact ⟨rfl, o6, o6, o3, e⟩
  · intro μ sum t7  H_1 hI
    obtain ⟨rfl, v_1, v_2, hμ, e⟩ := hI
    rw [spec_l03Energy_r1]
    have e := e.trans (p_spec_l03Energy_l1_s l_list μ sum t7)
    have l_3 := g0.1
    refine Br.intro (fun c_4 => ?_) (fun c_4 => ?_)
    · have e := e.trans (cond_t c_4)
      have c_4' := of_decide_eq_true c_4
      obtain ⟨b_5, f_6, q_7⟩ := ((i_list.grow g0)).pos o0
      refine ⟨by omega, by omega, b_5, f_6, q_7, ?_⟩
      refine ⟨((l_list).getD (t7 : Int).toNat 0), (i_list).rd g0 q_7 o3 _, ?_⟩
      obtain ⟨b_8, f_9, q_10⟩ := ((i_list.grow g0)).pos o0
      refine ⟨by omega, by omega, b_8, f_9, q_10, ?_⟩
      refine ⟨((l_list).getD (t7 : Int).toNat 0), (i_list).rd g0 q_10 o3 _, ?_⟩
      rw [show IntKind.wrap .i64 (t7 + 1) = (t7 + 1) from wrap64 o3 o3]
      refine spec_l03Energy_n1 (μ - 1) o12 ⟨rfl, o1, o1, o12, (by rw [show μ - 1 + 1 = μ from by first | omega]; exact e)⟩
    · have e := e.trans (cond_f c_4)
      have c_4' := of_decide_eq_false c_4
      rw [spec_l03Energy_x1_0]
      rw [e] at hk
      exact hk
theorem spec_l03Energy_ok : FnOk Try.prog 86 S_spec_l03Energy := by
  refine FnOk.body mix_ok E_spec_l03Energy_ok Try.func86 rfl (by kernel_rfl) (by kernel_rfl) ?_ ?_ ?_ ?_ ?_
  · intro args H K K' h hk
    simp only [S_spec_l03Energy] at *
    unfold F_spec_l03Energy at *
    split at hk
    · obtain ⟨l_list, i_list, bd_11, k⟩ := hk
      exact ⟨l_list, i_list, bd_11, h _ _ k⟩
    · exact hk.elim
  · intro _ args H K hk
    simp only [S_spec_l03Energy] at *
    unfold F_spec_l03Energy at *
    split at hk
    · obtain ⟨l_list, i_list, bd_11, k⟩ := hk
      exact ⟨_, k, fun K' k' => ⟨l_list, i_list, bd_11, k'⟩⟩
    · exact hk.elim
  · intro args H K hk
    simp only [S_spec_l03Energy] at *
    unfold F_spec_l03Energy at *
    split at hk
    · obtain ⟨l_list, i_list, bd_11, k⟩ := hk
      exact ⟨_, _, k⟩
    · exact hk.elim
  · intro hq; cases hq
  · have mm := @spec_l03Energy_main
    have ml := fun (args : List Value) (H : AHeap) (K : Value → AHeap → Prop) => bodyL_body (P := Try.prog) (env := E_spec_l03Energy ) (fn := Try.f86) (args := args) (H := H) (K := K) E_spec_l03Energy_ok 
    revert mm ml
    generalize bodyK Try.prog E_spec_l03Energy Try.f86 = Q
    generalize bodyL Try.prog E_spec_l03Energy Try.f86 = QL
    intro mm ml args H K hk
    simp only [S_spec_l03Energy] at *
    unfold F_spec_l03Energy at *
    split at hk
    · exact ml _ H K (mm _ _ _ H K hk)
    · exact hk.elim
def p_math_sqrt (x : Nat) : Nat := fsqrt .f64 x
def T_math_sqrt (x : Nat) (H : AHeap) (K : Nat → AHeap → Prop) : Prop := K (p_math_sqrt x) H
theorem T_math_sqrt_i {x : Nat} {H : AHeap} {K : Nat → AHeap → Prop} (h : K (p_math_sqrt x) H) : T_math_sqrt x H K := h
def F_math_sqrt : List Value → AHeap → (Value → AHeap → Prop) → Prop
  | [.float .f64 x], H, K => T_math_sqrt x H fun r1 H' => K (.float .f64 r1) H'
  | _, _, _ => False
def S_math_sqrt : FSpec := { F := F_math_sqrt, quiet := true }
theorem math_sqrt_ok : FnOk Try.prog 156 S_math_sqrt := by
  refine FnOk.ext1 (f := p_math_sqrt) (e := Extern.MathSqrt.sqrt) rfl ?_ (fun x H K h => h) Try.func156 (by kernel_rfl) (by kernel_rfl) (by kernel_rfl) (by kernel_rfl) (fun b w => ext_sqrt b w)
  intro args H K h
  simp only [S_math_sqrt] at h
  unfold F_math_sqrt at h
  split at h
  · exact ⟨_, rfl, h⟩
  · exact h.elim

def p_math_Sqrt (x : Nat) : Nat := (p_math_sqrt x)
def p_math_Sqrt_eq := @p_math_Sqrt.eq_1
def T_math_Sqrt (x : Nat) (H : AHeap) (K : Nat → AHeap → Prop) : Prop := K (p_math_Sqrt x) H

theorem T_math_Sqrt_i {x : Nat} {H : AHeap} {K : Nat → AHeap → Prop} (h : K (p_math_Sqrt x) H) : T_math_Sqrt x H K := h
/-! math_Sqrt: function 113 -/
def E_math_Sqrt : Env := envOf [(156, S_math_sqrt)]
def F_math_Sqrt : List Value → AHeap → (Value → AHeap → Prop) → Prop
  | [.float .f64 x], H, K => T_math_Sqrt x H fun (r1 : Nat) (H' : AHeap) => K (.float .f64 r1) H'
  | _, _, _ => False
def S_math_Sqrt : FSpec := { F := F_math_Sqrt, quiet := true, tame := false }
theorem math_Sqrt_vc (x : Nat) (H : AHeap) (K : Value → AHeap → Prop) : bodyL Try.prog E_math_Sqrt Try.f113 [.float .f64 x] H K =
  (T_math_sqrt x H fun (r1 : Nat) (H1 : AHeap) => K (.float .f64 r1) H1) := by kernel_rfl
theorem E_math_Sqrt_ok : ∀ g, FnOk Try.prog g (E_math_Sqrt g) := FnOk.envOf (by
  intro x hx
  simp only [List.mem_cons, List.not_mem_nil, or_false] at hx
  subst hx; exact math_sqrt_ok)
set_option maxHeartbeats 1000000 in
theorem math_Sqrt_main (x : Nat) (H : AHeap) (K : Value → AHeap → Prop) (h : T_math_Sqrt x H fun (r1 : Nat) (H' : AHeap) => K (.float .f64 r1) H') : bodyL Try.prog E_math_Sqrt Try.f113 [.float .f64 x] H K := by
  rw [math_Sqrt_vc]
  simp only [T_math_sqrt]
  unfold T_math_Sqrt p_math_Sqrt at h
  repeat' (first | exact h | (exfalso; simp_all; done) | (refine ⟨by decide, ?_⟩) | (refine Br.intro (fun hb => ?_) (fun hb => ?_) <;> (try simp only [hb, cond_true, cond_false, Bool.not_true, Bool.not_false] at h)))
theorem math_Sqrt_ok : FnOk Try.prog 113 S_math_Sqrt := by
  refine FnOk.body mix_ok E_math_Sqrt_ok Try.func113 rfl (by kernel_rfl) (by kernel_rfl) ?_ ?_ ?_ ?_ ?_
  · intro args H K K' h hk
    simp only [S_math_Sqrt] at *
    unfold F_math_Sqrt at *
    split at hk
    · have k := hk
      exact h _ _ k
    · exact hk.elim
  · intro _ args H K hk
    simp only [S_math_Sqrt] at *
    unfold F_math_Sqrt at *
    split at hk
    · have k := hk
      exact ⟨_, k, fun K' k' => k'⟩
    · exact hk.elim
  · intro args H K hk
    simp only [S_math_Sqrt] at *
    unfold F_math_Sqrt at *
    split at hk
    · have k := hk
      exact ⟨_, _, k⟩
    · exact hk.elim
  · intro hq; cases hq
  · have mm := @math_Sqrt_main
    have ml := fun (args : List Value) (H : AHeap) (K : Value → AHeap → Prop) => bodyL_body (P := Try.prog) (env := E_math_Sqrt ) (fn := Try.f113) (args := args) (H := H) (K := K) E_math_Sqrt_ok 
    revert mm ml
    generalize bodyK Try.prog E_math_Sqrt Try.f113 = Q
    generalize bodyL Try.prog E_math_Sqrt Try.f113 = QL
    intro mm ml args H K hk
    simp only [S_math_Sqrt] at *
    unfold F_math_Sqrt at *
    split at hk
    · exact ml _ H K (mm _ H K hk)
    · exact hk.elim

def p_spec_l01Sqrt (x : Nat) : Nat := (p_spec_l01Narrow ((p_math_Sqrt (fwide x))))
def p_spec_l01Sqrt_eq := @p_spec_l01Sqrt.eq_1
def T_spec_l01Sqrt (x : Nat) (H : AHeap) (K : Nat → AHeap → Prop) : Prop := K (p_spec_l01Sqrt x) H
theorem T_spec_l01Sqrt_i {x : Nat} {H : AHeap} {K : Nat → AHeap → Prop} (h : K (p_spec_l01Sqrt x) H) : T_spec_l01Sqrt x H K := h

/-! spec_l01Sqrt: function 85 -/
def E_spec_l01Sqrt : Env := envOf [(113, S_math_Sqrt), (112, S_spec_l01Narrow)]
def F_spec_l01Sqrt : List Value → AHeap → (Value → AHeap → Prop) → Prop
  | [.float .f32 x], H, K => T_spec_l01Sqrt x H fun (r1 : Nat) (H' : AHeap) => K (.float .f32 r1) H'
  | _, _, _ => False
def S_spec_l01Sqrt : FSpec := { F := F_spec_l01Sqrt, quiet := true, tame := false }
theorem spec_l01Sqrt_vc (x : Nat) (H : AHeap) (K : Value → AHeap → Prop) : bodyL Try.prog E_spec_l01Sqrt Try.f85 [.float .f32 x] H K =
  (T_math_Sqrt (fwide x) H fun (r1 : Nat) (H1 : AHeap) => T_spec_l01Narrow r1 H1 fun (r2 : Nat) (H2 : AHeap) => K (.float .f32 r2) H2) := by kernel_rfl
theorem E_spec_l01Sqrt_ok : ∀ g, FnOk Try.prog g (E_spec_l01Sqrt g) := FnOk.envOf (by
  intro x hx
  simp only [List.mem_cons, List.not_mem_nil, or_false] at hx
  rcases hx with rfl | rfl
  · exact math_Sqrt_ok
  · exact spec_l01Narrow_ok)
set_option maxHeartbeats 1000000 in
theorem spec_l01Sqrt_main (x : Nat) (H : AHeap) (K : Value → AHeap → Prop) (h : T_spec_l01Sqrt x H fun (r1 : Nat) (H' : AHeap) => K (.float .f32 r1) H') : bodyL Try.prog E_spec_l01Sqrt Try.f85 [.float .f32 x] H K := by
  rw [spec_l01Sqrt_vc]
  have hk := h
  unfold T_spec_l01Sqrt at hk
  have e : (p_spec_l01Sqrt x) = _ := rfl
  have e := e.trans (p_spec_l01Sqrt_eq x)
  have g0 := Grow.refl H
  refine T_math_Sqrt_i ?_
  refine T_spec_l01Narrow_i ⟨(by first | assumption | omega | (simp; omega) | (exact sqrt_nar _)), ?_⟩
  rw [e] at hk
  exact hk
theorem spec_l01Sqrt_ok : FnOk Try.prog 85 S_spec_l01Sqrt := by
  refine FnOk.body mix_ok E_spec_l01Sqrt_ok Try.func85 rfl (by kernel_rfl) (by kernel_rfl) ?_ ?_ ?_ ?_ ?_
  · intro args H K K' h hk
    simp only [S_spec_l01Sqrt] at *
    unfold F_spec_l01Sqrt at *
    split at hk
    · have k := hk
      exact h _ _ k
    · exact hk.elim
  · intro _ args H K hk
    simp only [S_spec_l01Sqrt] at *
    unfold F_spec_l01Sqrt at *
    split at hk
    · have k := hk
      exact ⟨_, k, fun K' k' => k'⟩
    · exact hk.elim
  · intro args H K hk
    simp only [S_spec_l01Sqrt] at *
    unfold F_spec_l01Sqrt at *
    split at hk
    · have k := hk
      exact ⟨_, _, k⟩
    · exact hk.elim
  · intro hq; cases hq
  · have mm := @spec_l01Sqrt_main
    have ml := fun (args : List Value) (H : AHeap) (K : Value → AHeap → Prop) => bodyL_body (P := Try.prog) (env := E_spec_l01Sqrt ) (fn := Try.f85) (args := args) (H := H) (K := K) E_spec_l01Sqrt_ok 
    revert mm ml
    generalize bodyK Try.prog E_spec_l01Sqrt Try.f85 = Q
    generalize bodyL Try.prog E_spec_l01Sqrt Try.f85 = QL
    intro mm ml args H K hk
    simp only [S_spec_l01Sqrt] at *
    unfold F_spec_l01Sqrt at *
    split at hk
    · exact ml _ H K (mm _ H K hk)
    · exact hk.elim

def p_spec_l05Of_l2 (count : Int) (ap_Place : Int) (ap_Scale : Nat) (ap_Size : Nat) (l_vout : List Nat) (i : Int) (k2_2 : Int → (List Nat) → (List Nat)) : Nat → Int → (List Nat) → (List Nat)
  | 0, _, _ => []
  | μ2 + 1, t54, y2_1 => (bif decide ((t54 : Int) < (l_vout.length : Int)) then (p_spec_l05Of_l2 count ap_Place ap_Scale ap_Size l_vout i k2_2 μ2 (t54 + 1) (((y2_1).set (t54 : Int).toNat ((fmul .f32 (fdiv .f32 (((y2_1).getD (t54 : Int).toNat 0)) ((p_spec_l01Sqrt (p_spec_l03Energy l_vout)))) ap_Size))))) else (k2_2 t54 y2_1))
def p_spec_l05Of_l2_s := fun count ap_Place ap_Scale ap_Size l_vout i k2_2 μ2 t54 y2_1 => @p_spec_l05Of_l2.eq_2 count ap_Place ap_Scale ap_Size l_vout i k2_2 t54 y2_1 μ2
def p_spec_l05Of_l1 (count : Int) (ap_Place : Int) (ap_Scale : Nat) (ap_Size : Nat) : Nat → (List Nat) → Int → (List Nat)
  | 0, _, _ => []
  | μ + 1, l_vout, i => (bif decide ((i : Int) < count) then (bif (p_spec_l00In (((i - ap_Place) + ((Int.tdiv ((((p_spec_l03Kernel ap_Scale)).length : Int)) 2)))) (0 : Int) ((((((p_spec_l03Kernel ap_Scale)).length : Int)) - 1))) then (p_spec_l05Of_l1 count ap_Place ap_Scale ap_Size μ ((l_vout ++ [(((((p_spec_l03Kernel ap_Scale)).getD (((i - ap_Place) + ((Int.tdiv ((((p_spec_l03Kernel ap_Scale)).length : Int)) 2))) : Int).toNat (0, 0))).1)])) (i + 1)) else (p_spec_l05Of_l1 count ap_Place ap_Scale ap_Size μ (l_vout ++ [0]) (i + 1))) else (p_spec_l05Of_l2 count ap_Place ap_Scale ap_Size l_vout i (fun (t54 : Int) (y2_1 : List Nat) => y2_1) (Int.toNat ((l_vout.length : Int) - (0 : Int)) + 1) (0 : Int) l_vout))
def p_spec_l05Of_l1_s := fun count ap_Place ap_Scale ap_Size μ l_vout i => @p_spec_l05Of_l1.eq_2 count ap_Place ap_Scale ap_Size l_vout i μ
def p_spec_l05Of (count : Int) (ap_Place : Int) (ap_Scale : Nat) (ap_Size : Nat) : (List Nat) := (p_spec_l05Of_l1 count ap_Place ap_Scale ap_Size (Int.toNat (count - (0 : Int)) + 1) ([] : List Nat) (0 : Int))
def p_spec_l05Of_eq := @p_spec_l05Of.eq_1
def T_spec_l05Of (count : Int) (a : Nat) (H : AHeap) (K : (Option Addr) → Nat → Nat → AHeap → Prop) : Prop := ∃ (ap_Place : Int), ∃ (ap_Scale : Nat), ∃ (ap_Size : Nat), rdN H a 0 3 = some [.int .i64 ap_Place, .float .f32 ap_Scale, .float .f32 ap_Size] ∧ 0 ≤ count ∧ count ≤ 1000 ∧ 0 ≤ ap_Place ∧ ap_Place ≤ 1000 ∧ (bif fle .f32 1056964608 ap_Scale then fle .f32 ap_Scale 1098907648 else false) = true ∧ ((∀ (r1_a : Option Addr) (r1_n r1_e : Nat), ∀ H' : AHeap, Grow H H' → OwnS fF H' H.length r1_a r1_n r1_e (p_spec_l05Of count ap_Place ap_Scale ap_Size) → K r1_a r1_n r1_e H'))
theorem T_spec_l05Of_i {count : Int} {a : Nat} {H : AHeap} {K : (Option Addr) → Nat → Nat → AHeap → Prop} (h : ∃ (ap_Place : Int), ∃ (ap_Scale : Nat), ∃ (ap_Size : Nat), rdN H a 0 3 = some [.int .i64 ap_Place, .float .f32 ap_Scale, .float .f32 ap_Size] ∧ 0 ≤ count ∧ count ≤ 1000 ∧ 0 ≤ ap_Place ∧ ap_Place ≤ 1000 ∧ (bif fle .f32 1056964608 ap_Scale then fle .f32 ap_Scale 1098907648 else false) = true ∧ ((∀ (r1_a : Option Addr) (r1_n r1_e : Nat), ∀ H' : AHeap, Grow H H' → OwnS fF H' H.length r1_a r1_n r1_e (p_spec_l05Of count ap_Place ap_Scale ap_Size) → K r1_a r1_n r1_e H'))) : T_spec_l05Of count a H K := h
theorem spec_l05Of_l2_len (c p : Int) (s z : Nat) (o : List Nat) (t : Int) : ∀ (μ : Nat) (i : Int) (y : List Nat), (p_spec_l05Of_l2 c p s z o t (fun (t54 : Int) (y2_1 : List Nat) => y2_1) μ i y).length ≤ y.length := by
  intro μ
  induction μ with
  | zero => intro i y; exact Nat.zero_le _
  | succ μ ih =>
    intro i y
    rw [p_spec_l05Of_l2_s]
    cases decide (i < (o.length : Int))
    · exact Nat.le_refl _
    · exact Nat.le_trans (ih _ _) (by rw [List.length_set]; exact Nat.le_refl _)
theorem spec_l05Of_l1_len (c p : Int) (s z : Nat) : ∀ (μ : Nat) (o : List Nat) (i : Int), (p_spec_l05Of_l1 c p s z μ o i).length ≤ o.length + μ := by
  intro μ
  induction μ with
  | zero => intro o i; exact Nat.zero_le _
  | succ μ ih =>
    intro o i
    rw [p_spec_l05Of_l1_s]
    cases decide (i < c)
    · exact Nat.le_trans (spec_l05Of_l2_len _ _ _ _ _ _ _ _ _) o3
    · simp only [cond_true]
      refine cnb (P := fun y : List Nat => y.length ≤ o.length + (μ + 1)) (fun h => ?_) (fun h => ?_)
      · refine Nat.le_trans (ih _ _) ?_; rw [List.length_append, List.length_singleton]; omega
      · refine Nat.le_trans (ih _ _) ?_; rw [List.length_append, List.length_singleton]; omega
theorem o38 {P : Prop} (h : P := by rw [List.length_nil]; omega) : P := h
theorem spec_l05Of_len (c p : Int) (s z : Nat) : (p_spec_l05Of c p s z).length ≤ c.toNat + 1 := by
  rw [p_spec_l05Of_eq]
  exact Nat.le_trans (spec_l05Of_l1_len _ _ _ _ _ _ _) o38
theorem spec_l05Of_l2_full (c p : Int) (s z : Nat) (o : List Nat) (t : Int) : ∀ (μ : Nat) (i : Int) (y : List Nat), ((o.length : Int) - i).toNat < μ → (p_spec_l05Of_l2 c p s z o t (fun (t54 : Int) (y2_1 : List Nat) => y2_1) μ i y).length = y.length := by
  intro μ
  induction μ with
  | zero => intro i y h; omega
  | succ μ ih =>
    intro i y h
    rw [p_spec_l05Of_l2_s]
    by_cases hi : i < (o.length : Int)
    · rw [decide_eq_true hi, cond_true, ih _ _ o3, List.length_set]
    · rw [decide_eq_false hi, cond_false]
theorem spec_l05Of_l1_full (c p : Int) (s z : Nat) : ∀ (μ : Nat) (o : List Nat) (i : Int), (c - i).toNat < μ → (p_spec_l05Of_l1 c p s z μ o i).length = o.length + (c - i).toNat := by
  intro μ
  induction μ with
  | zero => intro o i h; omega
  | succ μ ih =>
    intro o i h
    rw [p_spec_l05Of_l1_s]
    by_cases hi : i < c
    · rw [decide_eq_true hi, cond_true]
      refine cnb (P := fun y : List Nat => y.length = o.length + (c - i).toNat) (fun h => ?_) (fun h => ?_)
      · rw [ih _ _ o3, List.length_append, List.length_singleton]; omega
      · rw [ih _ _ o3, List.length_append, List.length_singleton]; omega
    · rw [decide_eq_false hi, cond_false, spec_l05Of_l2_full _ _ _ _ _ _ _ _ _ o3]; omega
theorem spec_l05Of_full (c p : Int) (s z : Nat) (h : 0 ≤ c) : (p_spec_l05Of c p s z).length = c.toNat := by
  rw [p_spec_l05Of_eq, spec_l05Of_l1_full _ _ _ _ _ _ _ o3, List.length_nil]; omega
/-! spec_l05Of: function 52 -/
def E_spec_l05Of : Env := envOf [(84, S_spec_l03Kernel), (50, S_spec_l00In), (86, S_spec_l03Energy), (85, S_spec_l01Sqrt)]
def F_spec_l05Of : List Value → AHeap → (Value → AHeap → Prop) → Prop
  | [.int .i64 count, .pointer (some ⟨a, 0, none⟩)], H, K => T_spec_l05Of count a H fun (r1_a : Option Addr) (r1_n : Nat) (r1_e : Nat) (H' : AHeap) => K (.slice r1_a r1_n r1_e) H'
  | _, _, _ => False
def S_spec_l05Of : FSpec := { F := F_spec_l05Of, quiet := false, tame := true }
theorem spec_l05Of_vc (count : Int) (a : Nat) (H : AHeap) (K : Value → AHeap → Prop) : bodyL Try.prog E_spec_l05Of Try.f52 [.int .i64 count, .pointer (some ⟨a, 0, none⟩)] H K =
  (∃ x1 : Nat,  rdC H a 1 = some (.float .f32 x1) ∧ T_spec_l03Kernel x1 H fun (a1 : Option Addr) (r1 : Nat) (r2 : Nat) (H1 : AHeap) => 2 ≠ (0 : Int) ∧ Al [] H1 fun b1 H2 => loopK (exL Try.prog E_spec_l05Of (cl (cl (cr (cl (cr (cr (cr (cr (bodyC Try.f52))))))))) 483 16 [(0, 130)]) [.int .i64 count, .pointer (some ⟨a, 0, none⟩), ud, ud, ud, .slice a1 r1 r2, .int .i64 (IntKind.wrap .i64 (Int.tdiv (r1 : Int) 2)), .slice (some ⟨b1, 0, none⟩) 0 1, .int .i64 0, ud, ud, ud, ud, ud, ud, ud, ud, ud, ud, ud, ud, ud, ud, ud, ud, ud, ud, ud, ud, ud, ud, ud, ud, ud, ud, ud, ud, ud, ud, ud, ud, ud, ud, ud, ud, ud, ud, ud, ud, ud, ud, ud, ud, ud, ud, ud, ud, ud, ud, ud, ud, ud, ud, ud, ud, ud, ud, ud, ud, ud, ud, ud, ud] H2 (blockQ 0 (seqQ (exL Try.prog E_spec_l05Of (cr (cr (cr (cr (cr (bodyC Try.f52)))))) 16 16 []) (retK Try.prog Try.f52 K)))) := by kernel_rfl
abbrev spec_l05Of_P1 (a : Nat) (a1 : Option Addr) (count : Int) (r1 : Nat) (r2 : Nat) (z1_6 : Int) (vout_a : Option Addr) (vout_n : Nat) (vout_e : Nat) (i : Int)  : List Value := [.int .i64 count, .pointer (some ⟨a, 0, none⟩), ud, ud, ud, .slice a1 r1 r2, .int .i64 z1_6, .slice vout_a vout_n vout_e, .int .i64 i, ud, ud, ud, ud, ud, ud, ud, ud, ud, ud, ud, ud, ud, ud, ud, ud, ud, ud, ud, ud, ud, ud, ud, ud, ud, ud, ud, ud, ud, ud, ud, ud, ud, ud, ud, ud, ud, ud, ud, ud, ud, ud, ud, ud, ud, ud, ud, ud, ud, ud, ud, ud, ud, ud, ud, ud, ud, ud, ud, ud, ud, ud, ud, ud]
theorem spec_l05Of_r1 (a : Nat) (a1 : Option Addr) (count : Int) (r1 : Nat) (r2 : Nat) (z1_6 : Int) (vout_a : Option Addr) (vout_n : Nat) (vout_e : Nat) (i : Int)  (H : AHeap) (R : Post) : exL Try.prog E_spec_l05Of (cl (cl (cr (cl (cr (cr (cr (cr (bodyC Try.f52))))))))) 483 16 [(0, 130)] (spec_l05Of_P1 a a1 count r1 r2 z1_6 vout_a vout_n vout_e i) H R =
  (Br (decide ((i : Int) < count)) (∃ x2 : Int,  rdC H a 0 = some (.int .i64 x2) ∧ T_spec_l00In (IntKind.wrap .i64 ((IntKind.wrap .i64 (i - x2)) + z1_6)) 0 (IntKind.wrap .i64 ((r1 : Int) - 1)) H fun (r3 : Bool) (H3 : AHeap) => Br r3 ((0 : Int) ≤ IntKind.wrap .i64 ((IntKind.wrap .i64 (i - x2)) + z1_6) ∧ IntKind.wrap .i64 ((IntKind.wrap .i64 (i - x2)) + z1_6) < (r1 : Int) ∧ ∃ b2 f1, (a1 : Option Addr) = some ⟨b2, f1, none⟩ ∧ ∃ x3_r : Nat, ∃ x3_i : Nat,  rdC H3 b2 (f1 + (IntKind.wrap .i64 ((IntKind.wrap .i64 (i - x2)) + z1_6) : Int).toNat * 1) = some (.complex .f32 x3_r x3_i) ∧ Al [.float .f32 x3_r] H3 fun b3 H4 => ∃ o1 w1 : List Value, ownB H4 vout_a vout_n vout_e 1 = some o1 ∧ rdS H4 (some ⟨b3, 0, none⟩) (1 * 1) = some w1 ∧ ((vout_a : Option Addr) = none → 0 < (1 : Nat)) ∧ (vout_n : Nat) + 1 < most ∧ Ap H4 (killB H4 vout_a ++ [some ⟨o1 ++ w1, true⟩]) fun b4 H5 => R .normal [.int .i64 count, .pointer (some ⟨a, 0, none⟩), ud, ud, ud, .slice a1 r1 r2, .int .i64 z1_6, .slice (some ⟨b4, 0, none⟩) (vout_n + 1) 1, .int .i64 (IntKind.wrap .i64 (i + 1)), ud, ud, ud, ud, ud, ud, ud, ud, ud, ud, ud, ud, ud, ud, ud, ud, ud, ud, ud, ud, ud, ud, ud, ud, ud, ud, ud, ud, ud, ud, ud, ud, ud, ud, ud, ud, ud, ud, ud, ud, ud, ud, ud, ud, ud, ud, ud, ud, ud, ud, ud, ud, ud, ud, ud, ud, ud, ud, ud, ud, ud, ud, ud, ud] H5) (Al [.float .f32 0] H3 fun b5 H6 => ∃ o2 w2 : List Value, ownB H6 vout_a vout_n vout_e 1 = some o2 ∧ rdS H6 (some ⟨b5, 0, none⟩) (1 * 1) = some w2 ∧ ((vout_a : Option Addr) = none → 0 < (1 : Nat)) ∧ (vout_n : Nat) + 1 < most ∧ Ap H6 (killB H6 vout_a ++ [some ⟨o2 ++ w2, true⟩]) fun b6 H7 => R .normal [.int .i64 count, .pointer (some ⟨a, 0, none⟩), ud, ud, ud, .slice a1 r1 r2, .int .i64 z1_6, .slice (some ⟨b6, 0, none⟩) (vout_n + 1) 1, .int .i64 (IntKind.wrap .i64 (i + 1)), ud, ud, ud, ud, ud, ud, ud, ud, ud, ud, ud, ud, ud, ud, ud, ud, ud, ud, ud, ud, ud, ud, ud, ud, ud, ud, ud, ud, ud, ud, ud, ud, ud, ud, ud, ud, ud, ud, ud, ud, ud, ud, ud, ud, ud, ud, ud, ud, ud, ud, ud, ud, ud, ud, ud, ud, ud, ud, ud, ud, ud, ud, ud, ud] H7)) (R (.exit 0) [ud, .pointer (some ⟨a, 0, none⟩), ud, ud, ud, ud, ud, .slice vout_a vout_n vout_e, ud, ud, ud, ud, ud, ud, ud, ud, ud, ud, ud, ud, ud, ud, ud, ud, ud, ud, ud, ud, ud, ud, ud, ud, ud, ud, ud, ud, ud, ud, ud, ud, ud, ud, ud, ud, ud, ud, ud, ud, ud, ud, ud, ud, ud, ud, ud, ud, ud, ud, ud, ud, ud, ud, ud, ud, ud, ud, ud, ud, ud, ud, ud, ud, ud] H)) := by kernel_rfl
def spec_l05Of_I1 (a : Nat) (a1 : Option Addr) (count : Int) (r1 : Nat) (r2 : Nat) (z1_6 : Int) (Inv : Nat → (Option Addr) → Nat → Nat → Int → AHeap → Prop) : Nat → List Value → AHeap → Prop := fun μ tm H => ∃ (vout_a : Option Addr), ∃ (vout_n : Nat), ∃ (vout_e : Nat), ∃ (i : Int), tm = (spec_l05Of_P1 a a1 count r1 r2 z1_6 vout_a vout_n vout_e i) ∧ Inv μ vout_a vout_n vout_e i H
theorem spec_l05Of_L1 (a : Nat) (a1 : Option Addr) (count : Int) (r1 : Nat) (r2 : Nat) (z1_6 : Int) {Q : Post} (Inv : Nat → (Option Addr) → Nat → Nat → Int → AHeap → Prop) (ν : Nat) (vout_a : Option Addr) (vout_n : Nat) (vout_e : Nat) (i : Int)  (H : AHeap) (h0 : Inv ν vout_a vout_n vout_e i H)
    (hs : ∀ (μ : Nat) (vout_a : Option Addr) (vout_n : Nat) (vout_e : Nat) (i : Int)  (H : AHeap), Inv μ vout_a vout_n vout_e i H → exL Try.prog E_spec_l05Of (cl (cl (cr (cl (cr (cr (cr (cr (bodyC Try.f52))))))))) 483 16 [(0, 130)] (spec_l05Of_P1 a a1 count r1 r2 z1_6 vout_a vout_n vout_e i) H (loopQ (spec_l05Of_I1 a a1 count r1 r2 z1_6 Inv) μ Q)) : loopK (exL Try.prog E_spec_l05Of (cl (cl (cr (cl (cr (cr (cr (cr (bodyC Try.f52))))))))) 483 16 [(0, 130)]) (spec_l05Of_P1 a a1 count r1 r2 z1_6 vout_a vout_n vout_e i) H Q :=
  ⟨spec_l05Of_I1 a a1 count r1 r2 z1_6 Inv, ν, ⟨vout_a, vout_n, vout_e, i, rfl, h0⟩, fun μ tm H h => by obtain ⟨vout_a, vout_n, vout_e, i, rfl, hI⟩ := h; exact hs μ vout_a vout_n vout_e i  H hI⟩
theorem spec_l05Of_n1 {a : Nat} {a1 : Option Addr} {count : Int} {r1 : Nat} {r2 : Nat} {z1_6 : Int} {Q : Post} {Inv : Nat → (Option Addr) → Nat → Nat → Int → AHeap → Prop} {μ : Nat} (μ' : Nat) {vout_a : Option Addr} {vout_n : Nat} {vout_e : Nat} {i : Int}  {H : AHeap} (hm : μ' < μ) (hI : Inv μ' vout_a vout_n vout_e i H) : loopQ (spec_l05Of_I1 a a1 count r1 r2 z1_6 Inv) μ Q .normal (spec_l05Of_P1 a a1 count r1 r2 z1_6 vout_a vout_n vout_e i) H := ⟨μ', hm, vout_a, vout_n, vout_e, i, rfl, hI⟩
theorem spec_l05Of_x1_0 (a : Nat) (vout_a : Option Addr) (vout_n : Nat) (vout_e : Nat) (H : AHeap) (K : Value → AHeap → Prop)  {I : Nat → List Value → AHeap → Prop} {μ : Nat} : loopQ I μ (blockQ 0 (seqQ (exL Try.prog E_spec_l05Of (cr (cr (cr (cr (cr (bodyC Try.f52)))))) 16 16 []) (retK Try.prog Try.f52 K))) (.exit 0) [ud, .pointer (some ⟨a, 0, none⟩), ud, ud, ud, ud, ud, .slice vout_a vout_n vout_e, ud, ud, ud, ud, ud, ud, ud, ud, ud, ud, ud, ud, ud, ud, ud, ud, ud, ud, ud, ud, ud, ud, ud, ud, ud, ud, ud, ud, ud, ud, ud, ud, ud, ud, ud, ud, ud, ud, ud, ud, ud, ud, ud, ud, ud, ud, ud, ud, ud, ud, ud, ud, ud, ud, ud, ud, ud, ud, ud, ud, ud, ud, ud, ud, ud] H =
  (T_spec_l03Energy vout_a vout_n vout_e H fun (r4 : Nat) (H8 : AHeap) => T_spec_l01Sqrt r4 H8 fun (r5 : Nat) (H9 : AHeap) => loopK (exL Try.prog E_spec_l05Of (cl (cl (cr (cl (cr (cr (cr (cr (cr (cr (bodyC Try.f52))))))))))) 27021597764225154 16 [(2, 128)]) [ud, .pointer (some ⟨a, 0, none⟩), ud, ud, ud, ud, ud, .slice vout_a vout_n vout_e, ud, ud, ud, .float .f32 r5, ud, ud, ud, ud, ud, ud, ud, ud, ud, ud, ud, ud, ud, ud, ud, ud, ud, ud, ud, ud, ud, ud, ud, ud, ud, ud, ud, ud, ud, ud, ud, ud, ud, ud, ud, ud, ud, ud, ud, ud, ud, .int .i64 (vout_n : Int), .int .i64 0, ud, ud, ud, ud, ud, ud, ud, ud, ud, ud, ud, ud, ud, ud, ud, ud, ud, ud] H9 (blockQ 2 (seqQ (exL Try.prog E_spec_l05Of (cr (cr (cr (cr (cr (cr (cr (bodyC Try.f52)))))))) 16 16 []) (retK Try.prog Try.f52 K)))) := by kernel_rfl
abbrev spec_l05Of_P2 (a : Nat) (r5 : Nat) (vout_a : Option Addr) (vout_e : Nat) (vout_n : Nat) (t54 : Int)  : List Value := [ud, .pointer (some ⟨a, 0, none⟩), ud, ud, ud, ud, ud, .slice vout_a vout_n vout_e, ud, ud, ud, .float .f32 r5, ud, ud, ud, ud, ud, ud, ud, ud, ud, ud, ud, ud, ud, ud, ud, ud, ud, ud, ud, ud, ud, ud, ud, ud, ud, ud, ud, ud, ud, ud, ud, ud, ud, ud, ud, ud, ud, ud, ud, ud, ud, .int .i64 (vout_n : Int), .int .i64 t54, ud, ud, ud, ud, ud, ud, ud, ud, ud, ud, ud, ud, ud, ud, ud, ud, ud, ud]
theorem spec_l05Of_r2 (a : Nat) (r5 : Nat) (vout_a : Option Addr) (vout_e : Nat) (vout_n : Nat) (t54 : Int)  (H : AHeap) (R : Post) : exL Try.prog E_spec_l05Of (cl (cl (cr (cl (cr (cr (cr (cr (cr (cr (bodyC Try.f52))))))))))) 27021597764225154 16 [(2, 128)] (spec_l05Of_P2 a r5 vout_a vout_e vout_n t54) H R =
  (Br (decide ((t54 : Int) < (vout_n : Int))) ((0 : Int) ≤ t54 ∧ t54 < (vout_n : Int) ∧ ∃ b7 f2, (vout_a : Option Addr) = some ⟨b7, f2, none⟩ ∧ ∃ x4 : Nat,  rdC H b7 (f2 + (t54 : Int).toNat * 1) = some (.float .f32 x4) ∧ ∃ x5 : Nat,  rdC H a 2 = some (.float .f32 x5) ∧ (0 : Int) ≤ t54 ∧ t54 < (vout_n : Int) ∧ ∃ b8 f3, (vout_a : Option Addr) = some ⟨b8, f3, none⟩ ∧ isOwn H b8 ∧ (∃ l, rdN H b8 (f3 + (t54 : Int).toNat * 1) 1 = some l) ∧ Lt (setC H b8 (f3 + (t54 : Int).toNat * 1) (.float .f32 (fmul .f32 (fdiv .f32 x4 r5) x5))) fun H10 => R .normal [ud, .pointer (some ⟨a, 0, none⟩), ud, ud, ud, ud, ud, .slice vout_a vout_n vout_e, ud, ud, ud, .float .f32 r5, ud, ud, ud, ud, ud, ud, ud, ud, ud, ud, ud, ud, ud, ud, ud, ud, ud, ud, ud, ud, ud, ud, ud, ud, ud, ud, ud, ud, ud, ud, ud, ud, ud, ud, ud, ud, ud, ud, ud, ud, ud, .int .i64 (vout_n : Int), .int .i64 (IntKind.wrap .i64 (t54 + 1)), ud, ud, ud, ud, ud, ud, ud, ud, ud, ud, ud, ud, ud, ud, ud, ud, ud, ud] H10) (R (.exit 2) [ud, ud, ud, ud, ud, ud, ud, .slice vout_a vout_n vout_e, ud, ud, ud, ud, ud, ud, ud, ud, ud, ud, ud, ud, ud, ud, ud, ud, ud, ud, ud, ud, ud, ud, ud, ud, ud, ud, ud, ud, ud, ud, ud, ud, ud, ud, ud, ud, ud, ud, ud, ud, ud, ud, ud, ud, ud, ud, ud, ud, ud, ud, ud, ud, ud, ud, ud, ud, ud, ud, ud, ud, ud, ud, ud, ud, ud] H)) := by kernel_rfl
def spec_l05Of_I2 (a : Nat) (r5 : Nat) (vout_a : Option Addr) (vout_e : Nat) (vout_n : Nat) (Inv : Nat → Int → AHeap → Prop) : Nat → List Value → AHeap → Prop := fun μ tm H => ∃ (t54 : Int), tm = (spec_l05Of_P2 a r5 vout_a vout_e vout_n t54) ∧ Inv μ t54 H
theorem spec_l05Of_L2 (a : Nat) (r5 : Nat) (vout_a : Option Addr) (vout_e : Nat) (vout_n : Nat) {Q : Post} (Inv : Nat → Int → AHeap → Prop) (ν : Nat) (t54 : Int)  (H : AHeap) (h0 : Inv ν t54 H)
    (hs : ∀ (μ : Nat) (t54 : Int)  (H : AHeap), Inv μ t54 H → exL Try.prog E_spec_l05Of (cl (cl (cr (cl (cr (cr (cr (cr (cr (cr (bodyC Try.f52))))))))))) 27021597764225154 16 [(2, 128)] (spec_l05Of_P2 a r5 vout_a vout_e vout_n t54) H (loopQ (spec_l05Of_I2 a r5 vout_a vout_e vout_n Inv) μ Q)) : loopK (exL Try.prog E_spec_l05Of (cl (cl (cr (cl (cr (cr (cr (cr (cr (cr (bodyC Try.f52))))))))))) 27021597764225154 16 [(2, 128)]) (spec_l05Of_P2 a r5 vout_a vout_e vout_n t54) H Q :=
  ⟨spec_l05Of_I2 a r5 vout_a vout_e vout_n Inv, ν, ⟨t54, rfl, h0⟩, fun μ tm H h => by obtain ⟨t54, rfl, hI⟩ := h; exact hs μ t54  H hI⟩
theorem spec_l05Of_n2 {a : Nat} {r5 : Nat} {vout_a : Option Addr} {vout_e : Nat} {vout_n : Nat} {Q : Post} {Inv : Nat → Int → AHeap → Prop} {μ : Nat} (μ' : Nat) {t54 : Int}  {H : AHeap} (hm : μ' < μ) (hI : Inv μ' t54 H) : loopQ (spec_l05Of_I2 a r5 vout_a vout_e vout_n Inv) μ Q .normal (spec_l05Of_P2 a r5 vout_a vout_e vout_n t54) H := ⟨μ', hm, t54, rfl, hI⟩
theorem spec_l05Of_x2_2 (vout_a : Option Addr) (vout_e : Nat) (vout_n : Nat) (H : AHeap) (K : Value → AHeap → Prop)  {I : Nat → List Value → AHeap → Prop} {μ : Nat} : loopQ I μ (blockQ 2 (seqQ (exL Try.prog E_spec_l05Of (cr (cr (cr (cr (cr (cr (cr (bodyC Try.f52)))))))) 16 16 []) (retK Try.prog Try.f52 K))) (.exit 2) [ud, ud, ud, ud, ud, ud, ud, .slice vout_a vout_n vout_e, ud, ud, ud, ud, ud, ud, ud, ud, ud, ud, ud, ud, ud, ud, ud, ud, ud, ud, ud, ud, ud, ud, ud, ud, ud, ud, ud, ud, ud, ud, ud, ud, ud, ud, ud, ud, ud, ud, ud, ud, ud, ud, ud, ud, ud, ud, ud, ud, ud, ud, ud, ud, ud, ud, ud, ud, ud, ud, ud, ud, ud, ud, ud, ud, ud] H =
  (K (.slice vout_a vout_n vout_e) H) := by kernel_rfl
theorem E_spec_l05Of_ok : ∀ g, FnOk Try.prog g (E_spec_l05Of g) := FnOk.envOf (by
  intro x hx
  simp only [List.mem_cons, List.not_mem_nil, or_false] at hx
  rcases hx with rfl | rfl | rfl | rfl
  · exact spec_l03Kernel_ok
  · exact spec_l00In_ok
  · exact spec_l03Energy_ok
  · exact spec_l01Sqrt_ok)
theorem o37 {P : Prop} (h : P := by first | assumption | omega) : P := h
set_option maxHeartbeats 1000000 in
theorem spec_l05Of_main (count : Int) (a : Nat) (H : AHeap) (K : Value → AHeap → Prop) (h : T_spec_l05Of count a H fun (r1_a : Option Addr) (r1_n : Nat) (r1_e : Nat) (H' : AHeap) => K (.slice r1_a r1_n r1_e) H') : bodyL Try.prog E_spec_l05Of Try.f52 [.int .i64 count, .pointer (some ⟨a, 0, none⟩)] H K := by
  rw [spec_l05Of_vc]
  obtain ⟨ap_Place, ap_Scale, ap_Size, i_a, pr0, pr1, pr2, pr3, pr4, hk⟩ := h
  have e : (p_spec_l05Of count ap_Place ap_Scale ap_Size) = _ := rfl
  have e := e.trans (p_spec_l05Of_eq count ap_Place ap_Scale ap_Size)
  have g0 := Grow.refl H
  refine ⟨ap_Scale, (rdN_at (rdN_grow g0 i_a) 1 (Nat.le_of_ble_eq_true rfl)).trans rfl, ?_⟩
  refine T_spec_l03Kernel_i ⟨o18, fun a_1 n_2 e_3 H_1 g_6 r_4 => ?_⟩
  have z_5 := spec_l03Kernel_len ap_Scale o37
  have l_7 := g_6.1
  have g_8 := g0.trans g_6
  have l_9 := g_8.1
  obtain rfl := r_4.isL.eqn
  have u_10 := r_4.up
  have u_11 := r_4.lo
  have z_13 := tdiv_nn ((((p_spec_l03Kernel ap_Scale)).length : Int)) 2
  refine ⟨(by first | omega | decide | (simp; done) | (simp; omega)), ?_⟩
  rw [show IntKind.wrap .i64 (Int.tdiv ((((p_spec_l03Kernel ap_Scale)).length : Int)) 2) = (Int.tdiv ((((p_spec_l03Kernel ap_Scale)).length : Int)) 2) from wrap64 o3 o3]
  refine Al.intro (fun b_14 H_2 hb_15 hl_16 g_17 o_18 => ?_)
  have o_18 : Own H_2 b_14 ((([] : List Nat)).map fF) := o_18
  have l_20 := g_17.1
  have g_21 := g_8.trans g_17
  have l_22 := g_21.1
  have r_23 := r_4.grow g_17
  have w_112 := o_18.lt
  refine spec_l05Of_L1 _ _ _ _ _ _ (fun (μ : Nat) (vout_a : Option Addr) (vout_n : Nat) (vout_e : Nat) (i : Int) (H_3 : AHeap) => ∃ (l_vout : List Nat), ∃ (b_24 : Nat), vout_a = some ⟨b_24, 0, none⟩ ∧ vout_n = l_vout.length ∧ vout_e = 1 ∧ Own H_3 b_24 (l_vout.map fF) ∧ OwnS fC H_3 H.length a_1 (((p_spec_l03Kernel ap_Scale)).length) e_3 (p_spec_l03Kernel ap_Scale) ∧ H_1.length ≤ H_3.length ∧ (b_24 < H.length ∨ H_1.length ≤ b_24) ∧ Grow H H_3 ∧ H.length ≤ b_24 ∧ (0 : Int) ≤ i ∧ ((i ≤ count ∨ i ≤ (0 : Int))) ∧ (l_vout.length : Int) ≤ i - (0 : Int) + 0 ∧ (l_vout.length : Int) ≤ i ∧ count - i ≤ (μ : Int) ∧ p_spec_l05Of count ap_Place ap_Scale ap_Size = p_spec_l05Of_l1 count ap_Place ap_Scale ap_Size (μ + 1) l_vout i) (Int.toNat (count - (0 : Int))) _ _ _ _ H_2 ?_ ?_
  · exact ⟨_, _, rfl, o8, rfl, o_18, r_23, o3, o3, g_21, o3, o6, o6, o6, o6, o3, e⟩
  · intro μ vout_a vout_n vout_e i  H_3 hI
    obtain ⟨l_vout, b_24, rfl, rfl, rfl, o_25, r_26, n_27, n_28, g_29, l_30, v_31, v_32, v_33, v_34, hμ, e⟩ := hI
    rw [spec_l05Of_r1]
    have e := e.trans (p_spec_l05Of_l1_s count ap_Place ap_Scale ap_Size μ l_vout i)
    have w_35 := o_25.lt
    have l_36 := g_29.1
    refine Br.intro (fun c_37 => ?_) (fun c_37 => ?_)
    · have e := e.trans (cond_t c_37)
      have c_37' := of_decide_eq_true c_37
      refine ⟨ap_Place, (rdN_at (rdN_grow g_29 i_a) 0 (Nat.le_of_ble_eq_true rfl)).trans rfl, ?_⟩
      rw [show IntKind.wrap .i64 (i - ap_Place) = (i - ap_Place) from wrap64 o3 o3]
      rw [show IntKind.wrap .i64 ((i - ap_Place) + ((Int.tdiv ((((p_spec_l03Kernel ap_Scale)).length : Int)) 2))) = ((i - ap_Place) + ((Int.tdiv ((((p_spec_l03Kernel ap_Scale)).length : Int)) 2))) from wrap64 o3 o3]
      rw [show IntKind.wrap .i64 (((((p_spec_l03Kernel ap_Scale)).length : Int)) - 1) = (((((p_spec_l03Kernel ap_Scale)).length : Int)) - 1) from wrap64 o3 o3]
      refine T_spec_l00In_i ?_
      refine Br.intro (fun c_38 => ?_) (fun c_38 => ?_)
      · have e := e.trans (cond_t c_38)
        have c_38' := spec_l00In_t c_38
        obtain ⟨b_39, f_40, q_41⟩ := (r_26.isL).pos o0
        refine ⟨by omega, by omega, b_39, f_40, q_41, ?_⟩
        refine ⟨((((p_spec_l03Kernel ap_Scale)).getD (((i - ap_Place) + ((Int.tdiv ((((p_spec_l03Kernel ap_Scale)).length : Int)) 2))) : Int).toNat (0, 0))).1, ((((p_spec_l03Kernel ap_Scale)).getD (((i - ap_Place) + ((Int.tdiv ((((p_spec_l03Kernel ap_Scale)).length : Int)) 2))) : Int).toNat (0, 0))).2, (r_26.isL).rd (Grow.refl _) q_41 o3 _, ?_⟩
        refine Al.intro (fun b_42 H_4 hb_43 hl_44 g_45 o_46 => ?_)
        have o_46 : Own H_4 b_42 (([(((((p_spec_l03Kernel ap_Scale)).getD (((i - ap_Place) + ((Int.tdiv ((((p_spec_l03Kernel ap_Scale)).length : Int)) 2))) : Int).toNat (0, 0))).1)]).map fF) := o_46
        have l_48 := g_45.1
        have g_49 := g_29.trans g_45
        have l_50 := g_49.1
        have o_51 := o_25.grow g_45
        have w_52 := o_51.lt
        have r_53 := r_26.grow g_45
        have w_67 := o_46.lt
        refine ⟨_, _, o_51.ownB o10 rfl, (isl_rdS (o_46.isL o8)), (fun h => by cases h), o28, ?_⟩
        refine Ap.app o_51 rfl rfl (fun b_58 H_5 q_65 hl_54 o_55 k_56 => ?_)
        have o_55 := map_snoc o_55
        have l_59 := k_56.1
        have g_60 := g_49.keep (b := b_24) o3 k_56
        have l_61 := g_60.1
        have o_62 := o_46.keep o3 k_56
        have w_63 := o_62.lt
        have r_64 := r_53.keep u_10 o3 k_56
        have w_66 := o_55.lt
        rw [show IntKind.wrap .i64 (i + 1) = (i + 1) from wrap64 o3 o3]
        refine spec_l05Of_n1 (μ - 1) o12 ⟨_, _, rfl, o9, rfl, o_55, r_64, o3, o3, g_60, o3, o1, o1, o1, o1, o12, (by rw [show μ - 1 + 1 = μ from by first | omega]; exact e)⟩
      · have e := e.trans (cond_f c_38)
        refine Al.intro (fun b_68 H_6 hb_69 hl_70 g_71 o_72 => ?_)
        have o_72 : Own H_6 b_68 (([0]).map fF) := o_72
        have l_74 := g_71.1
        have g_75 := g_29.trans g_71
        have l_76 := g_75.1
        have o_77 := o_25.grow g_71
        have w_78 := o_77.lt
        have r_79 := r_26.grow g_71
        have w_93 := o_72.lt
        refine ⟨_, _, o_77.ownB o10 rfl, (isl_rdS (o_72.isL o8)), (fun h => by cases h), o28, ?_⟩
        refine Ap.app o_77 rfl rfl (fun b_84 H_7 q_91 hl_80 o_81 k_82 => ?_)
        have o_81 := map_snoc o_81
        have l_85 := k_82.1
        have g_86 := g_75.keep (b := b_24) o3 k_82
        have l_87 := g_86.1
        have o_88 := o_72.keep o3 k_82
        have w_89 := o_88.lt
        have r_90 := r_79.keep u_10 o3 k_82
        have w_92 := o_81.lt
        rw [show IntKind.wrap .i64 (i + 1) = (i + 1) from wrap64 o3 o3]
        refine spec_l05Of_n1 (μ - 1) o12 ⟨_, _, rfl, o9, rfl, o_81, r_90, o3, o3, g_86, o3, o1, o1, o1, o1, o12, (by rw [show μ - 1 + 1 = μ from by first | omega]; exact e)⟩
    · have e := e.trans (cond_f c_37)
      have c_37' := of_decide_eq_false c_37
      rw [spec_l05Of_x1_0]
      refine T_spec_l03Energy_i ⟨_, (o_25.isL o8), o0, ?_⟩
      refine T_spec_l01Sqrt_i ?_
      refine spec_l05Of_L2 _ _ _ _ _ (fun (μ2 : Nat) (t54 : Int) (H_8 : AHeap) => ∃ (y2_1 : List Nat), Own H_8 b_24 (y2_1.map fF) ∧ y2_1.length = l_vout.length ∧ OwnS fC H_8 H.length a_1 (((p_spec_l03Kernel ap_Scale)).length) e_3 (p_spec_l03Kernel ap_Scale) ∧ H_1.length ≤ H_8.length ∧ Grow H H_8 ∧ (0 : Int) ≤ t54 ∧ t54 ≤ (l_vout.length : Int) ∧ (l_vout.length : Int) - t54 ≤ (μ2 : Int) ∧ p_spec_l05Of count ap_Place ap_Scale ap_Size = p_spec_l05Of_l2 count ap_Place ap_Scale ap_Size l_vout i (fun (t54 : Int) (y2_1 : List Nat) => y2_1) (μ2 + 1) t54 y2_1) (Int.toNat ((l_vout.length : Int) - (0 : Int))) _ H_3 ?_ ?_
      · exact ⟨_, o_25, o29, r_26, o3, g_29, o6, o6, o3, e⟩
      · intro μ2 t54  H_8 hI
        obtain ⟨y2_1, o_94, y_95, r_96, n_97, g_98, v_99, v_100, hμ, e⟩ := hI
        rw [spec_l05Of_r2]
        have e := e.trans (p_spec_l05Of_l2_s count ap_Place ap_Scale ap_Size l_vout i (fun (t54 : Int) (y2_1 : List Nat) => y2_1) μ2 t54 y2_1)
        have w_101 := o_94.lt
        have l_102 := g_98.1
        refine Br.intro (fun c_103 => ?_) (fun c_103 => ?_)
        · have e := e.trans (cond_t c_103)
          have c_103' := of_decide_eq_true c_103
          refine ⟨by omega, o3, _, _, rfl, ?_⟩
          refine ⟨((y2_1).getD (t54 : Int).toNat 0), o_94.rd o0 _, ?_⟩
          refine ⟨ap_Size, (rdN_at (rdN_grow g_98 i_a) 2 (Nat.le_of_ble_eq_true rfl)).trans rfl, ?_⟩
          refine ⟨by omega, o3, _, _, rfl, ?_⟩
          refine Lt.set o_94 o14 (fun H_9 hl_104 o_106 k_105 => ?_)
          have o_106 := map_set o_106
          have l_107 := k_105.1
          have g_108 := g_98.keep (b := b_24) o3 k_105
          have l_109 := g_108.1
          have r_110 := r_96.keep u_10 o3 k_105
          have w_111 := o_106.lt
          rw [show IntKind.wrap .i64 (t54 + 1) = (t54 + 1) from wrap64 o3 o3]
          refine spec_l05Of_n2 (μ2 - 1) o12 ⟨_, o_106, o20, r_110, o3, g_108, o1, o1, o12, (by rw [show μ2 - 1 + 1 = μ2 from by first | omega]; exact e)⟩
        · have e := e.trans (cond_f c_103)
          have c_103' := of_decide_eq_false c_103
          rw [spec_l05Of_x2_2]
          rw [e] at hk
          exact hk _ _ _ H_8 g_98 (o_94.ownS o8 o3)
theorem spec_l05Of_ok : FnOk Try.prog 52 S_spec_l05Of := by
  refine FnOk.body mix_ok E_spec_l05Of_ok Try.func52 rfl (by kernel_rfl) (by kernel_rfl) ?_ ?_ ?_ ?_ ?_
  · intro args H K K' h hk
    simp only [S_spec_l05Of] at *
    unfold F_spec_l05Of at *
    split at hk
    · obtain ⟨ap_Place, ap_Scale, ap_Size, i_a, pr0, pr1, pr2, pr3, pr4, k⟩ := hk
      exact ⟨ap_Place, ap_Scale, ap_Size, i_a, pr0, pr1, pr2, pr3, pr4, (fun r1_a r1_n r1_e H' gg ow0 => h _ _ (k r1_a r1_n r1_e H' gg ow0))⟩
    · exact hk.elim
  · intro hq; cases hq
  · intro args H K hk
    simp only [S_spec_l05Of] at *
    unfold F_spec_l05Of at *
    split at hk
    · obtain ⟨ap_Place, ap_Scale, ap_Size, i_a, pr0, pr1, pr2, pr3, pr4, k⟩ := hk
      exact liveS fun a n e H1 g o => ⟨_, _, k a n e H1 g o⟩
    · exact hk.elim
  · intro _ args H K hk
    simp only [S_spec_l05Of] at *
    unfold F_spec_l05Of at *
    split at hk
    · obtain ⟨ap_Place, ap_Scale, ap_Size, i_a, pr0, pr1, pr2, pr3, pr4, k⟩ := hk
      exact ⟨ap_Place, ap_Scale, ap_Size, i_a, pr0, pr1, pr2, pr3, pr4, (fun r1_a r1_n r1_e H' gg ow0 => ⟨gg, k r1_a r1_n r1_e H' gg ow0⟩)⟩
    · exact hk.elim
  · have mm := @spec_l05Of_main
    have ml := fun (args : List Value) (H : AHeap) (K : Value → AHeap → Prop) => bodyL_body (P := Try.prog) (env := E_spec_l05Of ) (fn := Try.f52) (args := args) (H := H) (K := K) E_spec_l05Of_ok 
    revert mm ml
    generalize bodyK Try.prog E_spec_l05Of Try.f52 = Q
    generalize bodyL Try.prog E_spec_l05Of Try.f52 = QL
    intro mm ml args H K hk
    simp only [S_spec_l05Of] at *
    unfold F_spec_l05Of at *
    split at hk
    · exact ml _ H K (mm _ _ H K hk)
    · exact hk.elim
def p_spec_l03Size (x : Nat) : Nat := (bif fle .f32 x 0 then fsub .f32 0 x else x)
def p_spec_l03Size_eq := @p_spec_l03Size.eq_1
def T_spec_l03Size (x : Nat) (H : AHeap) (K : Nat → AHeap → Prop) : Prop := K (p_spec_l03Size x) H

theorem T_spec_l03Size_i {x : Nat} {H : AHeap} {K : Nat → AHeap → Prop} (h : K (p_spec_l03Size x) H) : T_spec_l03Size x H K := h
/-! spec_l03Size: function 107 -/
def E_spec_l03Size : Env := envOf []
def F_spec_l03Size : List Value → AHeap → (Value → AHeap → Prop) → Prop
  | [.float .f32 x], H, K => T_spec_l03Size x H fun (r1 : Nat) (H' : AHeap) => K (.float .f32 r1) H'
  | _, _, _ => False
def S_spec_l03Size : FSpec := { F := F_spec_l03Size, quiet := true, tame := false }
theorem spec_l03Size_vc (x : Nat) (H : AHeap) (K : Value → AHeap → Prop) : bodyL Try.prog E_spec_l03Size Try.f107 [.float .f32 x] H K =
  (Br (fle .f32 x 0) (K (.float .f32 (fsub .f32 0 x)) H) (K (.float .f32 x) H)) := by kernel_rfl
theorem E_spec_l03Size_ok : ∀ g, FnOk Try.prog g (E_spec_l03Size g) := FnOk.envOf (by
  intro x hx; cases hx)
set_option maxHeartbeats 1000000 in
theorem spec_l03Size_main (x : Nat) (H : AHeap) (K : Value → AHeap → Prop) (h : T_spec_l03Size x H fun (r1 : Nat) (H' : AHeap) => K (.float .f32 r1) H') : bodyL Try.prog E_spec_l03Size Try.f107 [.float .f32 x] H K := by
  rw [spec_l03Size_vc]
  unfold T_spec_l03Size p_spec_l03Size at h
  repeat' (first | exact h | (exfalso; simp_all; done) | (refine ⟨by decide, ?_⟩) | (refine Br.intro (fun hb => ?_) (fun hb => ?_) <;> (try simp only [hb, cond_true, cond_false, Bool.not_true, Bool.not_false] at h)))
theorem spec_l03Size_ok : FnOk Try.prog 107 S_spec_l03Size := by
  refine FnOk.body mix_ok E_spec_l03Size_ok Try.func107 rfl (by kernel_rfl) (by kernel_rfl) ?_ ?_ ?_ ?_ ?_
  · intro args H K K' h hk
    simp only [S_spec_l03Size] at *
    unfold F_spec_l03Size at *
    split at hk
    · have k := hk
      exact h _ _ k
    · exact hk.elim
  · intro _ args H K hk
    simp only [S_spec_l03Size] at *
    unfold F_spec_l03Size at *
    split at hk
    · have k := hk
      exact ⟨_, k, fun K' k' => k'⟩
    · exact hk.elim
  · intro args H K hk
    simp only [S_spec_l03Size] at *
    unfold F_spec_l03Size at *
    split at hk
    · have k := hk
      exact ⟨_, _, k⟩
    · exact hk.elim
  · intro hq; cases hq
  · have mm := @spec_l03Size_main
    have ml := fun (args : List Value) (H : AHeap) (K : Value → AHeap → Prop) => bodyL_body (P := Try.prog) (env := E_spec_l03Size ) (fn := Try.f107) (args := args) (H := H) (K := K) E_spec_l03Size_ok 
    revert mm ml
    generalize bodyK Try.prog E_spec_l03Size Try.f107 = Q
    generalize bodyL Try.prog E_spec_l03Size Try.f107 = QL
    intro mm ml args H K hk
    simp only [S_spec_l03Size] at *
    unfold F_spec_l03Size at *
    split at hk
    · exact ml _ H K (mm _ H K hk)
    · exact hk.elim
end Go.Proofs.Ytghkkclonabpkab.Ai
