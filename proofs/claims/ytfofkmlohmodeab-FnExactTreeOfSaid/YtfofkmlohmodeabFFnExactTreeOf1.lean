/- What functions of the program come to on the abstract machine, and that they do so; printed by a program of mine around proofs of mine. -/
import Derived.Test.YtfofkmlohmodeabFFnExactTreeOf0
set_option linter.unusedVariables false
set_option linter.unusedSimpArgs false
set_option maxRecDepth 100000
namespace Go.Proofs.Ytfofkmlohmodeab.Ai
open Go
attribute [local irreducible] bodyK
def p_impl_TreeOf_l1 (n : Int) (levels : Int) (i : Int) : Nat → (List Int) → Int → (List Bool) → (List Int) × Bool
  | 0, _, _, _ => ([], false)
  | μ + 1, l_vout, t34, y1_1 => (bif decide ((t34 : Int) < (((p_impl_parentsOf n levels).1).length : Int)) then (bif (t34 : Int) == i then (p_impl_TreeOf_l1 n levels i μ ((l_vout ++ [(t34 : Int)])) (t34 + 1) (((y1_1).set (t34 : Int).toNat true))) else (bif decide ((0 : Int) ≤ (((p_impl_parentsOf n levels).1).getD (t34 : Int).toNat 0)) then (bif ((y1_1).getD ((((p_impl_parentsOf n levels).1).getD (t34 : Int).toNat 0) : Int).toNat false) then (p_impl_TreeOf_l1 n levels i μ ((l_vout ++ [(t34 : Int)])) (t34 + 1) (((y1_1).set (t34 : Int).toNat true))) else (p_impl_TreeOf_l1 n levels i μ l_vout (t34 + 1) y1_1)) else (p_impl_TreeOf_l1 n levels i μ l_vout (t34 + 1) y1_1))) else (l_vout, true))
theorem p_impl_TreeOf_l1_s (n : Int) (levels : Int) (i : Int) (μ : Nat) (l_vout : List Int) (t34 : Int) (y1_1 : List Bool) : p_impl_TreeOf_l1 n levels i (μ + 1) l_vout t34 y1_1 = (bif decide ((t34 : Int) < (((p_impl_parentsOf n levels).1).length : Int)) then (bif (t34 : Int) == i then (p_impl_TreeOf_l1 n levels i μ ((l_vout ++ [(t34 : Int)])) (t34 + 1) (((y1_1).set (t34 : Int).toNat true))) else (bif decide ((0 : Int) ≤ (((p_impl_parentsOf n levels).1).getD (t34 : Int).toNat 0)) then (bif ((y1_1).getD ((((p_impl_parentsOf n levels).1).getD (t34 : Int).toNat 0) : Int).toNat false) then (p_impl_TreeOf_l1 n levels i μ ((l_vout ++ [(t34 : Int)])) (t34 + 1) (((y1_1).set (t34 : Int).toNat true))) else (p_impl_TreeOf_l1 n levels i μ l_vout (t34 + 1) y1_1)) else (p_impl_TreeOf_l1 n levels i μ l_vout (t34 + 1) y1_1))) else (l_vout, true)) := rfl
def p_impl_TreeOf (n : Int) (levels : Int) (i : Int) : (List Int) × Bool := (bif !((p_impl_parentsOf n levels).2) then ([], false) else (bif !((p_impl_within i (0 : Int) (n - 1))) then ([], false) else (p_impl_TreeOf_l1 n levels i (Int.toNat ((((p_impl_parentsOf n levels).1).length : Int) - (0 : Int)) + 1) ([] : List Int) (0 : Int) (List.replicate ((n).toNat) false))))
theorem p_impl_TreeOf_eq (n : Int) (levels : Int) (i : Int) : p_impl_TreeOf n levels i = (bif !((p_impl_parentsOf n levels).2) then ([], false) else (bif !((p_impl_within i (0 : Int) (n - 1))) then ([], false) else (p_impl_TreeOf_l1 n levels i (Int.toNat ((((p_impl_parentsOf n levels).1).length : Int) - (0 : Int)) + 1) ([] : List Int) (0 : Int) (List.replicate ((n).toNat) false)))) := rfl
def T_impl_TreeOf (n : Int) (levels : Int) (i : Int) (H : AHeap) (K : (Option Addr) → Nat → Nat → Bool → AHeap → Prop) : Prop := ((∀ (r1_a : Option Addr) (r1_n r1_e : Nat), ∀ H' : AHeap, Grow H H' → OwnS fI H' H.length r1_a r1_n r1_e ((p_impl_TreeOf n levels i).1) → K r1_a r1_n r1_e ((p_impl_TreeOf n levels i).2) H'))
theorem T_impl_TreeOf_i {n : Int} {levels : Int} {i : Int} {H : AHeap} {K : (Option Addr) → Nat → Nat → Bool → AHeap → Prop} (h : ((∀ (r1_a : Option Addr) (r1_n r1_e : Nat), ∀ H' : AHeap, Grow H H' → OwnS fI H' H.length r1_a r1_n r1_e ((p_impl_TreeOf n levels i).1) → K r1_a r1_n r1_e ((p_impl_TreeOf n levels i).2) H'))) : T_impl_TreeOf n levels i H K := h
theorem impl_tree_go (n levels i : Int) : ∀ (μ : Nat) (o : List Int) (k : Int) (y : List Bool), (p_impl_TreeOf_l1 n levels i μ o k y).1.length ≤ o.length + μ := by
  intro μ
  induction μ with
  | zero => intro o k y; exact Nat.zero_le _
  | succ μ ih =>
    intro o k y
    have a : ∀ (z : List Bool), (p_impl_TreeOf_l1 n levels i μ (o ++ [k]) (k + 1) z).1.length ≤ o.length + (μ + 1) := by
      intro z; refine Nat.le_trans (ih _ _ _) ?_; simp; omega
    have b : (p_impl_TreeOf_l1 n levels i μ o (k + 1) y).1.length ≤ o.length + (μ + 1) := Nat.le_trans (ih _ _ _) (by omega)
    rw [p_impl_TreeOf_l1_s]
    generalize ((p_impl_parentsOf n levels).1).getD (k : Int).toNat 0 = p
    cases decide (k < (((p_impl_parentsOf n levels).1).length : Int)) with
    | false => exact Nat.le_add_right _ _
    | true =>
      rw [cond_true]
      cases (k == i) with
      | true => exact a _
      | false =>
        rw [cond_false]
        cases decide (0 ≤ p) with
        | false => exact b
        | true =>
          rw [cond_true]
          cases y.getD p.toNat false with
          | false => exact b
          | true => exact a _
theorem impl_TreeOf_len (n levels i : Int) : (p_impl_TreeOf n levels i).1.length ≤ 129 := by
  rw [p_impl_TreeOf_eq]
  cases (p_impl_parentsOf n levels).2 with
  | false => exact Nat.zero_le _
  | true =>
    rw [Bool.not_true, cond_false]
    have hl := impl_parentsOf_len n levels
    cases p_impl_within i 0 (n - 1) with
    | false => exact Nat.zero_le _
    | true => rw [Bool.not_true, cond_false]; refine Nat.le_trans (impl_tree_go n levels i _ _ _ _) ?_; simp; omega
/-! impl_TreeOf: function 16 -/
def E_impl_TreeOf : Env := envOf [(51, S_impl_parentsOf), (52, S_impl_within)]
def F_impl_TreeOf : List Value → AHeap → (Value → AHeap → Prop) → Prop
  | [.int .i64 n, .int .i64 levels, .int .i64 i], H, K => T_impl_TreeOf n levels i H fun (r1_a : Option Addr) (r1_n : Nat) (r1_e : Nat) (r2 : Bool) (H' : AHeap) => K (.tuple #[.slice r1_a r1_n r1_e, .bool r2]) H'
  | _, _, _ => False
def S_impl_TreeOf : FSpec := { F := F_impl_TreeOf, quiet := false, tame := true }
theorem impl_TreeOf_vc (n : Int) (levels : Int) (i : Int) (H : AHeap) (K : Value → AHeap → Prop) : bodyK Try.prog E_impl_TreeOf Try.f16 [.int .i64 n, .int .i64 levels, .int .i64 i] H K =
  (T_impl_parentsOf n levels H fun (a1 : Option Addr) (r1 : Nat) (r2 : Nat) (r3 : Bool) (H1 : AHeap) => Br (!r3) (K (.tuple #[.slice none 0 0, .bool false]) H1) (T_impl_within i 0 (IntKind.wrap .i64 (n - 1)) H1 fun (r4 : Bool) (H2 : AHeap) => Br (!r4) (K (.tuple #[.slice none 0 0, .bool false]) H2) ((0 : Int) ≤ n ∧ n = n ∧ n < (most : Int) ∧ Al (zerosOf (.bool false) (n).toNat) H2 fun b1 H3 => Al [] H3 fun b2 H4 => loopK (exK Try.prog E_impl_TreeOf (cl (cl (cr (cl (cr (cr (cr (cr (cr (bodyC Try.f16))))))))))) [.int .i64 n, .int .i64 levels, .int .i64 i, undef, undef, undef, .slice none 0 0, .bool false, .slice a1 r1 r2, .bool r3, .slice (some ⟨b1, 0, none⟩) ((n).toNat) 1, .slice (some ⟨b2, 0, none⟩) 0 1, undef, undef, .tuple #[.slice a1 r1 r2, .bool r3], .int .i64 n, .int .i64 levels, .tuple #[.slice a1 r1 r2, .bool r3], .slice a1 r1 r2, .bool r3, .bool r3, .bool (!r3), .bool false, .int .i64 i, .int .i64 n, .int .i64 (IntKind.wrap .i64 (n - 1)), .bool r4, .bool (!r4), .bool (!r4), .int .i64 n, .slice (some ⟨b1, 0, none⟩) ((n).toNat) 1, .slice (some ⟨b2, 0, none⟩) 0 1, .slice a1 r1 r2, .int .i64 (r1 : Int), .int .i64 0, undef, undef, undef, undef, undef, undef, undef, undef, undef, undef, undef, undef, undef, undef, undef, undef, undef, undef, undef, undef, undef, undef, undef, undef, undef, undef] H4 (blockQ 0 (seqQ (exK Try.prog E_impl_TreeOf (cr (cr (cr (cr (cr (cr (bodyC Try.f16)))))))) (retK Try.prog Try.f16 K)))))) := by kernel_rfl
theorem impl_TreeOf_r1 (a1 : Option Addr) (b1 : Nat) (b2 : Nat) (i : Int) (levels : Int) (n : Int) (r1 : Nat) (r2 : Nat) (r3 : Bool) (r4 : Bool) (z1_25 : Int) (vout_a : Option Addr) (vout_n : Nat) (vout_e : Nat) (t34 : Int) (g12 g13 g35 g36 g37 g38 g39 g40 g41 g42 g43 g44 g45 g46 g47 g48 g49 g50 g51 g52 g53 g54 g55 g56 g57 g58 g59 : Value) (H : AHeap) (R : Post) : exK Try.prog E_impl_TreeOf (cl (cl (cr (cl (cr (cr (cr (cr (cr (bodyC Try.f16)))))))))) [.int .i64 n, .int .i64 levels, .int .i64 i, undef, undef, undef, .slice none 0 0, .bool false, .slice a1 r1 r2, .bool r3, .slice (some ⟨b1, 0, none⟩) ((n).toNat) 1, .slice vout_a vout_n vout_e, g12, g13, .tuple #[.slice a1 r1 r2, .bool r3], .int .i64 n, .int .i64 levels, .tuple #[.slice a1 r1 r2, .bool r3], .slice a1 r1 r2, .bool r3, .bool r3, .bool (!r3), .bool false, .int .i64 i, .int .i64 n, .int .i64 z1_25, .bool r4, .bool (!r4), .bool (!r4), .int .i64 n, .slice (some ⟨b1, 0, none⟩) ((n).toNat) 1, .slice (some ⟨b2, 0, none⟩) 0 1, .slice a1 r1 r2, .int .i64 (r1 : Int), .int .i64 t34, g35, g36, g37, g38, g39, g40, g41, g42, g43, g44, g45, g46, g47, g48, g49, g50, g51, g52, g53, g54, g55, g56, g57, g58, g59, undef] H R =
  (Br (decide ((t34 : Int) < (r1 : Int))) ((0 : Int) ≤ t34 ∧ t34 < (r1 : Int) ∧ ∃ b3 f1, (a1 : Option Addr) = some ⟨b3, f1, none⟩ ∧ ∃ x1 : Int,  rdC H b3 (f1 + (t34 : Int).toNat * 1) = some (.int .i64 x1) ∧ Br ((t34 : Int) == i) ((0 : Int) ≤ t34 ∧ t34 < ((n).toNat : Int) ∧ ∃ b4 f2, (some ⟨b1, 0, none⟩ : Option Addr) = some ⟨b4, f2, none⟩ ∧ isOwn H b4 ∧ (∃ l, rdN H b4 (f2 + (t34 : Int).toNat * 1) 1 = some l) ∧ Lt (setC H b4 (f2 + (t34 : Int).toNat * 1) (.bool true)) fun H5 => Al [.int .i64 t34] H5 fun b5 H6 => ∃ o1 w1 : List Value, ownB H6 vout_a vout_n vout_e 1 = some o1 ∧ rdS H6 (some ⟨b5, 0, none⟩) (1 * 1) = some w1 ∧ ((vout_a : Option Addr) = none → 0 < (1 : Nat)) ∧ (vout_n : Nat) + 1 < most ∧ Ap H6 (killB H6 vout_a ++ [some ⟨o1 ++ w1, true⟩]) fun b6 H7 => R .normal [.int .i64 n, .int .i64 levels, .int .i64 i, undef, undef, undef, .slice none 0 0, .bool false, .slice a1 r1 r2, .bool r3, .slice (some ⟨b1, 0, none⟩) ((n).toNat) 1, .slice (some ⟨b6, 0, none⟩) (vout_n + 1) 1, .int .i64 t34, .int .i64 x1, .tuple #[.slice a1 r1 r2, .bool r3], .int .i64 n, .int .i64 levels, .tuple #[.slice a1 r1 r2, .bool r3], .slice a1 r1 r2, .bool r3, .bool r3, .bool (!r3), .bool false, .int .i64 i, .int .i64 n, .int .i64 z1_25, .bool r4, .bool (!r4), .bool (!r4), .int .i64 n, .slice (some ⟨b1, 0, none⟩) ((n).toNat) 1, .slice (some ⟨b2, 0, none⟩) 0 1, .slice a1 r1 r2, .int .i64 (r1 : Int), .int .i64 (IntKind.wrap .i64 (t34 + 1)), .bool (decide ((t34 : Int) < (r1 : Int))), .int .i64 t34, .pointer (some ⟨b3, f1 + (t34 : Int).toNat * 1, none⟩), .int .i64 x1, .int .i64 t34, .int .i64 i, .bool ((t34 : Int) == i), .bool true, undef, undef, undef, undef, undef, undef, undef, undef, .bool true, .slice (some ⟨b1, 0, none⟩) ((n).toNat) 1, .int .i64 t34, .pointer (some ⟨b4, f2 + (t34 : Int).toNat * 1, none⟩), .slice vout_a vout_n vout_e, .int .i64 t34, .slice (some ⟨b5, 0, none⟩) 1 1, .slice (some ⟨b6, 0, none⟩) (vout_n + 1) 1, .int .i64 (IntKind.wrap .i64 (t34 + 1)), undef] H7) (Br (decide ((0 : Int) ≤ x1)) ((0 : Int) ≤ x1 ∧ x1 < ((n).toNat : Int) ∧ ∃ b7 f3, (some ⟨b1, 0, none⟩ : Option Addr) = some ⟨b7, f3, none⟩ ∧ ∃ x2 : Bool,  rdC H b7 (f3 + (x1 : Int).toNat * 1) = some (.bool x2) ∧ Br x2 ((0 : Int) ≤ t34 ∧ t34 < ((n).toNat : Int) ∧ ∃ b8 f4, (some ⟨b1, 0, none⟩ : Option Addr) = some ⟨b8, f4, none⟩ ∧ isOwn H b8 ∧ (∃ l, rdN H b8 (f4 + (t34 : Int).toNat * 1) 1 = some l) ∧ Lt (setC H b8 (f4 + (t34 : Int).toNat * 1) (.bool true)) fun H8 => Al [.int .i64 t34] H8 fun b9 H9 => ∃ o2 w2 : List Value, ownB H9 vout_a vout_n vout_e 1 = some o2 ∧ rdS H9 (some ⟨b9, 0, none⟩) (1 * 1) = some w2 ∧ ((vout_a : Option Addr) = none → 0 < (1 : Nat)) ∧ (vout_n : Nat) + 1 < most ∧ Ap H9 (killB H9 vout_a ++ [some ⟨o2 ++ w2, true⟩]) fun b10 H10 => R .normal [.int .i64 n, .int .i64 levels, .int .i64 i, undef, undef, undef, .slice none 0 0, .bool false, .slice a1 r1 r2, .bool r3, .slice (some ⟨b1, 0, none⟩) ((n).toNat) 1, .slice (some ⟨b10, 0, none⟩) (vout_n + 1) 1, .int .i64 t34, .int .i64 x1, .tuple #[.slice a1 r1 r2, .bool r3], .int .i64 n, .int .i64 levels, .tuple #[.slice a1 r1 r2, .bool r3], .slice a1 r1 r2, .bool r3, .bool r3, .bool (!r3), .bool false, .int .i64 i, .int .i64 n, .int .i64 z1_25, .bool r4, .bool (!r4), .bool (!r4), .int .i64 n, .slice (some ⟨b1, 0, none⟩) ((n).toNat) 1, .slice (some ⟨b2, 0, none⟩) 0 1, .slice a1 r1 r2, .int .i64 (r1 : Int), .int .i64 (IntKind.wrap .i64 (t34 + 1)), .bool (decide ((t34 : Int) < (r1 : Int))), .int .i64 t34, .pointer (some ⟨b3, f1 + (t34 : Int).toNat * 1, none⟩), .int .i64 x1, .int .i64 t34, .int .i64 i, .bool ((t34 : Int) == i), .bool false, .int .i64 x1, .bool (decide ((0 : Int) ≤ x1)), .bool true, .slice (some ⟨b1, 0, none⟩) ((n).toNat) 1, .int .i64 x1, .pointer (some ⟨b7, f3 + (x1 : Int).toNat * 1, none⟩), .bool x2, .bool x2, .bool x2, .slice (some ⟨b1, 0, none⟩) ((n).toNat) 1, .int .i64 t34, .pointer (some ⟨b8, f4 + (t34 : Int).toNat * 1, none⟩), .slice vout_a vout_n vout_e, .int .i64 t34, .slice (some ⟨b9, 0, none⟩) 1 1, .slice (some ⟨b10, 0, none⟩) (vout_n + 1) 1, .int .i64 (IntKind.wrap .i64 (t34 + 1)), undef] H10) (R .normal [.int .i64 n, .int .i64 levels, .int .i64 i, undef, undef, undef, .slice none 0 0, .bool false, .slice a1 r1 r2, .bool r3, .slice (some ⟨b1, 0, none⟩) ((n).toNat) 1, .slice vout_a vout_n vout_e, .int .i64 t34, .int .i64 x1, .tuple #[.slice a1 r1 r2, .bool r3], .int .i64 n, .int .i64 levels, .tuple #[.slice a1 r1 r2, .bool r3], .slice a1 r1 r2, .bool r3, .bool r3, .bool (!r3), .bool false, .int .i64 i, .int .i64 n, .int .i64 z1_25, .bool r4, .bool (!r4), .bool (!r4), .int .i64 n, .slice (some ⟨b1, 0, none⟩) ((n).toNat) 1, .slice (some ⟨b2, 0, none⟩) 0 1, .slice a1 r1 r2, .int .i64 (r1 : Int), .int .i64 (IntKind.wrap .i64 (t34 + 1)), .bool (decide ((t34 : Int) < (r1 : Int))), .int .i64 t34, .pointer (some ⟨b3, f1 + (t34 : Int).toNat * 1, none⟩), .int .i64 x1, .int .i64 t34, .int .i64 i, .bool ((t34 : Int) == i), .bool false, .int .i64 x1, .bool (decide ((0 : Int) ≤ x1)), .bool true, .slice (some ⟨b1, 0, none⟩) ((n).toNat) 1, .int .i64 x1, .pointer (some ⟨b7, f3 + (x1 : Int).toNat * 1, none⟩), .bool x2, .bool x2, .bool x2, g52, g53, g54, g55, g56, g57, g58, .int .i64 (IntKind.wrap .i64 (t34 + 1)), undef] H)) (R .normal [.int .i64 n, .int .i64 levels, .int .i64 i, undef, undef, undef, .slice none 0 0, .bool false, .slice a1 r1 r2, .bool r3, .slice (some ⟨b1, 0, none⟩) ((n).toNat) 1, .slice vout_a vout_n vout_e, .int .i64 t34, .int .i64 x1, .tuple #[.slice a1 r1 r2, .bool r3], .int .i64 n, .int .i64 levels, .tuple #[.slice a1 r1 r2, .bool r3], .slice a1 r1 r2, .bool r3, .bool r3, .bool (!r3), .bool false, .int .i64 i, .int .i64 n, .int .i64 z1_25, .bool r4, .bool (!r4), .bool (!r4), .int .i64 n, .slice (some ⟨b1, 0, none⟩) ((n).toNat) 1, .slice (some ⟨b2, 0, none⟩) 0 1, .slice a1 r1 r2, .int .i64 (r1 : Int), .int .i64 (IntKind.wrap .i64 (t34 + 1)), .bool (decide ((t34 : Int) < (r1 : Int))), .int .i64 t34, .pointer (some ⟨b3, f1 + (t34 : Int).toNat * 1, none⟩), .int .i64 x1, .int .i64 t34, .int .i64 i, .bool ((t34 : Int) == i), .bool false, .int .i64 x1, .bool (decide ((0 : Int) ≤ x1)), .bool false, undef, undef, undef, undef, .bool false, .bool false, g52, g53, g54, g55, g56, g57, g58, .int .i64 (IntKind.wrap .i64 (t34 + 1)), undef] H))) (R (.exit 0) [.int .i64 n, .int .i64 levels, .int .i64 i, undef, undef, undef, .slice none 0 0, .bool false, .slice a1 r1 r2, .bool r3, .slice (some ⟨b1, 0, none⟩) ((n).toNat) 1, .slice vout_a vout_n vout_e, g12, g13, .tuple #[.slice a1 r1 r2, .bool r3], .int .i64 n, .int .i64 levels, .tuple #[.slice a1 r1 r2, .bool r3], .slice a1 r1 r2, .bool r3, .bool r3, .bool (!r3), .bool false, .int .i64 i, .int .i64 n, .int .i64 z1_25, .bool r4, .bool (!r4), .bool (!r4), .int .i64 n, .slice (some ⟨b1, 0, none⟩) ((n).toNat) 1, .slice (some ⟨b2, 0, none⟩) 0 1, .slice a1 r1 r2, .int .i64 (r1 : Int), .int .i64 t34, .bool (decide ((t34 : Int) < (r1 : Int))), g36, g37, g38, g39, g40, g41, g42, g43, g44, g45, g46, g47, g48, g49, g50, g51, g52, g53, g54, g55, g56, g57, g58, g59, undef] H)) := by kernel_rfl
def impl_TreeOf_I1 (a1 : Option Addr) (b1 : Nat) (b2 : Nat) (i : Int) (levels : Int) (n : Int) (r1 : Nat) (r2 : Nat) (r3 : Bool) (r4 : Bool) (z1_25 : Int) (Inv : Nat → (Option Addr) → Nat → Nat → Int → AHeap → Prop) : Nat → List Value → AHeap → Prop := fun μ tm H => ∃ (vout_a : Option Addr), ∃ (vout_n : Nat), ∃ (vout_e : Nat), ∃ (t34 : Int), ∃ g12 g13 g35 g36 g37 g38 g39 g40 g41 g42 g43 g44 g45 g46 g47 g48 g49 g50 g51 g52 g53 g54 g55 g56 g57 g58 g59, tm = [.int .i64 n, .int .i64 levels, .int .i64 i, undef, undef, undef, .slice none 0 0, .bool false, .slice a1 r1 r2, .bool r3, .slice (some ⟨b1, 0, none⟩) ((n).toNat) 1, .slice vout_a vout_n vout_e, g12, g13, .tuple #[.slice a1 r1 r2, .bool r3], .int .i64 n, .int .i64 levels, .tuple #[.slice a1 r1 r2, .bool r3], .slice a1 r1 r2, .bool r3, .bool r3, .bool (!r3), .bool false, .int .i64 i, .int .i64 n, .int .i64 z1_25, .bool r4, .bool (!r4), .bool (!r4), .int .i64 n, .slice (some ⟨b1, 0, none⟩) ((n).toNat) 1, .slice (some ⟨b2, 0, none⟩) 0 1, .slice a1 r1 r2, .int .i64 (r1 : Int), .int .i64 t34, g35, g36, g37, g38, g39, g40, g41, g42, g43, g44, g45, g46, g47, g48, g49, g50, g51, g52, g53, g54, g55, g56, g57, g58, g59, undef] ∧ Inv μ vout_a vout_n vout_e t34 H
theorem impl_TreeOf_L1 (a1 : Option Addr) (b1 : Nat) (b2 : Nat) (i : Int) (levels : Int) (n : Int) (r1 : Nat) (r2 : Nat) (r3 : Bool) (r4 : Bool) (z1_25 : Int) {Q : Post} (Inv : Nat → (Option Addr) → Nat → Nat → Int → AHeap → Prop) (ν : Nat) (vout_a : Option Addr) (vout_n : Nat) (vout_e : Nat) (t34 : Int) (g12 g13 g35 g36 g37 g38 g39 g40 g41 g42 g43 g44 g45 g46 g47 g48 g49 g50 g51 g52 g53 g54 g55 g56 g57 g58 g59 : Value) (H : AHeap) (h0 : Inv ν vout_a vout_n vout_e t34 H)
    (hs : ∀ (μ : Nat) (vout_a : Option Addr) (vout_n : Nat) (vout_e : Nat) (t34 : Int) (g12 g13 g35 g36 g37 g38 g39 g40 g41 g42 g43 g44 g45 g46 g47 g48 g49 g50 g51 g52 g53 g54 g55 g56 g57 g58 g59 : Value) (H : AHeap), Inv μ vout_a vout_n vout_e t34 H → exK Try.prog E_impl_TreeOf (cl (cl (cr (cl (cr (cr (cr (cr (cr (bodyC Try.f16)))))))))) [.int .i64 n, .int .i64 levels, .int .i64 i, undef, undef, undef, .slice none 0 0, .bool false, .slice a1 r1 r2, .bool r3, .slice (some ⟨b1, 0, none⟩) ((n).toNat) 1, .slice vout_a vout_n vout_e, g12, g13, .tuple #[.slice a1 r1 r2, .bool r3], .int .i64 n, .int .i64 levels, .tuple #[.slice a1 r1 r2, .bool r3], .slice a1 r1 r2, .bool r3, .bool r3, .bool (!r3), .bool false, .int .i64 i, .int .i64 n, .int .i64 z1_25, .bool r4, .bool (!r4), .bool (!r4), .int .i64 n, .slice (some ⟨b1, 0, none⟩) ((n).toNat) 1, .slice (some ⟨b2, 0, none⟩) 0 1, .slice a1 r1 r2, .int .i64 (r1 : Int), .int .i64 t34, g35, g36, g37, g38, g39, g40, g41, g42, g43, g44, g45, g46, g47, g48, g49, g50, g51, g52, g53, g54, g55, g56, g57, g58, g59, undef] H (loopQ (impl_TreeOf_I1 a1 b1 b2 i levels n r1 r2 r3 r4 z1_25 Inv) μ Q)) : loopK (exK Try.prog E_impl_TreeOf (cl (cl (cr (cl (cr (cr (cr (cr (cr (bodyC Try.f16))))))))))) [.int .i64 n, .int .i64 levels, .int .i64 i, undef, undef, undef, .slice none 0 0, .bool false, .slice a1 r1 r2, .bool r3, .slice (some ⟨b1, 0, none⟩) ((n).toNat) 1, .slice vout_a vout_n vout_e, g12, g13, .tuple #[.slice a1 r1 r2, .bool r3], .int .i64 n, .int .i64 levels, .tuple #[.slice a1 r1 r2, .bool r3], .slice a1 r1 r2, .bool r3, .bool r3, .bool (!r3), .bool false, .int .i64 i, .int .i64 n, .int .i64 z1_25, .bool r4, .bool (!r4), .bool (!r4), .int .i64 n, .slice (some ⟨b1, 0, none⟩) ((n).toNat) 1, .slice (some ⟨b2, 0, none⟩) 0 1, .slice a1 r1 r2, .int .i64 (r1 : Int), .int .i64 t34, g35, g36, g37, g38, g39, g40, g41, g42, g43, g44, g45, g46, g47, g48, g49, g50, g51, g52, g53, g54, g55, g56, g57, g58, g59, undef] H Q :=
  ⟨impl_TreeOf_I1 a1 b1 b2 i levels n r1 r2 r3 r4 z1_25 Inv, ν, ⟨vout_a, vout_n, vout_e, t34, g12, g13, g35, g36, g37, g38, g39, g40, g41, g42, g43, g44, g45, g46, g47, g48, g49, g50, g51, g52, g53, g54, g55, g56, g57, g58, g59, rfl, h0⟩, fun μ tm H h => by obtain ⟨vout_a, vout_n, vout_e, t34, g12, g13, g35, g36, g37, g38, g39, g40, g41, g42, g43, g44, g45, g46, g47, g48, g49, g50, g51, g52, g53, g54, g55, g56, g57, g58, g59, rfl, hI⟩ := h; exact hs μ vout_a vout_n vout_e t34 g12 g13 g35 g36 g37 g38 g39 g40 g41 g42 g43 g44 g45 g46 g47 g48 g49 g50 g51 g52 g53 g54 g55 g56 g57 g58 g59 H hI⟩
theorem impl_TreeOf_n1 {a1 : Option Addr} {b1 : Nat} {b2 : Nat} {i : Int} {levels : Int} {n : Int} {r1 : Nat} {r2 : Nat} {r3 : Bool} {r4 : Bool} {z1_25 : Int} {Q : Post} {Inv : Nat → (Option Addr) → Nat → Nat → Int → AHeap → Prop} {μ : Nat} (μ' : Nat) {vout_a : Option Addr} {vout_n : Nat} {vout_e : Nat} {t34 : Int} {g12 g13 g35 g36 g37 g38 g39 g40 g41 g42 g43 g44 g45 g46 g47 g48 g49 g50 g51 g52 g53 g54 g55 g56 g57 g58 g59 : Value} {H : AHeap} (hm : μ' < μ) (hI : Inv μ' vout_a vout_n vout_e t34 H) : loopQ (impl_TreeOf_I1 a1 b1 b2 i levels n r1 r2 r3 r4 z1_25 Inv) μ Q .normal [.int .i64 n, .int .i64 levels, .int .i64 i, undef, undef, undef, .slice none 0 0, .bool false, .slice a1 r1 r2, .bool r3, .slice (some ⟨b1, 0, none⟩) ((n).toNat) 1, .slice vout_a vout_n vout_e, g12, g13, .tuple #[.slice a1 r1 r2, .bool r3], .int .i64 n, .int .i64 levels, .tuple #[.slice a1 r1 r2, .bool r3], .slice a1 r1 r2, .bool r3, .bool r3, .bool (!r3), .bool false, .int .i64 i, .int .i64 n, .int .i64 z1_25, .bool r4, .bool (!r4), .bool (!r4), .int .i64 n, .slice (some ⟨b1, 0, none⟩) ((n).toNat) 1, .slice (some ⟨b2, 0, none⟩) 0 1, .slice a1 r1 r2, .int .i64 (r1 : Int), .int .i64 t34, g35, g36, g37, g38, g39, g40, g41, g42, g43, g44, g45, g46, g47, g48, g49, g50, g51, g52, g53, g54, g55, g56, g57, g58, g59, undef] H := ⟨μ', hm, vout_a, vout_n, vout_e, t34, g12, g13, g35, g36, g37, g38, g39, g40, g41, g42, g43, g44, g45, g46, g47, g48, g49, g50, g51, g52, g53, g54, g55, g56, g57, g58, g59, rfl, hI⟩
theorem impl_TreeOf_x1_0 (a1 : Option Addr) (b1 : Nat) (b2 : Nat) (i : Int) (levels : Int) (n : Int) (r1 : Nat) (r2 : Nat) (r3 : Bool) (r4 : Bool) (z1_25 : Int) (vout_a : Option Addr) (vout_n : Nat) (vout_e : Nat) (t34 : Int) (g12 g13 g35 g36 g37 g38 g39 g40 g41 g42 g43 g44 g45 g46 g47 g48 g49 g50 g51 g52 g53 g54 g55 g56 g57 g58 g59 : Value) (H : AHeap) (K : Value → AHeap → Prop)  {I : Nat → List Value → AHeap → Prop} {μ : Nat} : loopQ I μ (blockQ 0 (seqQ (exK Try.prog E_impl_TreeOf (cr (cr (cr (cr (cr (cr (bodyC Try.f16)))))))) (retK Try.prog Try.f16 K))) (.exit 0) [.int .i64 n, .int .i64 levels, .int .i64 i, undef, undef, undef, .slice none 0 0, .bool false, .slice a1 r1 r2, .bool r3, .slice (some ⟨b1, 0, none⟩) ((n).toNat) 1, .slice vout_a vout_n vout_e, g12, g13, .tuple #[.slice a1 r1 r2, .bool r3], .int .i64 n, .int .i64 levels, .tuple #[.slice a1 r1 r2, .bool r3], .slice a1 r1 r2, .bool r3, .bool r3, .bool (!r3), .bool false, .int .i64 i, .int .i64 n, .int .i64 z1_25, .bool r4, .bool (!r4), .bool (!r4), .int .i64 n, .slice (some ⟨b1, 0, none⟩) ((n).toNat) 1, .slice (some ⟨b2, 0, none⟩) 0 1, .slice a1 r1 r2, .int .i64 (r1 : Int), .int .i64 t34, g35, g36, g37, g38, g39, g40, g41, g42, g43, g44, g45, g46, g47, g48, g49, g50, g51, g52, g53, g54, g55, g56, g57, g58, g59, undef] H =
  (K (.tuple #[.slice vout_a vout_n vout_e, .bool true]) H) := by kernel_rfl
theorem E_impl_TreeOf_ok : ∀ g, FnOk Try.prog g (E_impl_TreeOf g) := FnOk.envOf (by
  intro x hx
  simp only [List.mem_cons, List.not_mem_nil, or_false] at hx
  rcases hx with rfl | rfl
  · exact impl_parentsOf_ok
  · exact impl_within_ok)
set_option maxHeartbeats 1000000 in
theorem impl_TreeOf_main (n : Int) (levels : Int) (i : Int) (H : AHeap) (K : Value → AHeap → Prop) (h : T_impl_TreeOf n levels i H fun (r1_a : Option Addr) (r1_n : Nat) (r1_e : Nat) (r2 : Bool) (H' : AHeap) => K (.tuple #[.slice r1_a r1_n r1_e, .bool r2]) H') : bodyK Try.prog E_impl_TreeOf Try.f16 [.int .i64 n, .int .i64 levels, .int .i64 i] H K := by
  rw [impl_TreeOf_vc]
  have hk := h
  unfold T_impl_TreeOf at hk
  have e : (p_impl_TreeOf n levels i) = _ := rfl
  have e := e.trans (p_impl_TreeOf_eq n levels i)
  have g0 := Grow.refl H
  refine T_impl_parentsOf_i (fun a_1 n_2 e_3 H_1 g_6 r_4 => ?_)
  have z_5 := impl_parentsOf_len n levels
  have l_7 := g_6.1
  have g_8 := g0.trans g_6
  have l_9 := g_8.1
  obtain rfl := r_4.isL.eqn
  have u_10 := r_4.up
  have u_11 := r_4.lo
  refine Br.intro (fun c_13 => ?_) (fun c_13 => ?_)
  · have e := e.trans (cond_t c_13)
    have c_13n := nf_of_t c_13
    rw [e] at hk
    exact hk _ _ _ H_1 g_8 (OwnS.nil _ _ _ _)
  · have e := e.trans (cond_f c_13)
    have c_13n := nt_of_f c_13
    have c_13n' := impl_parentsOf_t c_13n
    rw [show IntKind.wrap .i64 (n - 1) = (n - 1) from wrap64 (by omega) (by omega)]
    refine T_impl_within_i ?_
    refine Br.intro (fun c_14 => ?_) (fun c_14 => ?_)
    · have e := e.trans (cond_t c_14)
      have c_14n := nf_of_t c_14
      rw [e] at hk
      exact hk _ _ _ H_1 g_8 (OwnS.nil _ _ _ _)
    · have e := e.trans (cond_f c_14)
      have c_14n := nt_of_f c_14
      have c_14n' := impl_within_t c_14n
      refine ⟨by omega, rfl, (by have := most_eq; omega), ?_⟩
      refine Al.intro (fun b_15 H_2 hb_16 hl_17 g_18 o_19 => ?_)
      rw [zeros_map fB false _ rfl] at o_19
      have l_21 := g_18.1
      have g_22 := g_8.trans g_18
      have l_23 := g_22.1
      have r_24 := r_4.grow g_18
      have w_142 := o_19.lt
      refine Al.intro (fun b_25 H_3 hb_26 hl_27 g_28 o_29 => ?_)
      have o_29 : Own H_3 b_25 ((([] : List Int)).map fI) := o_29
      have l_31 := g_28.1
      have g_32 := g_22.trans g_28
      have l_33 := g_32.1
      have o_34 := o_19.grow g_28
      have w_35 := o_34.lt
      have r_36 := r_24.grow g_28
      have w_141 := o_29.lt
      refine impl_TreeOf_L1 _ _ _ _ _ _ _ _ _ _ _ (fun (μ : Nat) (vout_a : Option Addr) (vout_n : Nat) (vout_e : Nat) (t34 : Int) (H_4 : AHeap) => ∃ (l_vout : List Int), ∃ (b_37 : Nat), ∃ (y1_1 : List Bool), vout_a = some ⟨b_37, 0, none⟩ ∧ vout_n = l_vout.length ∧ vout_e = 1 ∧ Own H_4 b_37 (l_vout.map fI) ∧ Own H_4 b_15 (y1_1.map fB) ∧ y1_1.length = (n).toNat ∧ OwnS fI H_4 H.length a_1 (((p_impl_parentsOf n levels).1).length) e_3 ((p_impl_parentsOf n levels).1) ∧ (b_37 ≠ b_15) ∧ H_1.length ≤ H_4.length ∧ (b_37 < H.length ∨ H_1.length ≤ b_37) ∧ Grow H H_4 ∧ H.length ≤ b_37 ∧ (0 : Int) ≤ t34 ∧ t34 ≤ (((p_impl_parentsOf n levels).1).length : Int) ∧ (l_vout.length : Int) ≤ t34 - (0 : Int) + 0 ∧ (((p_impl_parentsOf n levels).1).length : Int) - t34 ≤ (μ : Int) ∧ p_impl_TreeOf n levels i = p_impl_TreeOf_l1 n levels i (μ + 1) l_vout t34 y1_1) (Int.toNat ((((p_impl_parentsOf n levels).1).length : Int) - (0 : Int))) _ _ _ _ _ _ _ _ _ _ _ _ _ _ _ _ _ _ _ _ _ _ _ _ _ _ _ _ _ _ _ H_3 ?_ ?_
      · exact ⟨_, _, _, rfl, (by first | rfl | omega | (simp only [List.length_set]; done) | (simp only [List.length_set, List.length_replicate]; omega)), rfl, o_29, o_34, (by first | rfl | (simp; done)), r_36, (by omega), (by omega), (by omega), g_32, (by omega), (by first | omega | (simp; done) | (simp; omega)), (by first | omega | (simp; done) | (simp; omega)), (by first | omega | (simp; done) | (simp; omega)), (by omega), e⟩
      · intro μ vout_a vout_n vout_e t34 g12 g13 g35 g36 g37 g38 g39 g40 g41 g42 g43 g44 g45 g46 g47 g48 g49 g50 g51 g52 g53 g54 g55 g56 g57 g58 g59 H_4 hI
        obtain ⟨l_vout, b_37, y1_1, rfl, rfl, rfl, o_38, o_39, y_40, r_41, n_42, n_43, n_44, g_45, l_46, v_47, v_48, v_49, hμ, e⟩ := hI
        rw [impl_TreeOf_r1]
        have e := e.trans (p_impl_TreeOf_l1_s n levels i μ l_vout t34 y1_1)
        have w_50 := o_39.lt
        have w_51 := o_38.lt
        have l_52 := g_45.1
        refine Br.intro (fun c_53 => ?_) (fun c_53 => ?_)
        · have e := e.trans (cond_t c_53)
          have c_53' := of_decide_eq_true c_53
          obtain ⟨b_54, f_55, q_56⟩ := (r_41.isL).pos (by first | omega | (simp only [List.length_set, List.length_replicate, List.length_append, List.length_cons, List.length_nil, List.length_take, List.length_drop, marks_length]; done) | (simp only [List.length_set, List.length_replicate, List.length_append, List.length_cons, List.length_nil, List.length_take, List.length_drop, marks_length]; omega))
          refine ⟨by omega, by omega, b_54, f_55, q_56, ?_⟩
          refine ⟨(((p_impl_parentsOf n levels).1).getD (t34 : Int).toNat 0), (r_41.isL).rd (Grow.refl _) q_56 (by omega) _, ?_⟩
          have z_57 := impl_par_rng n levels (t34 : Int)
          refine Br.intro (fun c_58 => ?_) (fun c_58 => ?_)
          · have e := e.trans (cond_t c_58)
            have c_58' := ieq_t c_58
            refine ⟨by omega, (by omega), _, _, rfl, ?_⟩
            refine Lt.set o_39 (by simp only [List.length_map]; (first | omega | (simp only [List.length_set, List.length_replicate, List.length_append, List.length_cons, List.length_nil, List.length_take, List.length_drop, marks_length]; done) | (simp only [List.length_set, List.length_replicate, List.length_append, List.length_cons, List.length_nil, List.length_take, List.length_drop, marks_length]; omega))) (fun H_5 hl_59 o_61 k_60 => ?_)
            have o_61 := map_set o_61
            have l_62 := k_60.1
            have g_63 := g_45.keep (b := b_15) (by omega) k_60
            have l_64 := g_63.1
            have o_65 := o_38.keep (by omega) k_60
            have w_66 := o_65.lt
            have r_67 := r_41.keep u_10 (by omega) k_60
            have w_98 := o_61.lt
            refine Al.intro (fun b_68 H_6 hb_69 hl_70 g_71 o_72 => ?_)
            have o_72 : Own H_6 b_68 (([(t34 : Int)]).map fI) := o_72
            have l_74 := g_71.1
            have g_75 := g_63.trans g_71
            have l_76 := g_75.1
            have o_77 := o_61.grow g_71
            have w_78 := o_77.lt
            have o_79 := o_65.grow g_71
            have w_80 := o_79.lt
            have r_81 := r_67.grow g_71
            have w_97 := o_72.lt
            refine ⟨_, _, o_79.ownB (by first | (simp only [List.length_map, List.length_cons, List.length_nil, List.length_append]; done) | (simp only [List.length_map, List.length_cons, List.length_nil, List.length_append]; omega)) rfl, (isl_rdS (o_72.isL (by first | rfl | omega | (simp only [List.length_set]; done) | (simp only [List.length_set, List.length_replicate]; omega)))), (fun h => by cases h), (by have := most_eq; omega), ?_⟩
            refine Ap.app o_79 rfl rfl (fun b_86 H_7 q_95 hl_82 o_83 k_84 => ?_)
            have o_83 := map_snoc o_83
            have l_87 := k_84.1
            have g_88 := g_75.keep (b := b_37) (by omega) k_84
            have l_89 := g_88.1
            have o_90 := o_77.keep (by omega) k_84
            have w_91 := o_90.lt
            have o_92 := o_72.keep (by omega) k_84
            have w_93 := o_92.lt
            have r_94 := r_81.keep u_10 (by omega) k_84
            have w_96 := o_83.lt
            rw [show IntKind.wrap .i64 (t34 + 1) = (t34 + 1) from wrap64 (by omega) (by omega)]
            refine impl_TreeOf_n1 (μ - 1) (by first | omega) ⟨_, _, _, rfl, (by first | (simp only [List.length_append, List.length_cons, List.length_nil]; done) | (simp only [List.length_append, List.length_cons, List.length_nil]; omega) | (simp only [List.length_append, List.length_cons, List.length_nil, List.length_take, List.length_drop]; omega)), rfl, o_83, o_90, (by first | assumption | omega | (simp only [List.length_set]; first | rfl | assumption | omega)), r_94, (by omega), (by omega), (by omega), g_88, (by omega), (by first | omega | (simp only [List.length_append, List.length_cons, List.length_nil, List.length_set]; done) | (simp only [List.length_append, List.length_cons, List.length_nil, List.length_set]; omega)), (by first | omega | (simp only [List.length_append, List.length_cons, List.length_nil, List.length_set]; done) | (simp only [List.length_append, List.length_cons, List.length_nil, List.length_set]; omega)), (by first | omega | (simp only [List.length_append, List.length_cons, List.length_nil, List.length_set]; done) | (simp only [List.length_append, List.length_cons, List.length_nil, List.length_set]; omega)), (by first | omega), (by rw [show μ - 1 + 1 = μ from by first | omega]; exact e)⟩
          · have e := e.trans (cond_f c_58)
            have c_58' := ieq_f c_58
            refine Br.intro (fun c_99 => ?_) (fun c_99 => ?_)
            · have e := e.trans (cond_t c_99)
              have c_99' := of_decide_eq_true c_99
              refine ⟨by omega, (by omega), _, _, rfl, ?_⟩
              refine ⟨((y1_1).getD ((((p_impl_parentsOf n levels).1).getD (t34 : Int).toNat 0) : Int).toNat false), o_39.rd (by first | omega | (simp only [List.length_set, List.length_replicate, List.length_append, List.length_cons, List.length_nil, List.length_take, List.length_drop, marks_length]; done) | (simp only [List.length_set, List.length_replicate, List.length_append, List.length_cons, List.length_nil, List.length_take, List.length_drop, marks_length]; omega)) _, ?_⟩
              refine Br.intro (fun c_100 => ?_) (fun c_100 => ?_)
              · have e := e.trans (cond_t c_100)
                refine ⟨by omega, (by omega), _, _, rfl, ?_⟩
                refine Lt.set o_39 (by simp only [List.length_map]; (first | omega | (simp only [List.length_set, List.length_replicate, List.length_append, List.length_cons, List.length_nil, List.length_take, List.length_drop, marks_length]; done) | (simp only [List.length_set, List.length_replicate, List.length_append, List.length_cons, List.length_nil, List.length_take, List.length_drop, marks_length]; omega))) (fun H_8 hl_101 o_103 k_102 => ?_)
                have o_103 := map_set o_103
                have l_104 := k_102.1
                have g_105 := g_45.keep (b := b_15) (by omega) k_102
                have l_106 := g_105.1
                have o_107 := o_38.keep (by omega) k_102
                have w_108 := o_107.lt
                have r_109 := r_41.keep u_10 (by omega) k_102
                have w_140 := o_103.lt
                refine Al.intro (fun b_110 H_9 hb_111 hl_112 g_113 o_114 => ?_)
                have o_114 : Own H_9 b_110 (([(t34 : Int)]).map fI) := o_114
                have l_116 := g_113.1
                have g_117 := g_105.trans g_113
                have l_118 := g_117.1
                have o_119 := o_103.grow g_113
                have w_120 := o_119.lt
                have o_121 := o_107.grow g_113
                have w_122 := o_121.lt
                have r_123 := r_109.grow g_113
                have w_139 := o_114.lt
                refine ⟨_, _, o_121.ownB (by first | (simp only [List.length_map, List.length_cons, List.length_nil, List.length_append]; done) | (simp only [List.length_map, List.length_cons, List.length_nil, List.length_append]; omega)) rfl, (isl_rdS (o_114.isL (by first | rfl | omega | (simp only [List.length_set]; done) | (simp only [List.length_set, List.length_replicate]; omega)))), (fun h => by cases h), (by have := most_eq; omega), ?_⟩
                refine Ap.app o_121 rfl rfl (fun b_128 H_10 q_137 hl_124 o_125 k_126 => ?_)
                have o_125 := map_snoc o_125
                have l_129 := k_126.1
                have g_130 := g_117.keep (b := b_37) (by omega) k_126
                have l_131 := g_130.1
                have o_132 := o_119.keep (by omega) k_126
                have w_133 := o_132.lt
                have o_134 := o_114.keep (by omega) k_126
                have w_135 := o_134.lt
                have r_136 := r_123.keep u_10 (by omega) k_126
                have w_138 := o_125.lt
                rw [show IntKind.wrap .i64 (t34 + 1) = (t34 + 1) from wrap64 (by omega) (by omega)]
                refine impl_TreeOf_n1 (μ - 1) (by first | omega) ⟨_, _, _, rfl, (by first | (simp only [List.length_append, List.length_cons, List.length_nil]; done) | (simp only [List.length_append, List.length_cons, List.length_nil]; omega) | (simp only [List.length_append, List.length_cons, List.length_nil, List.length_take, List.length_drop]; omega)), rfl, o_125, o_132, (by first | assumption | omega | (simp only [List.length_set]; first | rfl | assumption | omega)), r_136, (by omega), (by omega), (by omega), g_130, (by omega), (by first | omega | (simp only [List.length_append, List.length_cons, List.length_nil, List.length_set]; done) | (simp only [List.length_append, List.length_cons, List.length_nil, List.length_set]; omega)), (by first | omega | (simp only [List.length_append, List.length_cons, List.length_nil, List.length_set]; done) | (simp only [List.length_append, List.length_cons, List.length_nil, List.length_set]; omega)), (by first | omega | (simp only [List.length_append, List.length_cons, List.length_nil, List.length_set]; done) | (simp only [List.length_append, List.length_cons, List.length_nil, List.length_set]; omega)), (by first | omega), (by rw [show μ - 1 + 1 = μ from by first | omega]; exact e)⟩
              · have e := e.trans (cond_f c_100)
                rw [show IntKind.wrap .i64 (t34 + 1) = (t34 + 1) from wrap64 (by omega) (by omega)]
                refine impl_TreeOf_n1 (μ - 1) (by first | omega) ⟨_, _, _, rfl, (by first | rfl | omega | (simp only [List.length_set]; done) | (simp only [List.length_set, List.length_replicate]; omega)), rfl, o_38, o_39, (by first | assumption | omega | (simp only [List.length_set]; first | rfl | assumption | omega)), r_41, (by omega), (by omega), (by omega), g_45, (by omega), (by first | omega | (simp only [List.length_append, List.length_cons, List.length_nil, List.length_set]; done) | (simp only [List.length_append, List.length_cons, List.length_nil, List.length_set]; omega)), (by first | omega | (simp only [List.length_append, List.length_cons, List.length_nil, List.length_set]; done) | (simp only [List.length_append, List.length_cons, List.length_nil, List.length_set]; omega)), (by first | omega | (simp only [List.length_append, List.length_cons, List.length_nil, List.length_set]; done) | (simp only [List.length_append, List.length_cons, List.length_nil, List.length_set]; omega)), (by first | omega), (by rw [show μ - 1 + 1 = μ from by first | omega]; exact e)⟩
            · have e := e.trans (cond_f c_99)
              have c_99' := of_decide_eq_false c_99
              rw [show IntKind.wrap .i64 (t34 + 1) = (t34 + 1) from wrap64 (by omega) (by omega)]
              refine impl_TreeOf_n1 (μ - 1) (by first | omega) ⟨_, _, _, rfl, (by first | rfl | omega | (simp only [List.length_set]; done) | (simp only [List.length_set, List.length_replicate]; omega)), rfl, o_38, o_39, (by first | assumption | omega | (simp only [List.length_set]; first | rfl | assumption | omega)), r_41, (by omega), (by omega), (by omega), g_45, (by omega), (by first | omega | (simp only [List.length_append, List.length_cons, List.length_nil, List.length_set]; done) | (simp only [List.length_append, List.length_cons, List.length_nil, List.length_set]; omega)), (by first | omega | (simp only [List.length_append, List.length_cons, List.length_nil, List.length_set]; done) | (simp only [List.length_append, List.length_cons, List.length_nil, List.length_set]; omega)), (by first | omega | (simp only [List.length_append, List.length_cons, List.length_nil, List.length_set]; done) | (simp only [List.length_append, List.length_cons, List.length_nil, List.length_set]; omega)), (by first | omega), (by rw [show μ - 1 + 1 = μ from by first | omega]; exact e)⟩
        · have e := e.trans (cond_f c_53)
          have c_53' := of_decide_eq_false c_53
          rw [impl_TreeOf_x1_0]
          rw [e] at hk
          exact hk _ _ _ H_4 g_45 (o_38.ownS (by first | rfl | omega | (simp only [List.length_set]; done) | (simp only [List.length_set, List.length_replicate]; omega)) (by omega))
theorem impl_TreeOf_ok : FnOk Try.prog 16 S_impl_TreeOf := by
  refine FnOk.body mix_ok E_impl_TreeOf_ok Try.func16 rfl (by kernel_rfl) (by kernel_rfl) ?_ ?_ ?_ ?_ ?_
  · intro args H K K' h hk
    simp only [S_impl_TreeOf] at *
    unfold F_impl_TreeOf at *
    split at hk
    · have k := hk
      exact fun r1_a r1_n r1_e H' gg ow0 => h _ _ (k r1_a r1_n r1_e H' gg ow0)
    · exact hk.elim
  · intro hq; cases hq
  · intro args H K hk
    simp only [S_impl_TreeOf] at *
    unfold F_impl_TreeOf at *
    split at hk
    · have k := hk
      exact liveS fun a n e H1 g o => ⟨_, _, k a n e H1 g o⟩
    · exact hk.elim
  · intro _ args H K hk
    simp only [S_impl_TreeOf] at *
    unfold F_impl_TreeOf at *
    split at hk
    · have k := hk
      exact fun r1_a r1_n r1_e H' gg ow0 => ⟨gg, k r1_a r1_n r1_e H' gg ow0⟩
    · exact hk.elim
  · have mm := @impl_TreeOf_main
    revert mm
    generalize bodyK Try.prog E_impl_TreeOf Try.f16 = Q
    intro mm args H K hk
    simp only [S_impl_TreeOf] at *
    unfold F_impl_TreeOf at *
    split at hk
    · exact mm _ _ _ H K hk
    · exact hk.elim
def p_laws_eqInt64S_l1 (l_a : List Int) (l_b : List Int) : Nat → Bool → Int → Bool
  | 0, _, _ => false
  | μ + 1, t4, i => (bif decide ((i : Int) < (l_a.length : Int)) then (bif (((l_a).getD (i : Int).toNat 0) : Int) != ((l_b).getD (i : Int).toNat 0) then false else (p_laws_eqInt64S_l1 l_a l_b μ t4 (i + 1))) else true)
theorem p_laws_eqInt64S_l1_s (l_a : List Int) (l_b : List Int) (μ : Nat) (t4 : Bool) (i : Int) : p_laws_eqInt64S_l1 l_a l_b (μ + 1) t4 i = (bif decide ((i : Int) < (l_a.length : Int)) then (bif (((l_a).getD (i : Int).toNat 0) : Int) != ((l_b).getD (i : Int).toNat 0) then false else (p_laws_eqInt64S_l1 l_a l_b μ t4 (i + 1))) else true) := rfl
def p_laws_eqInt64S (l_a : List Int) (l_b : List Int) : Bool := ((bif ((l_a.length : Int) : Int) != (l_b.length : Int) then false else (p_laws_eqInt64S_l1 l_a l_b (Int.toNat ((l_a.length : Int) - (0 : Int)) + 1) false (0 : Int))))
theorem p_laws_eqInt64S_eq (l_a : List Int) (l_b : List Int) : p_laws_eqInt64S l_a l_b = ((bif ((l_a.length : Int) : Int) != (l_b.length : Int) then false else (p_laws_eqInt64S_l1 l_a l_b (Int.toNat ((l_a.length : Int) - (0 : Int)) + 1) false (0 : Int)))) := rfl
def T_laws_eqInt64S (a_a : Option Addr) (a_n : Nat) (a_e : Nat) (b_a : Option Addr) (b_n : Nat) (b_e : Nat) (H : AHeap) (K : Bool → AHeap → Prop) : Prop := ∃ (l_a : List Int), ∃ (l_b : List Int), IsL fI H a_a a_n l_a ∧ IsL fI H b_a b_n l_b ∧ l_a.length < 1073741824 ∧ l_b.length < 1073741824 ∧ K (p_laws_eqInt64S l_a l_b) H
theorem T_laws_eqInt64S_i {a_a : Option Addr} {a_n : Nat} {a_e : Nat} {b_a : Option Addr} {b_n : Nat} {b_e : Nat} {H : AHeap} {K : Bool → AHeap → Prop} (h : ∃ (l_a : List Int), ∃ (l_b : List Int), IsL fI H a_a a_n l_a ∧ IsL fI H b_a b_n l_b ∧ l_a.length < 1073741824 ∧ l_b.length < 1073741824 ∧ K (p_laws_eqInt64S l_a l_b) H) : T_laws_eqInt64S a_a a_n a_e b_a b_n b_e H K := h
theorem laws_eqInt64S_go (l : List Int) : ∀ (μ : Nat) (t : Bool) (i : Nat), l.length - i < μ → p_laws_eqInt64S_l1 l l μ t (i : Int) = true := by
  intro μ
  induction μ with
  | zero => intro t i h; omega
  | succ μ ih =>
    intro t i hm
    rw [p_laws_eqInt64S_l1_s]
    by_cases h : i < l.length
    · rw [decide_eq_true (show (i : Int) < (l.length : Int) by omega), cond_true]
      simp only [bne_self_eq_false, cond_false]
      exact ih t (i + 1) (by omega)
    · rw [decide_eq_false (show ¬ (i : Int) < (l.length : Int) by omega), cond_false]
theorem laws_eqInt64S_self (l : List Int) : p_laws_eqInt64S l l = true := by
  rw [p_laws_eqInt64S_eq]
  have h0 : ((l.length : Int) != (l.length : Int)) = false := by simp
  rw [h0, cond_false]
  exact laws_eqInt64S_go l _ false 0 (by omega)
/-! laws_eqInt64S: function 17 -/
def E_laws_eqInt64S : Env := envOf []
def F_laws_eqInt64S : List Value → AHeap → (Value → AHeap → Prop) → Prop
  | [.slice a_a a_n a_e, .slice b_a b_n b_e], H, K => T_laws_eqInt64S a_a a_n a_e b_a b_n b_e H fun (r1 : Bool) (H' : AHeap) => K (.bool r1) H'
  | _, _, _ => False
def S_laws_eqInt64S : FSpec := { F := F_laws_eqInt64S, quiet := true, tame := false }
theorem laws_eqInt64S_vc (a_a : Option Addr) (a_n : Nat) (a_e : Nat) (b_a : Option Addr) (b_n : Nat) (b_e : Nat) (H : AHeap) (K : Value → AHeap → Prop) : bodyK Try.prog E_laws_eqInt64S Try.f17 [.slice a_a a_n a_e, .slice b_a b_n b_e] H K =
  (Br (((a_n : Int) : Int) != (b_n : Int)) (K (.bool false) H) (loopK (exK Try.prog E_laws_eqInt64S (cl (cl (cr (cl (cr (cr (bodyC Try.f17)))))))) [.slice a_a a_n a_e, .slice b_a b_n b_e, undef, undef, .bool false, .int .i64 0, .slice a_a a_n a_e, .int .i64 (a_n : Int), .slice b_a b_n b_e, .int .i64 (b_n : Int), .bool (((a_n : Int) : Int) != (b_n : Int)), undef, undef, undef, undef, undef, undef, undef, undef, undef, undef, undef, undef, undef, undef, undef] H (blockQ 0 (seqQ (exK Try.prog E_laws_eqInt64S (cr (cr (cr (bodyC Try.f17))))) (retK Try.prog Try.f17 K))))) := by kernel_rfl
theorem laws_eqInt64S_r1 (a_a : Option Addr) (a_e : Nat) (a_n : Nat) (b_a : Option Addr) (b_e : Nat) (b_n : Nat) (t4 : Bool) (i : Int) (g11 g12 g13 g14 g15 g16 g17 g18 g19 g20 g21 g22 g23 g24 g25 : Value) (H : AHeap) (R : Post) : exK Try.prog E_laws_eqInt64S (cl (cl (cr (cl (cr (cr (bodyC Try.f17))))))) [.slice a_a a_n a_e, .slice b_a b_n b_e, undef, undef, .bool t4, .int .i64 i, .slice a_a a_n a_e, .int .i64 (a_n : Int), .slice b_a b_n b_e, .int .i64 (b_n : Int), .bool (((a_n : Int) : Int) != (b_n : Int)), g11, g12, g13, g14, g15, g16, g17, g18, g19, g20, g21, g22, g23, g24, g25] H R =
  (Br (decide ((i : Int) < (a_n : Int))) ((0 : Int) ≤ i ∧ i < (a_n : Int) ∧ ∃ b1 f1, (a_a : Option Addr) = some ⟨b1, f1, none⟩ ∧ ∃ x1 : Int,  rdC H b1 (f1 + (i : Int).toNat * 1) = some (.int .i64 x1) ∧ (0 : Int) ≤ i ∧ i < (b_n : Int) ∧ ∃ b2 f2, (b_a : Option Addr) = some ⟨b2, f2, none⟩ ∧ ∃ x2 : Int,  rdC H b2 (f2 + (i : Int).toNat * 1) = some (.int .i64 x2) ∧ Br ((x1 : Int) != x2) (R .ret [.slice a_a a_n a_e, .slice b_a b_n b_e, undef, undef, .bool false, .int .i64 i, .slice a_a a_n a_e, .int .i64 (a_n : Int), .slice b_a b_n b_e, .int .i64 (b_n : Int), .bool (((a_n : Int) : Int) != (b_n : Int)), .int .i64 i, .slice a_a a_n a_e, .int .i64 (a_n : Int), .bool (decide ((i : Int) < (a_n : Int))), g15, g16, .slice a_a a_n a_e, .int .i64 i, .pointer (some ⟨b1, f1 + (i : Int).toNat * 1, none⟩), .int .i64 x1, .slice b_a b_n b_e, .int .i64 i, .pointer (some ⟨b2, f2 + (i : Int).toNat * 1, none⟩), .int .i64 x2, .bool ((x1 : Int) != x2)] H) (R .normal [.slice a_a a_n a_e, .slice b_a b_n b_e, undef, undef, .bool t4, .int .i64 (IntKind.wrap .i64 (i + 1)), .slice a_a a_n a_e, .int .i64 (a_n : Int), .slice b_a b_n b_e, .int .i64 (b_n : Int), .bool (((a_n : Int) : Int) != (b_n : Int)), .int .i64 i, .slice a_a a_n a_e, .int .i64 (a_n : Int), .bool (decide ((i : Int) < (a_n : Int))), .int .i64 i, .int .i64 (IntKind.wrap .i64 (i + 1)), .slice a_a a_n a_e, .int .i64 i, .pointer (some ⟨b1, f1 + (i : Int).toNat * 1, none⟩), .int .i64 x1, .slice b_a b_n b_e, .int .i64 i, .pointer (some ⟨b2, f2 + (i : Int).toNat * 1, none⟩), .int .i64 x2, .bool ((x1 : Int) != x2)] H)) (R (.exit 0) [.slice a_a a_n a_e, .slice b_a b_n b_e, undef, undef, .bool t4, .int .i64 i, .slice a_a a_n a_e, .int .i64 (a_n : Int), .slice b_a b_n b_e, .int .i64 (b_n : Int), .bool (((a_n : Int) : Int) != (b_n : Int)), .int .i64 i, .slice a_a a_n a_e, .int .i64 (a_n : Int), .bool (decide ((i : Int) < (a_n : Int))), g15, g16, g17, g18, g19, g20, g21, g22, g23, g24, g25] H)) := by kernel_rfl
def laws_eqInt64S_I1 (a_a : Option Addr) (a_e : Nat) (a_n : Nat) (b_a : Option Addr) (b_e : Nat) (b_n : Nat) (Inv : Nat → Bool → Int → AHeap → Prop) : Nat → List Value → AHeap → Prop := fun μ tm H => ∃ (t4 : Bool), ∃ (i : Int), ∃ g11 g12 g13 g14 g15 g16 g17 g18 g19 g20 g21 g22 g23 g24 g25, tm = [.slice a_a a_n a_e, .slice b_a b_n b_e, undef, undef, .bool t4, .int .i64 i, .slice a_a a_n a_e, .int .i64 (a_n : Int), .slice b_a b_n b_e, .int .i64 (b_n : Int), .bool (((a_n : Int) : Int) != (b_n : Int)), g11, g12, g13, g14, g15, g16, g17, g18, g19, g20, g21, g22, g23, g24, g25] ∧ Inv μ t4 i H
theorem laws_eqInt64S_L1 (a_a : Option Addr) (a_e : Nat) (a_n : Nat) (b_a : Option Addr) (b_e : Nat) (b_n : Nat) {Q : Post} (Inv : Nat → Bool → Int → AHeap → Prop) (ν : Nat) (t4 : Bool) (i : Int) (g11 g12 g13 g14 g15 g16 g17 g18 g19 g20 g21 g22 g23 g24 g25 : Value) (H : AHeap) (h0 : Inv ν t4 i H)
    (hs : ∀ (μ : Nat) (t4 : Bool) (i : Int) (g11 g12 g13 g14 g15 g16 g17 g18 g19 g20 g21 g22 g23 g24 g25 : Value) (H : AHeap), Inv μ t4 i H → exK Try.prog E_laws_eqInt64S (cl (cl (cr (cl (cr (cr (bodyC Try.f17))))))) [.slice a_a a_n a_e, .slice b_a b_n b_e, undef, undef, .bool t4, .int .i64 i, .slice a_a a_n a_e, .int .i64 (a_n : Int), .slice b_a b_n b_e, .int .i64 (b_n : Int), .bool (((a_n : Int) : Int) != (b_n : Int)), g11, g12, g13, g14, g15, g16, g17, g18, g19, g20, g21, g22, g23, g24, g25] H (loopQ (laws_eqInt64S_I1 a_a a_e a_n b_a b_e b_n Inv) μ Q)) : loopK (exK Try.prog E_laws_eqInt64S (cl (cl (cr (cl (cr (cr (bodyC Try.f17)))))))) [.slice a_a a_n a_e, .slice b_a b_n b_e, undef, undef, .bool t4, .int .i64 i, .slice a_a a_n a_e, .int .i64 (a_n : Int), .slice b_a b_n b_e, .int .i64 (b_n : Int), .bool (((a_n : Int) : Int) != (b_n : Int)), g11, g12, g13, g14, g15, g16, g17, g18, g19, g20, g21, g22, g23, g24, g25] H Q :=
  ⟨laws_eqInt64S_I1 a_a a_e a_n b_a b_e b_n Inv, ν, ⟨t4, i, g11, g12, g13, g14, g15, g16, g17, g18, g19, g20, g21, g22, g23, g24, g25, rfl, h0⟩, fun μ tm H h => by obtain ⟨t4, i, g11, g12, g13, g14, g15, g16, g17, g18, g19, g20, g21, g22, g23, g24, g25, rfl, hI⟩ := h; exact hs μ t4 i g11 g12 g13 g14 g15 g16 g17 g18 g19 g20 g21 g22 g23 g24 g25 H hI⟩
theorem laws_eqInt64S_n1 {a_a : Option Addr} {a_e : Nat} {a_n : Nat} {b_a : Option Addr} {b_e : Nat} {b_n : Nat} {Q : Post} {Inv : Nat → Bool → Int → AHeap → Prop} {μ : Nat} (μ' : Nat) {t4 : Bool} {i : Int} {g11 g12 g13 g14 g15 g16 g17 g18 g19 g20 g21 g22 g23 g24 g25 : Value} {H : AHeap} (hm : μ' < μ) (hI : Inv μ' t4 i H) : loopQ (laws_eqInt64S_I1 a_a a_e a_n b_a b_e b_n Inv) μ Q .normal [.slice a_a a_n a_e, .slice b_a b_n b_e, undef, undef, .bool t4, .int .i64 i, .slice a_a a_n a_e, .int .i64 (a_n : Int), .slice b_a b_n b_e, .int .i64 (b_n : Int), .bool (((a_n : Int) : Int) != (b_n : Int)), g11, g12, g13, g14, g15, g16, g17, g18, g19, g20, g21, g22, g23, g24, g25] H := ⟨μ', hm, t4, i, g11, g12, g13, g14, g15, g16, g17, g18, g19, g20, g21, g22, g23, g24, g25, rfl, hI⟩
theorem laws_eqInt64S_x1_0 (a_a : Option Addr) (a_e : Nat) (a_n : Nat) (b_a : Option Addr) (b_e : Nat) (b_n : Nat) (t4 : Bool) (i : Int) (g11 g12 g13 g14 g15 g16 g17 g18 g19 g20 g21 g22 g23 g24 g25 : Value) (H : AHeap) (K : Value → AHeap → Prop)  {I : Nat → List Value → AHeap → Prop} {μ : Nat} : loopQ I μ (blockQ 0 (seqQ (exK Try.prog E_laws_eqInt64S (cr (cr (cr (bodyC Try.f17))))) (retK Try.prog Try.f17 K))) (.exit 0) [.slice a_a a_n a_e, .slice b_a b_n b_e, undef, undef, .bool t4, .int .i64 i, .slice a_a a_n a_e, .int .i64 (a_n : Int), .slice b_a b_n b_e, .int .i64 (b_n : Int), .bool (((a_n : Int) : Int) != (b_n : Int)), g11, g12, g13, g14, g15, g16, g17, g18, g19, g20, g21, g22, g23, g24, g25] H =
  (K (.bool true) H) := by kernel_rfl
theorem laws_eqInt64S_x1_ret (a_a : Option Addr) (a_e : Nat) (a_n : Nat) (b_a : Option Addr) (b_e : Nat) (b_n : Nat) (t4 : Bool) (i : Int) (g11 g12 g13 g14 g15 g16 g17 g18 g19 g20 g21 g22 g23 g24 g25 : Value) (H : AHeap) (K : Value → AHeap → Prop)  {I : Nat → List Value → AHeap → Prop} {μ : Nat} : loopQ I μ (blockQ 0 (seqQ (exK Try.prog E_laws_eqInt64S (cr (cr (cr (bodyC Try.f17))))) (retK Try.prog Try.f17 K))) .ret [.slice a_a a_n a_e, .slice b_a b_n b_e, undef, undef, .bool t4, .int .i64 i, .slice a_a a_n a_e, .int .i64 (a_n : Int), .slice b_a b_n b_e, .int .i64 (b_n : Int), .bool (((a_n : Int) : Int) != (b_n : Int)), g11, g12, g13, g14, g15, g16, g17, g18, g19, g20, g21, g22, g23, g24, g25] H =
  (K (.bool t4) H) := by kernel_rfl
theorem E_laws_eqInt64S_ok : ∀ g, FnOk Try.prog g (E_laws_eqInt64S g) := FnOk.envOf (by
  intro x hx; cases hx)
set_option maxHeartbeats 1000000 in
theorem laws_eqInt64S_main (a_a : Option Addr) (a_n : Nat) (a_e : Nat) (b_a : Option Addr) (b_n : Nat) (b_e : Nat) (H : AHeap) (K : Value → AHeap → Prop) (h : T_laws_eqInt64S a_a a_n a_e b_a b_n b_e H fun (r1 : Bool) (H' : AHeap) => K (.bool r1) H') : bodyK Try.prog E_laws_eqInt64S Try.f17 [.slice a_a a_n a_e, .slice b_a b_n b_e] H K := by
  rw [laws_eqInt64S_vc]
  obtain ⟨l_a, l_b, i_a, i_b, bd_13, bd_14, hk⟩ := h
  obtain rfl := i_a.eqn
  obtain rfl := i_b.eqn
  have e : (p_laws_eqInt64S l_a l_b) = _ := rfl
  have e := e.trans (p_laws_eqInt64S_eq l_a l_b)
  have g0 := Grow.refl H
  refine Br.intro (fun c_1 => ?_) (fun c_1 => ?_)
  · have e := e.trans (cond_t c_1)
    have c_1' := ine_t c_1
    rw [e] at hk
    exact hk
  · have e := e.trans (cond_f c_1)
    have c_1' := ine_f c_1
    refine laws_eqInt64S_L1 _ _ _ _ _ _ (fun (μ : Nat) (t4 : Bool) (i : Int) (H_1 : AHeap) => H = H_1 ∧ (0 : Int) ≤ i ∧ i ≤ (l_a.length : Int) ∧ (l_a.length : Int) - i ≤ (μ : Int) ∧ p_laws_eqInt64S l_a l_b = p_laws_eqInt64S_l1 l_a l_b (μ + 1) t4 i) (Int.toNat ((l_a.length : Int) - (0 : Int))) _ _ _ _ _ _ _ _ _ _ _ _ _ _ _ _ _ H ?_ ?_
    · exact ⟨rfl, (by first | omega | (simp; done) | (simp; omega)), (by first | omega | (simp; done) | (simp; omega)), (by omega), e⟩
    · intro μ t4 i g11 g12 g13 g14 g15 g16 g17 g18 g19 g20 g21 g22 g23 g24 g25 H_1 hI
      obtain ⟨rfl, v_2, v_3, hμ, e⟩ := hI
      rw [laws_eqInt64S_r1]
      have e := e.trans (p_laws_eqInt64S_l1_s l_a l_b μ t4 i)
      have l_4 := g0.1
      refine Br.intro (fun c_5 => ?_) (fun c_5 => ?_)
      · have e := e.trans (cond_t c_5)
        have c_5' := of_decide_eq_true c_5
        obtain ⟨b_6, f_7, q_8⟩ := ((i_a.grow g0)).pos (by first | omega | (simp only [List.length_set, List.length_replicate, List.length_append, List.length_cons, List.length_nil, List.length_take, List.length_drop, marks_length]; done) | (simp only [List.length_set, List.length_replicate, List.length_append, List.length_cons, List.length_nil, List.length_take, List.length_drop, marks_length]; omega))
        refine ⟨by omega, by omega, b_6, f_7, q_8, ?_⟩
        refine ⟨((l_a).getD (i : Int).toNat 0), (i_a).rd g0 q_8 (by omega) _, ?_⟩
        obtain ⟨b_9, f_10, q_11⟩ := ((i_b.grow g0)).pos (by first | omega | (simp only [List.length_set, List.length_replicate, List.length_append, List.length_cons, List.length_nil, List.length_take, List.length_drop, marks_length]; done) | (simp only [List.length_set, List.length_replicate, List.length_append, List.length_cons, List.length_nil, List.length_take, List.length_drop, marks_length]; omega))
        refine ⟨by omega, by omega, b_9, f_10, q_11, ?_⟩
        refine ⟨((l_b).getD (i : Int).toNat 0), (i_b).rd g0 q_11 (by omega) _, ?_⟩
        refine Br.intro (fun c_12 => ?_) (fun c_12 => ?_)
        · have e := e.trans (cond_t c_12)
          have c_12' := ine_t c_12
          rw [laws_eqInt64S_x1_ret]
          rw [e] at hk
          exact hk
        · have e := e.trans (cond_f c_12)
          have c_12' := ine_f c_12
          rw [show IntKind.wrap .i64 (i + 1) = (i + 1) from wrap64 (by omega) (by omega)]
          refine laws_eqInt64S_n1 (μ - 1) (by first | omega) ⟨rfl, (by first | omega | (simp only [List.length_append, List.length_cons, List.length_nil, List.length_set]; done) | (simp only [List.length_append, List.length_cons, List.length_nil, List.length_set]; omega)), (by first | omega | (simp only [List.length_append, List.length_cons, List.length_nil, List.length_set]; done) | (simp only [List.length_append, List.length_cons, List.length_nil, List.length_set]; omega)), (by first | omega), (by rw [show μ - 1 + 1 = μ from by first | omega]; exact e)⟩
      · have e := e.trans (cond_f c_5)
        have c_5' := of_decide_eq_false c_5
        rw [laws_eqInt64S_x1_0]
        rw [e] at hk
        exact hk
theorem laws_eqInt64S_ok : FnOk Try.prog 17 S_laws_eqInt64S := by
  refine FnOk.body mix_ok E_laws_eqInt64S_ok Try.func17 rfl (by kernel_rfl) (by kernel_rfl) ?_ ?_ ?_ ?_ ?_
  · intro args H K K' h hk
    simp only [S_laws_eqInt64S] at *
    unfold F_laws_eqInt64S at *
    split at hk
    · obtain ⟨l_a, l_b, i_a, i_b, bd_13, bd_14, k⟩ := hk
      exact ⟨l_a, l_b, i_a, i_b, bd_13, bd_14, h _ _ k⟩
    · exact hk.elim
  · intro _ args H K hk
    simp only [S_laws_eqInt64S] at *
    unfold F_laws_eqInt64S at *
    split at hk
    · obtain ⟨l_a, l_b, i_a, i_b, bd_13, bd_14, k⟩ := hk
      exact ⟨_, k, fun K' k' => ⟨l_a, l_b, i_a, i_b, bd_13, bd_14, k'⟩⟩
    · exact hk.elim
  · intro args H K hk
    simp only [S_laws_eqInt64S] at *
    unfold F_laws_eqInt64S at *
    split at hk
    · obtain ⟨l_a, l_b, i_a, i_b, bd_13, bd_14, k⟩ := hk
      exact ⟨_, _, k⟩
    · exact hk.elim
  · intro hq; cases hq
  · have mm := @laws_eqInt64S_main
    revert mm
    generalize bodyK Try.prog E_laws_eqInt64S Try.f17 = Q
    intro mm args H K hk
    simp only [S_laws_eqInt64S] at *
    unfold F_laws_eqInt64S at *
    split at hk
    · exact mm _ _ _ _ _ _ H K hk
    · exact hk.elim
def p_laws_markInt64S_l1 (l_a : List Int) (k : Int) : Nat → Int → Int → (List Int) → Int × (List Int)
  | 0, _, _, _ => (0, [])
  | μ + 1, k_1, i, y1_1 => (bif decide ((i : Int) < (l_a.length : Int)) then (p_laws_markInt64S_l1 l_a k μ (IntKind.wrap .i64 (k_1 + 1)) (i + 1) (((y1_1).set (i : Int).toNat (k_1 : Int)))) else (k_1, y1_1))
theorem p_laws_markInt64S_l1_s (l_a : List Int) (k : Int) (μ : Nat) (k_1 : Int) (i : Int) (y1_1 : List Int) : p_laws_markInt64S_l1 l_a k (μ + 1) k_1 i y1_1 = (bif decide ((i : Int) < (l_a.length : Int)) then (p_laws_markInt64S_l1 l_a k μ (IntKind.wrap .i64 (k_1 + 1)) (i + 1) (((y1_1).set (i : Int).toNat (k_1 : Int)))) else (k_1, y1_1)) := rfl
def p_laws_markInt64S (l_a : List Int) (k : Int) : Int × (List Int) := (p_laws_markInt64S_l1 l_a k (Int.toNat ((l_a.length : Int) - (0 : Int)) + 1) k (0 : Int) l_a)
theorem p_laws_markInt64S_eq (l_a : List Int) (k : Int) : p_laws_markInt64S l_a k = (p_laws_markInt64S_l1 l_a k (Int.toNat ((l_a.length : Int) - (0 : Int)) + 1) k (0 : Int) l_a) := rfl
def T_laws_markInt64S (a_a : Option Addr) (a_n : Nat) (a_e : Nat) (k : Int) (H : AHeap) (K : Int → AHeap → Prop) : Prop := ∃ lo : Nat, ∃ (l_a : List Int), OwnS fI H lo a_a a_n a_e l_a ∧ l_a.length < 1073741824 ∧ ((∀ H' : AHeap, KeepA a_a H H' → OwnS fI H' lo a_a a_n a_e (marks (fun n : Int => n) k l_a.length) → K (wk k l_a.length) H'))
theorem T_laws_markInt64S_i {a_a : Option Addr} {a_n : Nat} {a_e : Nat} {k : Int} {H : AHeap} {K : Int → AHeap → Prop} (h : ∃ lo : Nat, ∃ (l_a : List Int), OwnS fI H lo a_a a_n a_e l_a ∧ l_a.length < 1073741824 ∧ ((∀ H' : AHeap, KeepA a_a H H' → OwnS fI H' lo a_a a_n a_e (marks (fun n : Int => n) k l_a.length) → K (wk k l_a.length) H'))) : T_laws_markInt64S a_a a_n a_e k H K := h
theorem laws_markInt64S_go (l : List Int) (k0 : Int) : ∀ (μ : Nat) (k : Int) (i : Nat) (ys : List Int), ys.length = l.length → i ≤ l.length → l.length - i < μ →
    p_laws_markInt64S_l1 l k0 μ k (i : Int) ys = (wk k (l.length - i), ys.take i ++ marks (fun n : Int => n) k (l.length - i)) := by
  intro μ
  induction μ with
  | zero => intro k i ys _ _ h; omega
  | succ μ ih =>
    intro k i ys hy hi hm
    rw [p_laws_markInt64S_l1_s]
    by_cases h : i < l.length
    · rw [decide_eq_true (show (i : Int) < (l.length : Int) by omega), cond_true, Int.toNat_natCast]
      have := ih (IntKind.wrap .i64 (k + 1)) (i + 1) (ys.set i ((fun n : Int => n) k)) (by simp [hy]) (by omega) (by omega)
      obtain ⟨d, hd⟩ : ∃ d, l.length - i = d + 1 := ⟨l.length - i - 1, by omega⟩
      rw [show l.length - (i + 1) = d by omega] at this
      rw [hd, wk, marks]
      refine Eq.trans this ?_
      rw [List.take_add_one, List.getElem?_set_self (by omega), List.take_set_of_le (Nat.le_refl i)]
      simp
    · rw [decide_eq_false (show ¬ (i : Int) < (l.length : Int) by omega), cond_false]
      rw [show l.length - i = 0 by omega, wk, marks, List.append_nil, List.take_of_length_le (by omega)]
theorem laws_markInt64S_val (l : List Int) (k : Int) : p_laws_markInt64S l k = (wk k l.length, marks (fun n : Int => n) k l.length) := by
  rw [p_laws_markInt64S_eq]
  have := laws_markInt64S_go l k (Int.toNat ((l.length : Int) - 0) + 1) k 0 l rfl (by omega) (by omega)
  simpa using this
/-! laws_markInt64S: function 18 -/
def E_laws_markInt64S : Env := envOf []
def F_laws_markInt64S : List Value → AHeap → (Value → AHeap → Prop) → Prop
  | [.slice a_a a_n a_e, .int .i64 k], H, K => T_laws_markInt64S a_a a_n a_e k H fun (r1 : Int) (H' : AHeap) => K (.int .i64 r1) H'
  | _, _, _ => False
def S_laws_markInt64S : FSpec := { F := F_laws_markInt64S, quiet := false, tame := false }
theorem laws_markInt64S_vc (a_a : Option Addr) (a_n : Nat) (a_e : Nat) (k : Int) (H : AHeap) (K : Value → AHeap → Prop) : bodyK Try.prog E_laws_markInt64S Try.f18 [.slice a_a a_n a_e, .int .i64 k] H K =
  (loopK (exK Try.prog E_laws_markInt64S (cl (cl (cr (cl (cr (bodyC Try.f18))))))) [.slice a_a a_n a_e, .int .i64 k, undef, undef, .int .i64 0, .int .i64 0, undef, undef, undef, undef, undef, undef, undef, undef, undef, undef, undef, undef, undef] H (blockQ 0 (seqQ (exK Try.prog E_laws_markInt64S (cr (cr (bodyC Try.f18)))) (retK Try.prog Try.f18 K)))) := by kernel_rfl
theorem laws_markInt64S_r1 (a_a : Option Addr) (a_e : Nat) (a_n : Nat) (k_1 : Int) (i : Int) (g6 g7 g8 g9 g10 g11 g12 g13 g14 g15 g16 g17 : Value) (H : AHeap) (R : Post) : exK Try.prog E_laws_markInt64S (cl (cl (cr (cl (cr (bodyC Try.f18)))))) [.slice a_a a_n a_e, .int .i64 k_1, undef, undef, .int .i64 0, .int .i64 i, g6, g7, g8, g9, g10, g11, g12, g13, g14, g15, g16, g17, undef] H R =
  (Br (decide ((i : Int) < (a_n : Int))) ((0 : Int) ≤ i ∧ i < (a_n : Int) ∧ ∃ b1 f1, (a_a : Option Addr) = some ⟨b1, f1, none⟩ ∧ isOwn H b1 ∧ (∃ l, rdN H b1 (f1 + (i : Int).toNat * 1) 1 = some l) ∧ Lt (setC H b1 (f1 + (i : Int).toNat * 1) (.int .i64 k_1)) fun H1 => R .normal [.slice a_a a_n a_e, .int .i64 (IntKind.wrap .i64 (k_1 + 1)), undef, undef, .int .i64 0, .int .i64 (IntKind.wrap .i64 (i + 1)), .int .i64 i, .slice a_a a_n a_e, .int .i64 (a_n : Int), .bool (decide ((i : Int) < (a_n : Int))), .int .i64 i, .int .i64 (IntKind.wrap .i64 (i + 1)), .slice a_a a_n a_e, .int .i64 i, .int .i64 k_1, .pointer (some ⟨b1, f1 + (i : Int).toNat * 1, none⟩), .int .i64 k_1, .int .i64 (IntKind.wrap .i64 (k_1 + 1)), undef] H1) (R (.exit 0) [.slice a_a a_n a_e, .int .i64 k_1, undef, undef, .int .i64 0, .int .i64 i, .int .i64 i, .slice a_a a_n a_e, .int .i64 (a_n : Int), .bool (decide ((i : Int) < (a_n : Int))), g10, g11, g12, g13, g14, g15, g16, g17, undef] H)) := by kernel_rfl
def laws_markInt64S_I1 (a_a : Option Addr) (a_e : Nat) (a_n : Nat) (Inv : Nat → Int → Int → AHeap → Prop) : Nat → List Value → AHeap → Prop := fun μ tm H => ∃ (k_1 : Int), ∃ (i : Int), ∃ g6 g7 g8 g9 g10 g11 g12 g13 g14 g15 g16 g17, tm = [.slice a_a a_n a_e, .int .i64 k_1, undef, undef, .int .i64 0, .int .i64 i, g6, g7, g8, g9, g10, g11, g12, g13, g14, g15, g16, g17, undef] ∧ Inv μ k_1 i H
theorem laws_markInt64S_L1 (a_a : Option Addr) (a_e : Nat) (a_n : Nat) {Q : Post} (Inv : Nat → Int → Int → AHeap → Prop) (ν : Nat) (k_1 : Int) (i : Int) (g6 g7 g8 g9 g10 g11 g12 g13 g14 g15 g16 g17 : Value) (H : AHeap) (h0 : Inv ν k_1 i H)
    (hs : ∀ (μ : Nat) (k_1 : Int) (i : Int) (g6 g7 g8 g9 g10 g11 g12 g13 g14 g15 g16 g17 : Value) (H : AHeap), Inv μ k_1 i H → exK Try.prog E_laws_markInt64S (cl (cl (cr (cl (cr (bodyC Try.f18)))))) [.slice a_a a_n a_e, .int .i64 k_1, undef, undef, .int .i64 0, .int .i64 i, g6, g7, g8, g9, g10, g11, g12, g13, g14, g15, g16, g17, undef] H (loopQ (laws_markInt64S_I1 a_a a_e a_n Inv) μ Q)) : loopK (exK Try.prog E_laws_markInt64S (cl (cl (cr (cl (cr (bodyC Try.f18))))))) [.slice a_a a_n a_e, .int .i64 k_1, undef, undef, .int .i64 0, .int .i64 i, g6, g7, g8, g9, g10, g11, g12, g13, g14, g15, g16, g17, undef] H Q :=
  ⟨laws_markInt64S_I1 a_a a_e a_n Inv, ν, ⟨k_1, i, g6, g7, g8, g9, g10, g11, g12, g13, g14, g15, g16, g17, rfl, h0⟩, fun μ tm H h => by obtain ⟨k_1, i, g6, g7, g8, g9, g10, g11, g12, g13, g14, g15, g16, g17, rfl, hI⟩ := h; exact hs μ k_1 i g6 g7 g8 g9 g10 g11 g12 g13 g14 g15 g16 g17 H hI⟩
theorem laws_markInt64S_n1 {a_a : Option Addr} {a_e : Nat} {a_n : Nat} {Q : Post} {Inv : Nat → Int → Int → AHeap → Prop} {μ : Nat} (μ' : Nat) {k_1 : Int} {i : Int} {g6 g7 g8 g9 g10 g11 g12 g13 g14 g15 g16 g17 : Value} {H : AHeap} (hm : μ' < μ) (hI : Inv μ' k_1 i H) : loopQ (laws_markInt64S_I1 a_a a_e a_n Inv) μ Q .normal [.slice a_a a_n a_e, .int .i64 k_1, undef, undef, .int .i64 0, .int .i64 i, g6, g7, g8, g9, g10, g11, g12, g13, g14, g15, g16, g17, undef] H := ⟨μ', hm, k_1, i, g6, g7, g8, g9, g10, g11, g12, g13, g14, g15, g16, g17, rfl, hI⟩
theorem laws_markInt64S_x1_0 (a_a : Option Addr) (a_e : Nat) (a_n : Nat) (k_1 : Int) (i : Int) (g6 g7 g8 g9 g10 g11 g12 g13 g14 g15 g16 g17 : Value) (H : AHeap) (K : Value → AHeap → Prop)  {I : Nat → List Value → AHeap → Prop} {μ : Nat} : loopQ I μ (blockQ 0 (seqQ (exK Try.prog E_laws_markInt64S (cr (cr (bodyC Try.f18)))) (retK Try.prog Try.f18 K))) (.exit 0) [.slice a_a a_n a_e, .int .i64 k_1, undef, undef, .int .i64 0, .int .i64 i, g6, g7, g8, g9, g10, g11, g12, g13, g14, g15, g16, g17, undef] H =
  (K (.int .i64 k_1) H) := by kernel_rfl
theorem E_laws_markInt64S_ok : ∀ g, FnOk Try.prog g (E_laws_markInt64S g) := FnOk.envOf (by
  intro x hx; cases hx)
set_option maxHeartbeats 1000000 in
theorem laws_markInt64S_main (a_a : Option Addr) (a_n : Nat) (a_e : Nat) (k : Int) (H : AHeap) (K : Value → AHeap → Prop) (h : T_laws_markInt64S a_a a_n a_e k H fun (r1 : Int) (H' : AHeap) => K (.int .i64 r1) H') : bodyK Try.prog E_laws_markInt64S Try.f18 [.slice a_a a_n a_e, .int .i64 k] H K := by
  rw [laws_markInt64S_vc]
  obtain ⟨lo, l_a, i_a, bd_18, hk⟩ := h
  have hk : (∀ H' : AHeap, KeepA a_a H H' → OwnS fI H' lo a_a a_n a_e ((p_laws_markInt64S l_a k).2) → (fun (r1 : Int) (H' : AHeap) => K (.int .i64 r1) H') ((p_laws_markInt64S l_a k).1) H') := by rw [laws_markInt64S_val l_a k]; exact hk
  obtain rfl := i_a.len
  have up_m := i_a.up
  have lo_m := i_a.lo
  have e : (p_laws_markInt64S l_a k) = _ := rfl
  have e := e.trans (p_laws_markInt64S_eq l_a k)
  have g0 := KeepA.refl a_a H
  refine laws_markInt64S_L1 _ _ _ (fun (μ : Nat) (k_1 : Int) (i : Int) (H_1 : AHeap) => ∃ (y1_1 : List Int), OwnS fI H_1 lo a_a l_a.length a_e y1_1 ∧ y1_1.length = (l_a).length ∧ H.length ≤ H_1.length ∧ KeepA a_a H H_1 ∧ (0 : Int) ≤ i ∧ i ≤ (l_a.length : Int) ∧ (l_a.length : Int) - i ≤ (μ : Int) ∧ p_laws_markInt64S l_a k = p_laws_markInt64S_l1 l_a k (μ + 1) k_1 i y1_1) (Int.toNat ((l_a.length : Int) - (0 : Int))) _ _ _ _ _ _ _ _ _ _ _ _ _ _ H ?_ ?_
  · exact ⟨_, i_a, (by first | rfl | (simp; done)), (by omega), g0, (by first | omega | (simp; done) | (simp; omega)), (by first | omega | (simp; done) | (simp; omega)), (by omega), e⟩
  · intro μ k_1 i g6 g7 g8 g9 g10 g11 g12 g13 g14 g15 g16 g17 H_1 hI
    obtain ⟨y1_1, r_1, y_2, n_3, g_4, v_5, v_6, hμ, e⟩ := hI
    rw [laws_markInt64S_r1]
    have e := e.trans (p_laws_markInt64S_l1_s l_a k μ k_1 i y1_1)
    have l_7 := g_4.1
    refine Br.intro (fun c_8 => ?_) (fun c_8 => ?_)
    · have e := e.trans (cond_t c_8)
      have c_8' := of_decide_eq_true c_8
      obtain ⟨b_9, f_10, q_11⟩ := (r_1.isL).pos (by first | omega | (simp only [List.length_set, List.length_replicate, List.length_append, List.length_cons, List.length_nil, List.length_take, List.length_drop, marks_length]; done) | (simp only [List.length_set, List.length_replicate, List.length_append, List.length_cons, List.length_nil, List.length_take, List.length_drop, marks_length]; omega))
      refine ⟨by omega, by omega, b_9, f_10, q_11, ?_⟩
      refine Lt.setS r_1 q_11 (by first | omega | (simp only [List.length_set]; (first | omega | (simp only [List.length_set, List.length_replicate, List.length_append, List.length_cons, List.length_nil, List.length_take, List.length_drop, marks_length]; done) | (simp only [List.length_set, List.length_replicate, List.length_append, List.length_cons, List.length_nil, List.length_take, List.length_drop, marks_length]; omega)))) (fun H_2 hl_12 o_14 k_13 => ?_)
      have l_15 := k_13.1
      have g_16 := g_4.transA k_13
      have l_17 := g_16.1
      rw [show IntKind.wrap .i64 (i + 1) = (i + 1) from wrap64 (by omega) (by omega)]
      refine laws_markInt64S_n1 (μ - 1) (by first | omega) ⟨_, o_14, (by first | assumption | omega | (simp only [List.length_set]; first | rfl | assumption | omega)), (by omega), g_16, (by first | omega | (simp only [List.length_append, List.length_cons, List.length_nil, List.length_set]; done) | (simp only [List.length_append, List.length_cons, List.length_nil, List.length_set]; omega)), (by first | omega | (simp only [List.length_append, List.length_cons, List.length_nil, List.length_set]; done) | (simp only [List.length_append, List.length_cons, List.length_nil, List.length_set]; omega)), (by first | omega), (by rw [show μ - 1 + 1 = μ from by first | omega]; exact e)⟩
    · have e := e.trans (cond_f c_8)
      have c_8' := of_decide_eq_false c_8
      rw [laws_markInt64S_x1_0]
      rw [e] at hk
      exact hk H_1 g_4 r_1
theorem laws_markInt64S_ok : FnOk Try.prog 18 S_laws_markInt64S := by
  refine FnOk.body mix_ok E_laws_markInt64S_ok Try.func18 rfl (by kernel_rfl) (by kernel_rfl) ?_ ?_ ?_ ?_ ?_
  · intro args H K K' h hk
    simp only [S_laws_markInt64S] at *
    unfold F_laws_markInt64S at *
    split at hk
    · obtain ⟨lo, l_a, i_a, bd_18, k⟩ := hk
      exact ⟨lo, l_a, i_a, bd_18, (fun H' gg ow => h _ _ (k H' gg ow))⟩
    · exact hk.elim
  · intro hq; cases hq
  · intro args H K hk
    simp only [S_laws_markInt64S] at *
    unfold F_laws_markInt64S at *
    split at hk
    · obtain ⟨lo, l_a, i_a, bd_18, k⟩ := hk
      exact (OwnS.put i_a _ (by rw [marks_length])).elim fun H1 h => ⟨_, _, k H1 h.1 h.2⟩
    · exact hk.elim
  · intro hq; cases hq
  · have mm := @laws_markInt64S_main
    revert mm
    generalize bodyK Try.prog E_laws_markInt64S Try.f18 = Q
    intro mm args H K hk
    simp only [S_laws_markInt64S] at *
    unfold F_laws_markInt64S at *
    split at hk
    · exact mm _ _ _ _ H K hk
    · exact hk.elim
def p_laws_heldInt64S_l1 (l_a : List Int) (k : Int) : Nat → Int → Int → Int → Int
  | 0, _, _, _ => 0
  | μ + 1, k_1, t4, i => (bif decide ((i : Int) < (l_a.length : Int)) then (bif (((l_a).getD (i : Int).toNat 0) : Int) != k_1 then ((-1) : Int) else (p_laws_heldInt64S_l1 l_a k μ (IntKind.wrap .i64 (k_1 + 1)) t4 (i + 1))) else k_1)
theorem p_laws_heldInt64S_l1_s (l_a : List Int) (k : Int) (μ : Nat) (k_1 : Int) (t4 : Int) (i : Int) : p_laws_heldInt64S_l1 l_a k (μ + 1) k_1 t4 i = (bif decide ((i : Int) < (l_a.length : Int)) then (bif (((l_a).getD (i : Int).toNat 0) : Int) != k_1 then ((-1) : Int) else (p_laws_heldInt64S_l1 l_a k μ (IntKind.wrap .i64 (k_1 + 1)) t4 (i + 1))) else k_1) := rfl
def p_laws_heldInt64S (l_a : List Int) (k : Int) : Int := (p_laws_heldInt64S_l1 l_a k (Int.toNat ((l_a.length : Int) - (0 : Int)) + 1) k (0 : Int) (0 : Int))
theorem p_laws_heldInt64S_eq (l_a : List Int) (k : Int) : p_laws_heldInt64S l_a k = (p_laws_heldInt64S_l1 l_a k (Int.toNat ((l_a.length : Int) - (0 : Int)) + 1) k (0 : Int) (0 : Int)) := rfl
def T_laws_heldInt64S (a_a : Option Addr) (a_n : Nat) (a_e : Nat) (k : Int) (H : AHeap) (K : Int → AHeap → Prop) : Prop := ∃ (l_a : List Int), IsL fI H a_a a_n l_a ∧ l_a.length < 1073741824 ∧ K (p_laws_heldInt64S l_a k) H
theorem T_laws_heldInt64S_i {a_a : Option Addr} {a_n : Nat} {a_e : Nat} {k : Int} {H : AHeap} {K : Int → AHeap → Prop} (h : ∃ (l_a : List Int), IsL fI H a_a a_n l_a ∧ l_a.length < 1073741824 ∧ K (p_laws_heldInt64S l_a k) H) : T_laws_heldInt64S a_a a_n a_e k H K := h
theorem laws_heldInt64S_go (k0 : Int) : ∀ (μ : Nat) (i : Nat) (pre : List Int) (k t : Int) (n : Nat), pre.length = i → n < μ →
    p_laws_heldInt64S_l1 (pre ++ marks (fun n : Int => n) k n) k0 μ k t (i : Int) = wk k n := by
  intro μ
  induction μ with
  | zero => intro i pre k t n _ h; omega
  | succ μ ih =>
    intro i pre k t n hp hm
    rw [p_laws_heldInt64S_l1_s]
    have hl : (pre ++ marks (fun n : Int => n) k n).length = i + n := by rw [List.length_append, hp, marks_length]
    rw [hl]
    cases n with
    | zero => rw [decide_eq_false (show ¬ (i : Int) < ((i + 0 : Nat) : Int) by omega), cond_false]; rfl
    | succ n =>
      rw [decide_eq_true (show (i : Int) < ((i + (n + 1) : Nat) : Int) by omega), cond_true, Int.toNat_natCast]
      have hx : (pre ++ marks (fun n : Int => n) k (n + 1)).getD i 0 = (fun n : Int => n) k := by
        rw [List.getD_eq_getElem?_getD, List.getElem?_append_right (by omega), hp, Nat.sub_self]; rfl
      rw [hx]
      simp only [bne_self_eq_false, cond_false]
      have := ih (i + 1) (pre ++ [(fun n : Int => n) k]) (IntKind.wrap .i64 (k + 1)) t n (by simp [hp]) (by omega)
      rw [List.append_assoc] at this
      rw [wk]; exact this
theorem laws_heldInt64S_marks (k : Int) (n : Nat) : p_laws_heldInt64S (marks (fun n : Int => n) k n) k = wk k n := by
  rw [p_laws_heldInt64S_eq]
  have := laws_heldInt64S_go k (Int.toNat (((marks (fun n : Int => n) k n).length : Int) - 0) + 1) 0 [] k 0 n rfl (by rw [marks_length]; omega)
  simpa using this
/-! laws_heldInt64S: function 19 -/
def E_laws_heldInt64S : Env := envOf []
def F_laws_heldInt64S : List Value → AHeap → (Value → AHeap → Prop) → Prop
  | [.slice a_a a_n a_e, .int .i64 k], H, K => T_laws_heldInt64S a_a a_n a_e k H fun (r1 : Int) (H' : AHeap) => K (.int .i64 r1) H'
  | _, _, _ => False
def S_laws_heldInt64S : FSpec := { F := F_laws_heldInt64S, quiet := true, tame := false }
theorem laws_heldInt64S_vc (a_a : Option Addr) (a_n : Nat) (a_e : Nat) (k : Int) (H : AHeap) (K : Value → AHeap → Prop) : bodyK Try.prog E_laws_heldInt64S Try.f19 [.slice a_a a_n a_e, .int .i64 k] H K =
  (loopK (exK Try.prog E_laws_heldInt64S (cl (cl (cr (cl (cr (bodyC Try.f19))))))) [.slice a_a a_n a_e, .int .i64 k, undef, undef, .int .i64 0, .int .i64 0, undef, undef, undef, undef, undef, undef, undef, undef, undef, undef, undef, undef, undef, undef, undef] H (blockQ 0 (seqQ (exK Try.prog E_laws_heldInt64S (cr (cr (bodyC Try.f19)))) (retK Try.prog Try.f19 K)))) := by kernel_rfl
theorem laws_heldInt64S_r1 (a_a : Option Addr) (a_e : Nat) (a_n : Nat) (k_1 : Int) (t4 : Int) (i : Int) (g6 g7 g8 g9 g10 g11 g12 g13 g14 g15 g16 g17 g18 g19 : Value) (H : AHeap) (R : Post) : exK Try.prog E_laws_heldInt64S (cl (cl (cr (cl (cr (bodyC Try.f19)))))) [.slice a_a a_n a_e, .int .i64 k_1, undef, undef, .int .i64 t4, .int .i64 i, g6, g7, g8, g9, g10, g11, g12, g13, g14, g15, g16, g17, g18, g19, undef] H R =
  (Br (decide ((i : Int) < (a_n : Int))) ((0 : Int) ≤ i ∧ i < (a_n : Int) ∧ ∃ b1 f1, (a_a : Option Addr) = some ⟨b1, f1, none⟩ ∧ ∃ x1 : Int,  rdC H b1 (f1 + (i : Int).toNat * 1) = some (.int .i64 x1) ∧ Br ((x1 : Int) != k_1) (R .ret [.slice a_a a_n a_e, .int .i64 k_1, undef, undef, .int .i64 (-1), .int .i64 i, .int .i64 i, .slice a_a a_n a_e, .int .i64 (a_n : Int), .bool (decide ((i : Int) < (a_n : Int))), g10, g11, .slice a_a a_n a_e, .int .i64 i, .pointer (some ⟨b1, f1 + (i : Int).toNat * 1, none⟩), .int .i64 x1, .int .i64 k_1, .bool ((x1 : Int) != k_1), g18, g19, undef] H) (R .normal [.slice a_a a_n a_e, .int .i64 (IntKind.wrap .i64 (k_1 + 1)), undef, undef, .int .i64 t4, .int .i64 (IntKind.wrap .i64 (i + 1)), .int .i64 i, .slice a_a a_n a_e, .int .i64 (a_n : Int), .bool (decide ((i : Int) < (a_n : Int))), .int .i64 i, .int .i64 (IntKind.wrap .i64 (i + 1)), .slice a_a a_n a_e, .int .i64 i, .pointer (some ⟨b1, f1 + (i : Int).toNat * 1, none⟩), .int .i64 x1, .int .i64 k_1, .bool ((x1 : Int) != k_1), .int .i64 k_1, .int .i64 (IntKind.wrap .i64 (k_1 + 1)), undef] H)) (R (.exit 0) [.slice a_a a_n a_e, .int .i64 k_1, undef, undef, .int .i64 t4, .int .i64 i, .int .i64 i, .slice a_a a_n a_e, .int .i64 (a_n : Int), .bool (decide ((i : Int) < (a_n : Int))), g10, g11, g12, g13, g14, g15, g16, g17, g18, g19, undef] H)) := by kernel_rfl
def laws_heldInt64S_I1 (a_a : Option Addr) (a_e : Nat) (a_n : Nat) (Inv : Nat → Int → Int → Int → AHeap → Prop) : Nat → List Value → AHeap → Prop := fun μ tm H => ∃ (k_1 : Int), ∃ (t4 : Int), ∃ (i : Int), ∃ g6 g7 g8 g9 g10 g11 g12 g13 g14 g15 g16 g17 g18 g19, tm = [.slice a_a a_n a_e, .int .i64 k_1, undef, undef, .int .i64 t4, .int .i64 i, g6, g7, g8, g9, g10, g11, g12, g13, g14, g15, g16, g17, g18, g19, undef] ∧ Inv μ k_1 t4 i H
theorem laws_heldInt64S_L1 (a_a : Option Addr) (a_e : Nat) (a_n : Nat) {Q : Post} (Inv : Nat → Int → Int → Int → AHeap → Prop) (ν : Nat) (k_1 : Int) (t4 : Int) (i : Int) (g6 g7 g8 g9 g10 g11 g12 g13 g14 g15 g16 g17 g18 g19 : Value) (H : AHeap) (h0 : Inv ν k_1 t4 i H)
    (hs : ∀ (μ : Nat) (k_1 : Int) (t4 : Int) (i : Int) (g6 g7 g8 g9 g10 g11 g12 g13 g14 g15 g16 g17 g18 g19 : Value) (H : AHeap), Inv μ k_1 t4 i H → exK Try.prog E_laws_heldInt64S (cl (cl (cr (cl (cr (bodyC Try.f19)))))) [.slice a_a a_n a_e, .int .i64 k_1, undef, undef, .int .i64 t4, .int .i64 i, g6, g7, g8, g9, g10, g11, g12, g13, g14, g15, g16, g17, g18, g19, undef] H (loopQ (laws_heldInt64S_I1 a_a a_e a_n Inv) μ Q)) : loopK (exK Try.prog E_laws_heldInt64S (cl (cl (cr (cl (cr (bodyC Try.f19))))))) [.slice a_a a_n a_e, .int .i64 k_1, undef, undef, .int .i64 t4, .int .i64 i, g6, g7, g8, g9, g10, g11, g12, g13, g14, g15, g16, g17, g18, g19, undef] H Q :=
  ⟨laws_heldInt64S_I1 a_a a_e a_n Inv, ν, ⟨k_1, t4, i, g6, g7, g8, g9, g10, g11, g12, g13, g14, g15, g16, g17, g18, g19, rfl, h0⟩, fun μ tm H h => by obtain ⟨k_1, t4, i, g6, g7, g8, g9, g10, g11, g12, g13, g14, g15, g16, g17, g18, g19, rfl, hI⟩ := h; exact hs μ k_1 t4 i g6 g7 g8 g9 g10 g11 g12 g13 g14 g15 g16 g17 g18 g19 H hI⟩
theorem laws_heldInt64S_n1 {a_a : Option Addr} {a_e : Nat} {a_n : Nat} {Q : Post} {Inv : Nat → Int → Int → Int → AHeap → Prop} {μ : Nat} (μ' : Nat) {k_1 : Int} {t4 : Int} {i : Int} {g6 g7 g8 g9 g10 g11 g12 g13 g14 g15 g16 g17 g18 g19 : Value} {H : AHeap} (hm : μ' < μ) (hI : Inv μ' k_1 t4 i H) : loopQ (laws_heldInt64S_I1 a_a a_e a_n Inv) μ Q .normal [.slice a_a a_n a_e, .int .i64 k_1, undef, undef, .int .i64 t4, .int .i64 i, g6, g7, g8, g9, g10, g11, g12, g13, g14, g15, g16, g17, g18, g19, undef] H := ⟨μ', hm, k_1, t4, i, g6, g7, g8, g9, g10, g11, g12, g13, g14, g15, g16, g17, g18, g19, rfl, hI⟩
theorem laws_heldInt64S_x1_0 (a_a : Option Addr) (a_e : Nat) (a_n : Nat) (k_1 : Int) (t4 : Int) (i : Int) (g6 g7 g8 g9 g10 g11 g12 g13 g14 g15 g16 g17 g18 g19 : Value) (H : AHeap) (K : Value → AHeap → Prop)  {I : Nat → List Value → AHeap → Prop} {μ : Nat} : loopQ I μ (blockQ 0 (seqQ (exK Try.prog E_laws_heldInt64S (cr (cr (bodyC Try.f19)))) (retK Try.prog Try.f19 K))) (.exit 0) [.slice a_a a_n a_e, .int .i64 k_1, undef, undef, .int .i64 t4, .int .i64 i, g6, g7, g8, g9, g10, g11, g12, g13, g14, g15, g16, g17, g18, g19, undef] H =
  (K (.int .i64 k_1) H) := by kernel_rfl
theorem laws_heldInt64S_x1_ret (a_a : Option Addr) (a_e : Nat) (a_n : Nat) (k_1 : Int) (t4 : Int) (i : Int) (g6 g7 g8 g9 g10 g11 g12 g13 g14 g15 g16 g17 g18 g19 : Value) (H : AHeap) (K : Value → AHeap → Prop)  {I : Nat → List Value → AHeap → Prop} {μ : Nat} : loopQ I μ (blockQ 0 (seqQ (exK Try.prog E_laws_heldInt64S (cr (cr (bodyC Try.f19)))) (retK Try.prog Try.f19 K))) .ret [.slice a_a a_n a_e, .int .i64 k_1, undef, undef, .int .i64 t4, .int .i64 i, g6, g7, g8, g9, g10, g11, g12, g13, g14, g15, g16, g17, g18, g19, undef] H =
  (K (.int .i64 t4) H) := by kernel_rfl
theorem E_laws_heldInt64S_ok : ∀ g, FnOk Try.prog g (E_laws_heldInt64S g) := FnOk.envOf (by
  intro x hx; cases hx)
set_option maxHeartbeats 1000000 in
theorem laws_heldInt64S_main (a_a : Option Addr) (a_n : Nat) (a_e : Nat) (k : Int) (H : AHeap) (K : Value → AHeap → Prop) (h : T_laws_heldInt64S a_a a_n a_e k H fun (r1 : Int) (H' : AHeap) => K (.int .i64 r1) H') : bodyK Try.prog E_laws_heldInt64S Try.f19 [.slice a_a a_n a_e, .int .i64 k] H K := by
  rw [laws_heldInt64S_vc]
  obtain ⟨l_a, i_a, bd_9, hk⟩ := h
  obtain rfl := i_a.eqn
  have e : (p_laws_heldInt64S l_a k) = _ := rfl
  have e := e.trans (p_laws_heldInt64S_eq l_a k)
  have g0 := Grow.refl H
  refine laws_heldInt64S_L1 _ _ _ (fun (μ : Nat) (k_1 : Int) (t4 : Int) (i : Int) (H_1 : AHeap) => H = H_1 ∧ (0 : Int) ≤ i ∧ i ≤ (l_a.length : Int) ∧ (l_a.length : Int) - i ≤ (μ : Int) ∧ p_laws_heldInt64S l_a k = p_laws_heldInt64S_l1 l_a k (μ + 1) k_1 t4 i) (Int.toNat ((l_a.length : Int) - (0 : Int))) _ _ _ _ _ _ _ _ _ _ _ _ _ _ _ _ _ H ?_ ?_
  · exact ⟨rfl, (by first | omega | (simp; done) | (simp; omega)), (by first | omega | (simp; done) | (simp; omega)), (by omega), e⟩
  · intro μ k_1 t4 i g6 g7 g8 g9 g10 g11 g12 g13 g14 g15 g16 g17 g18 g19 H_1 hI
    obtain ⟨rfl, v_1, v_2, hμ, e⟩ := hI
    rw [laws_heldInt64S_r1]
    have e := e.trans (p_laws_heldInt64S_l1_s l_a k μ k_1 t4 i)
    have l_3 := g0.1
    refine Br.intro (fun c_4 => ?_) (fun c_4 => ?_)
    · have e := e.trans (cond_t c_4)
      have c_4' := of_decide_eq_true c_4
      obtain ⟨b_5, f_6, q_7⟩ := ((i_a.grow g0)).pos (by first | omega | (simp only [List.length_set, List.length_replicate, List.length_append, List.length_cons, List.length_nil, List.length_take, List.length_drop, marks_length]; done) | (simp only [List.length_set, List.length_replicate, List.length_append, List.length_cons, List.length_nil, List.length_take, List.length_drop, marks_length]; omega))
      refine ⟨by omega, by omega, b_5, f_6, q_7, ?_⟩
      refine ⟨((l_a).getD (i : Int).toNat 0), (i_a).rd g0 q_7 (by omega) _, ?_⟩
      refine Br.intro (fun c_8 => ?_) (fun c_8 => ?_)
      · have e := e.trans (cond_t c_8)
        have c_8' := ine_t c_8
        rw [laws_heldInt64S_x1_ret]
        rw [e] at hk
        exact hk
      · have e := e.trans (cond_f c_8)
        have c_8' := ine_f c_8
        rw [show IntKind.wrap .i64 (i + 1) = (i + 1) from wrap64 (by omega) (by omega)]
        refine laws_heldInt64S_n1 (μ - 1) (by first | omega) ⟨rfl, (by first | omega | (simp only [List.length_append, List.length_cons, List.length_nil, List.length_set]; done) | (simp only [List.length_append, List.length_cons, List.length_nil, List.length_set]; omega)), (by first | omega | (simp only [List.length_append, List.length_cons, List.length_nil, List.length_set]; done) | (simp only [List.length_append, List.length_cons, List.length_nil, List.length_set]; omega)), (by first | omega), (by rw [show μ - 1 + 1 = μ from by first | omega]; exact e)⟩
    · have e := e.trans (cond_f c_4)
      have c_4' := of_decide_eq_false c_4
      rw [laws_heldInt64S_x1_0]
      rw [e] at hk
      exact hk
theorem laws_heldInt64S_ok : FnOk Try.prog 19 S_laws_heldInt64S := by
  refine FnOk.body mix_ok E_laws_heldInt64S_ok Try.func19 rfl (by kernel_rfl) (by kernel_rfl) ?_ ?_ ?_ ?_ ?_
  · intro args H K K' h hk
    simp only [S_laws_heldInt64S] at *
    unfold F_laws_heldInt64S at *
    split at hk
    · obtain ⟨l_a, i_a, bd_9, k⟩ := hk
      exact ⟨l_a, i_a, bd_9, h _ _ k⟩
    · exact hk.elim
  · intro _ args H K hk
    simp only [S_laws_heldInt64S] at *
    unfold F_laws_heldInt64S at *
    split at hk
    · obtain ⟨l_a, i_a, bd_9, k⟩ := hk
      exact ⟨_, k, fun K' k' => ⟨l_a, i_a, bd_9, k'⟩⟩
    · exact hk.elim
  · intro args H K hk
    simp only [S_laws_heldInt64S] at *
    unfold F_laws_heldInt64S at *
    split at hk
    · obtain ⟨l_a, i_a, bd_9, k⟩ := hk
      exact ⟨_, _, k⟩
    · exact hk.elim
  · intro hq; cases hq
  · have mm := @laws_heldInt64S_main
    revert mm
    generalize bodyK Try.prog E_laws_heldInt64S Try.f19 = Q
    intro mm args H K hk
    simp only [S_laws_heldInt64S] at *
    unfold F_laws_heldInt64S at *
    split at hk
    · exact mm _ _ _ _ H K hk
    · exact hk.elim
def p_laws_FnExactTreeOf (aN : Int) (aLevels : Int) (aI : Int) : Bool := ((bif !((p_laws_eqInt64S ((p_impl_TreeOf aN aLevels aI).1) ((p_spec_TreeOf aN aLevels aI).1))) then false else (bif !(((p_impl_TreeOf aN aLevels aI).2) == ((p_spec_TreeOf aN aLevels aI).2)) then false else (bif decide (((p_laws_heldInt64S ((marks (fun n : Int => n) (1 : Int) ((p_impl_TreeOf aN aLevels aI).1).length)) (1 : Int)) : Int) < 0) then false else (bif ((p_laws_heldInt64S ((marks (fun n : Int => n) (1 : Int) ((p_impl_TreeOf aN aLevels aI).1).length)) (1 : Int)) : Int) != (wk (1 : Int) ((p_impl_TreeOf aN aLevels aI).1).length) then false else (bif !((p_laws_eqInt64S ((p_impl_TreeOf aN aLevels aI).1) ((p_spec_TreeOf aN aLevels aI).1))) then false else (bif !(((p_impl_TreeOf aN aLevels aI).2) == ((p_spec_TreeOf aN aLevels aI).2)) then false else (bif decide (((p_laws_heldInt64S ((marks (fun n : Int => n) (1 : Int) ((p_impl_TreeOf aN aLevels aI).1).length)) (1 : Int)) : Int) < 0) then false else (bif ((p_laws_heldInt64S ((marks (fun n : Int => n) (1 : Int) ((p_impl_TreeOf aN aLevels aI).1).length)) (1 : Int)) : Int) != (wk (1 : Int) ((p_impl_TreeOf aN aLevels aI).1).length) then false else true)))))))))
theorem p_laws_FnExactTreeOf_eq (aN : Int) (aLevels : Int) (aI : Int) : p_laws_FnExactTreeOf aN aLevels aI = ((bif !((p_laws_eqInt64S ((p_impl_TreeOf aN aLevels aI).1) ((p_spec_TreeOf aN aLevels aI).1))) then false else (bif !(((p_impl_TreeOf aN aLevels aI).2) == ((p_spec_TreeOf aN aLevels aI).2)) then false else (bif decide (((p_laws_heldInt64S ((marks (fun n : Int => n) (1 : Int) ((p_impl_TreeOf aN aLevels aI).1).length)) (1 : Int)) : Int) < 0) then false else (bif ((p_laws_heldInt64S ((marks (fun n : Int => n) (1 : Int) ((p_impl_TreeOf aN aLevels aI).1).length)) (1 : Int)) : Int) != (wk (1 : Int) ((p_impl_TreeOf aN aLevels aI).1).length) then false else (bif !((p_laws_eqInt64S ((p_impl_TreeOf aN aLevels aI).1) ((p_spec_TreeOf aN aLevels aI).1))) then false else (bif !(((p_impl_TreeOf aN aLevels aI).2) == ((p_spec_TreeOf aN aLevels aI).2)) then false else (bif decide (((p_laws_heldInt64S ((marks (fun n : Int => n) (1 : Int) ((p_impl_TreeOf aN aLevels aI).1).length)) (1 : Int)) : Int) < 0) then false else (bif ((p_laws_heldInt64S ((marks (fun n : Int => n) (1 : Int) ((p_impl_TreeOf aN aLevels aI).1).length)) (1 : Int)) : Int) != (wk (1 : Int) ((p_impl_TreeOf aN aLevels aI).1).length) then false else true))))))))) := rfl
def T_laws_FnExactTreeOf (aN : Int) (aLevels : Int) (aI : Int) (H : AHeap) (K : Bool → AHeap → Prop) : Prop := I64 aN ∧ I64 aLevels ∧ I64 aI ∧ ∀ H' : AHeap, K true H'
theorem bs_true (n levels : Int) : ∀ (μ : Nat) (a : Int) (o : List Int) (k : Int), (p_impl_BandSizes_l1 n levels (μ + 1) a o k).2 = true ∨ levels - k ≥ μ + 1 := by
  intro μ
  induction μ with
  | zero =>
    intro a o k
    rw [p_impl_BandSizes_l1_s]
    by_cases h : k < levels
    · right; omega
    · left; rw [decide_eq_false h]; rfl
  | succ μ ih =>
    intro a o k
    rw [p_impl_BandSizes_l1_s]
    by_cases h : k < levels
    · rw [decide_eq_true h, cond_true]
      cases decide (1 < a)
      · left; rfl
      · rcases ih (a - Int.tdiv a 2) (o ++ [Int.tdiv a 2]) (k + 1) with q | q
        · left; exact q
        · right; omega
    · left; rw [decide_eq_false h]; rfl
theorem par_ok {n levels : Int} (h : p_spec_l06Can n levels = true) : 1 ≤ n ∧ n ≤ 128 ∧ 1 ≤ levels ∧ levels ≤ 6 ∧ p_impl_parentsOf n levels = (p_impl_parents (p_impl_BandSizes n levels).1, true) := by
  rcases impl_parentsOf_cases n levels with e | h
  · exfalso
    obtain ⟨h1, h2⟩ := spec_l06Can_t h
    rw [p_impl_parentsOf_eq] at e
    have : (p_impl_BandSizes n levels).2 = true := by
      rw [p_impl_BandSizes_eq]
      have k1 : p_impl_within n 1 128 = true := by unfold p_impl_within; rw [decide_eq_true h1.1, decide_eq_true h1.2]; rfl
      have k2 : p_impl_within levels 1 6 = true := by unfold p_impl_within; rw [decide_eq_true h2.1, decide_eq_true h2.2]; rfl
      rw [k1, k2]
      simp only [Bool.not_true, cond_false]
      rcases bs_true n levels (Int.toNat (levels - 0)) n [] 0 with q | q
      · exact q
      · omega
    rw [this] at e
    have e := congrArg Prod.snd e
    exact absurd (show true = false from e) (by decide)
  · exact h
theorem par_not {n levels : Int} (h : p_spec_l06Can n levels = false) : p_impl_parentsOf n levels = ([], false) := by
  rcases impl_parentsOf_cases n levels with e | ⟨a, b, c, d, e⟩
  · exact e
  · exfalso
    have hc : p_spec_l06Can n levels = true := by
      unfold p_spec_l06Can p_spec_l02Levels p_spec_l00In
      rw [decide_eq_true a, decide_eq_true b, decide_eq_true c, decide_eq_true d]; rfl
    rw [hc] at h; cases h
theorem wk_one {n : Nat} (h : n < 1073741824) : decide (wk 1 n < (0 : Int)) = false := by
  rw [wk_eq n 1 (by omega) (by omega)]; exact decide_eq_false (by omega)
theorem below_go (n levels root : Int) (h0 : 0 ≤ n) (h1 : n ≤ 128) (h2 : levels ≤ 6) : ∀ (μ ν : Nat) (i i' j : Int), -1 ≤ j → j ≤ 2000 → (j + 1).toNat < μ → (j + 1).toNat < ν → p_spec_l06Below_l1 n levels i root μ j = p_spec_l06Below_l1 n levels i' root ν j := by
  intro μ
  induction μ with
  | zero => intro ν i i' j _ _ h _; omega
  | succ μ ih =>
    intro ν i i' j g0 g1 g2 g3
    obtain ⟨ν, rfl⟩ : ∃ k, ν = k + 1 := ⟨ν - 1, by omega⟩
    rw [p_spec_l06Below_l1_s, p_spec_l06Below_l1_s]
    by_cases c : 0 ≤ j
    · rw [decide_eq_true c, cond_true, cond_true]
      cases (j != root) with
      | false => rfl
      | true =>
        have := spec_l06Parent_rng n levels j h0 h1 h2 c g1
        rw [cond_true, cond_true]
        exact ih ν i i' _ (by omega) (by omega) (by omega) (by omega)
    · rw [decide_eq_false c, cond_false, cond_false]
theorem below_step (n levels root k : Int) (h0 : 0 ≤ n) (h1 : n ≤ 128) (h2 : levels ≤ 6) (h3 : 0 ≤ k) (h4 : k ≤ 2000) (hr : 0 ≤ root) : p_spec_l06Below n levels k root = bif k == root then true else (bif decide (0 ≤ p_spec_l06Parent n levels k) then p_spec_l06Below n levels (p_spec_l06Parent n levels k) root else false) := by
  have e : p_spec_l06Below n levels k root = p_spec_l06Below_l1 n levels k root (Int.toNat (k - 0 + 1) + 1) k := rfl
  rw [e, p_spec_l06Below_l1_s, decide_eq_true h3, cond_true]
  by_cases c : k = root
  · subst c; rw [beq_self_eq_true, bne_self_eq_false]; rfl
  · have hb : (k == root) = false := beq_eq_false_iff_ne.2 c
    have hn : (k != root) = true := bne_iff_ne.2 c
    have := spec_l06Parent_rng n levels k h0 h1 h2 h3 h4
    rw [hb, hn, cond_true, cond_false]
    generalize p_spec_l06Parent n levels k = p at this
    by_cases c2 : 0 ≤ p
    · rw [decide_eq_true c2, cond_true]
      exact below_go n levels root h0 h1 h2 _ _ k p p (by omega) (by omega) (by omega) (by omega)
    · rw [decide_eq_false c2, cond_false]
      obtain ⟨ν, hν⟩ : ∃ j, Int.toNat (k - 0 + 1) = j + 1 := ⟨Int.toNat (k - 0 + 1) - 1, by omega⟩
      rw [hν, p_spec_l06Below_l1_s, decide_eq_false c2, cond_false]
      exact beq_eq_false_iff_ne.2 (by omega)
theorem bset_same {y : List Bool} {t : Nat} (h : t < y.length) : (y.set t true).getD t false = true := by
  rw [List.getD_eq_getElem?_getD, List.getElem?_set_self h]; rfl
theorem bset_other {y : List Bool} {t j : Nat} (h : t ≠ j) : (y.set t true).getD j false = y.getD j false := by
  rw [List.getD_eq_getElem?_getD, List.getElem?_set_ne h, List.getD_eq_getElem?_getD]
theorem tree_go (n levels i : Int) (h1 : 1 ≤ n) (h2 : n ≤ 128) (h3 : 1 ≤ levels) (h4 : levels ≤ 6) (hi : 0 ≤ i) (he : p_impl_parentsOf n levels = (p_impl_parents (p_impl_BandSizes n levels).1, true)) :
    ∀ (μ : Nat) (o : List Int) (t : Nat) (y : List Bool), (y.length : Int) = n → (∀ j : Nat, j < t → y.getD j false = p_spec_l06Below n levels (j : Int) i) → (∀ j : Nat, t ≤ j → y.getD j false = false) →
      p_impl_TreeOf_l1 n levels i μ o (t : Int) y = p_spec_TreeOf_l1 n levels i μ o (t : Int) := by
  have pa := par_all h1 h2 h3 h4
  have e1 : (p_impl_parentsOf n levels).1 = p_impl_parents (p_impl_BandSizes n levels).1 := by rw [he]
  intro μ
  induction μ with
  | zero => intro o t y _ _ _; unfold p_impl_TreeOf_l1 p_spec_TreeOf_l1; rfl
  | succ μ ih =>
    intro o t y hy g1 g2
    rw [p_impl_TreeOf_l1_s, p_spec_TreeOf_l1_s, e1, pa.1]
    by_cases c : (t : Int) < n
    · rw [decide_eq_true c, cond_true, cond_true, Int.toNat_natCast]
      obtain ⟨q1, q2, q3⟩ := pa.2 t c
      have yes : p_spec_l06Below n levels (t : Int) i = true → p_impl_TreeOf_l1 n levels i μ (o ++ [(t : Int)]) ((t : Int) + 1) (y.set t true) = p_spec_TreeOf_l1 n levels i μ (o ++ [(t : Int)]) ((t : Int) + 1) := by
        intro hb
        refine ih _ (t + 1) _ (by rw [List.length_set]; exact hy) ?_ ?_
        · intro j hj
          by_cases hjt : t = j
          · subst hjt; rw [bset_same (by omega), hb]
          · rw [bset_other hjt]; exact g1 j (by omega)
        · intro j hj; rw [bset_other (by omega)]; exact g2 j (by omega)
      have no : p_spec_l06Below n levels (t : Int) i = false → p_impl_TreeOf_l1 n levels i μ o ((t : Int) + 1) y = p_spec_TreeOf_l1 n levels i μ o ((t : Int) + 1) := by
        intro hb
        refine ih _ (t + 1) _ hy ?_ ?_
        · intro j hj
          by_cases hjt : j = t
          · subst hjt; rw [hb]; exact g2 j (Nat.le_refl _)
          · exact g1 j (by omega)
        · intro j hj; exact g2 j (by omega)
      have st := below_step n levels i (t : Int) (by omega) h2 h4 (by omega) (by omega) hi
      rw [q1]
      cases c1 : ((t : Int) == i) with
      | true =>
        rw [c1, cond_true] at st
        rw [st, cond_true, cond_true]; exact yes st
      | false =>
        rw [c1, cond_false] at st
        rw [cond_false]
        by_cases c2 : 0 ≤ p_spec_l06Parent n levels (t : Int)
        · rw [decide_eq_true c2, cond_true] at st
          have g := g1 (p_spec_l06Parent n levels (t : Int)).toNat (by omega)
          rw [Int.toNat_of_nonneg c2, ← st] at g
          rw [decide_eq_true c2, cond_true, g]
          cases hb : p_spec_l06Below n levels (t : Int) i with
          | true => exact yes hb
          | false => exact no hb
        · rw [decide_eq_false c2, cond_false] at st
          rw [decide_eq_false c2, cond_false, st, cond_false]
          exact no st
    · rw [decide_eq_false c, cond_false, cond_false]
theorem tree_same (n levels i : Int) : p_impl_TreeOf n levels i = p_spec_TreeOf n levels i := by
  rw [p_impl_TreeOf_eq, p_spec_TreeOf_eq]
  cases h : p_spec_l06Can n levels with
  | false => rw [par_not h]; rfl
  | true =>
    obtain ⟨a, b, c, d, e⟩ := par_ok h
    have pa := par_all a b c d
    rw [show (p_impl_parentsOf n levels).2 = true by rw [e], Bool.not_true, cond_false, cond_false, show p_impl_within i 0 (n - 1) = p_spec_l00In i 0 (n - 1) from rfl]
    cases hi : p_spec_l00In i 0 (n - 1) with
    | false => rfl
    | true =>
      have hi := spec_l00In_t hi
      rw [Bool.not_true, cond_false, cond_false, show (p_impl_parentsOf n levels).1 = p_impl_parents (p_impl_BandSizes n levels).1 by rw [e], pa.1]
      have := tree_go n levels i a b c d (by omega) e (Int.toNat (n - (0 : Int)) + 1) [] 0 (List.replicate ((n).toNat) false) (by rw [List.length_replicate]; omega) (by intro j hj; omega) (by
        intro j _
        rw [List.getD_eq_getElem?_getD, List.getElem?_replicate]
        split <;> rfl)
      exact this
theorem laws_FnExactTreeOf_true (aN : Int) (aLevels : Int) (aI : Int) (q0 : I64 aN) (q1 : I64 aLevels) (q2 : I64 aI) : p_laws_FnExactTreeOf aN aLevels aI = true := by
  have hr := spec_TreeOf_len aN aLevels aI
  rw [p_laws_FnExactTreeOf_eq, tree_same]
  simp only [laws_eqInt64S_self, laws_heldInt64S_marks, Bool.not_true, cond_false, beq_self_eq_true, bne_self_eq_false, wk_one (show (p_spec_TreeOf aN aLevels aI).1.length < 1073741824 by omega)]
/-! laws_FnExactTreeOf: function 3 -/
def E_laws_FnExactTreeOf : Env := envOf [(15, S_spec_TreeOf), (16, S_impl_TreeOf), (17, S_laws_eqInt64S), (18, S_laws_markInt64S), (19, S_laws_heldInt64S)]
def F_laws_FnExactTreeOf : List Value → AHeap → (Value → AHeap → Prop) → Prop
  | [.int .i64 aN, .int .i64 aLevels, .int .i64 aI], H, K => T_laws_FnExactTreeOf aN aLevels aI H fun (r1 : Bool) (H' : AHeap) => K (.bool r1) H'
  | _, _, _ => False
def S_laws_FnExactTreeOf : FSpec := { F := F_laws_FnExactTreeOf, quiet := false, tame := false }
theorem laws_FnExactTreeOf_vc (aN : Int) (aLevels : Int) (aI : Int) (H : AHeap) (K : Value → AHeap → Prop) : bodyK Try.prog E_laws_FnExactTreeOf Try.f3 [.int .i64 aN, .int .i64 aLevels, .int .i64 aI] H K =
  (T_spec_TreeOf aN aLevels aI H fun (a1 : Option Addr) (r1 : Nat) (r2 : Nat) (r3 : Bool) (H1 : AHeap) => T_impl_TreeOf aN aLevels aI H1 fun (a2 : Option Addr) (r4 : Nat) (r5 : Nat) (r6 : Bool) (H2 : AHeap) => T_laws_eqInt64S a2 r4 r5 a1 r1 r2 H2 fun (r7 : Bool) (H3 : AHeap) => Br (!r7) (K (.bool false) H3) (Br (!(r6 == r3)) (K (.bool false) H3) (T_laws_markInt64S a2 r4 r5 1 H3 fun (r8 : Int) (H4 : AHeap) => T_laws_heldInt64S a2 r4 r5 1 H4 fun (r9 : Int) (H5 : AHeap) => Br (decide ((r9 : Int) < 0)) (K (.bool false) H5) (Br ((r9 : Int) != r8) (K (.bool false) H5) (T_impl_TreeOf aN aLevels aI H5 fun (a3 : Option Addr) (r10 : Nat) (r11 : Nat) (r12 : Bool) (H6 : AHeap) => T_laws_eqInt64S a3 r10 r11 a1 r1 r2 H6 fun (r13 : Bool) (H7 : AHeap) => Br (!r13) (K (.bool false) H7) (Br (!(r12 == r3)) (K (.bool false) H7) (T_laws_heldInt64S a2 r4 r5 1 H7 fun (r14 : Int) (H8 : AHeap) => Br (decide ((r14 : Int) < 0)) (K (.bool false) H8) (Br ((r14 : Int) != r8) (K (.bool false) H8) (K (.bool true) H8))))))))) := by kernel_rfl
theorem E_laws_FnExactTreeOf_ok : ∀ g, FnOk Try.prog g (E_laws_FnExactTreeOf g) := FnOk.envOf (by
  intro x hx
  simp only [List.mem_cons, List.not_mem_nil, or_false] at hx
  rcases hx with rfl | rfl | rfl | rfl | rfl
  · exact spec_TreeOf_ok
  · exact impl_TreeOf_ok
  · exact laws_eqInt64S_ok
  · exact laws_markInt64S_ok
  · exact laws_heldInt64S_ok)
set_option maxHeartbeats 1000000 in
theorem laws_FnExactTreeOf_main (aN : Int) (aLevels : Int) (aI : Int) (H : AHeap) (K : Value → AHeap → Prop) (h : T_laws_FnExactTreeOf aN aLevels aI H fun (r1 : Bool) (H' : AHeap) => K (.bool r1) H') : bodyK Try.prog E_laws_FnExactTreeOf Try.f3 [.int .i64 aN, .int .i64 aLevels, .int .i64 aI] H K := by
  rw [laws_FnExactTreeOf_vc]
  obtain ⟨h_0, h_1, h_2, hk⟩ := h
  have hl := laws_FnExactTreeOf_true aN aLevels aI h_0 h_1 h_2
  have e : p_laws_FnExactTreeOf aN aLevels aI = _ := rfl
  have e := e.trans (p_laws_FnExactTreeOf_eq aN aLevels aI)
  have e := hl.symm.trans e
  have g0 := Grow.refl H
  refine T_spec_TreeOf_i (fun a_1 n_2 e_3 H_1 g_6 r_4 => ?_)
  have z_5 := spec_TreeOf_len aN aLevels aI
  have l_7 := g_6.1
  have g_8 := g0.trans g_6
  have l_9 := g_8.1
  obtain rfl := r_4.isL.eqn
  have u_10 := r_4.up
  have u_11 := r_4.lo
  refine T_impl_TreeOf_i (fun a_13 n_14 e_15 H_2 g_18 r_16 => ?_)
  have z_17 := impl_TreeOf_len aN aLevels aI
  have l_19 := g_18.1
  have g_20 := g_8.trans g_18
  have l_21 := g_20.1
  have r_22 := r_4.grow g_18
  obtain rfl := r_16.isL.eqn
  have u_23 := r_16.up
  have u_24 := r_16.lo
  refine T_laws_eqInt64S_i ⟨_, _, r_16.isL, r_22.isL, (by first | omega | (simp only [List.length_set, List.length_replicate, List.length_append, List.length_cons, List.length_nil, List.length_take, List.length_drop, marks_length]; done) | (simp only [List.length_set, List.length_replicate, List.length_append, List.length_cons, List.length_nil, List.length_take, List.length_drop, marks_length]; omega)), (by first | omega | (simp only [List.length_set, List.length_replicate, List.length_append, List.length_cons, List.length_nil, List.length_take, List.length_drop, marks_length]; done) | (simp only [List.length_set, List.length_replicate, List.length_append, List.length_cons, List.length_nil, List.length_take, List.length_drop, marks_length]; omega)), ?_⟩
  refine Br.intro (fun c_26 => ?_) (fun c_26 => ?_)
  · have e := e.trans (cond_t c_26)
    have c_26n := nf_of_t c_26
    first | exact hk _ | (exfalso; cases e; done) | (rw [← e]; exact hk _)
  · have e := e.trans (cond_f c_26)
    have c_26n := nt_of_f c_26
    refine Br.intro (fun c_27 => ?_) (fun c_27 => ?_)
    · have e := e.trans (cond_t c_27)
      have c_27n := nf_of_t c_27
      first | exact hk _ | (exfalso; cases e; done) | (rw [← e]; exact hk _)
    · have e := e.trans (cond_f c_27)
      have c_27n := nt_of_f c_27
      refine T_laws_markInt64S_i ⟨_, _, r_16, (by first | omega | (simp only [List.length_set, List.length_replicate, List.length_append, List.length_cons, List.length_nil, List.length_take, List.length_drop, marks_length]; done) | (simp only [List.length_set, List.length_replicate, List.length_append, List.length_cons, List.length_nil, List.length_take, List.length_drop, marks_length]; omega)), (fun H_3 k_28 o_29 => ?_)⟩
      have l_30 := k_28.1
      have g_31 := g_20.keepA (fun x hx => by have := u_24 x hx; omega) k_28
      have l_32 := g_31.1
      have r_33 := r_22.keepA (fun x y hx hy => by have := u_24 x hx; have := u_23 x hx; have := u_11 y hy; have := u_10 y hy; omega) k_28
      refine T_laws_heldInt64S_i ⟨_, o_29.isL, (by first | omega | (simp only [List.length_set, List.length_replicate, List.length_append, List.length_cons, List.length_nil, List.length_take, List.length_drop, marks_length]; done) | (simp only [List.length_set, List.length_replicate, List.length_append, List.length_cons, List.length_nil, List.length_take, List.length_drop, marks_length]; omega)), ?_⟩
      refine Br.intro (fun c_34 => ?_) (fun c_34 => ?_)
      · have e := e.trans (cond_t c_34)
        have c_34' := of_decide_eq_true c_34
        first | exact hk _ | (exfalso; cases e; done) | (rw [← e]; exact hk _)
      · have e := e.trans (cond_f c_34)
        have c_34' := of_decide_eq_false c_34
        refine Br.intro (fun c_35 => ?_) (fun c_35 => ?_)
        · have e := e.trans (cond_t c_35)
          have c_35' := ine_t c_35
          first | exact hk _ | (exfalso; cases e; done) | (rw [← e]; exact hk _)
        · have e := e.trans (cond_f c_35)
          have c_35' := ine_f c_35
          refine T_impl_TreeOf_i (fun a_36 n_37 e_38 H_4 g_41 r_39 => ?_)
          have z_40 := impl_TreeOf_len aN aLevels aI
          have l_42 := g_41.1
          have g_43 := g_31.trans g_41
          have l_44 := g_43.1
          have r_45 := r_33.grow g_41
          have r_46 := o_29.grow g_41
          obtain rfl := r_39.isL.eqn
          have u_47 := r_39.up
          have u_48 := r_39.lo
          refine T_laws_eqInt64S_i ⟨_, _, r_39.isL, r_45.isL, (by first | omega | (simp only [List.length_set, List.length_replicate, List.length_append, List.length_cons, List.length_nil, List.length_take, List.length_drop, marks_length]; done) | (simp only [List.length_set, List.length_replicate, List.length_append, List.length_cons, List.length_nil, List.length_take, List.length_drop, marks_length]; omega)), (by first | omega | (simp only [List.length_set, List.length_replicate, List.length_append, List.length_cons, List.length_nil, List.length_take, List.length_drop, marks_length]; done) | (simp only [List.length_set, List.length_replicate, List.length_append, List.length_cons, List.length_nil, List.length_take, List.length_drop, marks_length]; omega)), ?_⟩
          refine Br.intro (fun c_50 => ?_) (fun c_50 => ?_)
          · have e := e.trans (cond_t c_50)
            have c_50n := nf_of_t c_50
            first | exact hk _ | (exfalso; cases e; done) | (rw [← e]; exact hk _)
          · have e := e.trans (cond_f c_50)
            have c_50n := nt_of_f c_50
            refine Br.intro (fun c_51 => ?_) (fun c_51 => ?_)
            · have e := e.trans (cond_t c_51)
              have c_51n := nf_of_t c_51
              first | exact hk _ | (exfalso; cases e; done) | (rw [← e]; exact hk _)
            · have e := e.trans (cond_f c_51)
              have c_51n := nt_of_f c_51
              refine T_laws_heldInt64S_i ⟨_, r_46.isL, (by first | omega | (simp only [List.length_set, List.length_replicate, List.length_append, List.length_cons, List.length_nil, List.length_take, List.length_drop, marks_length]; done) | (simp only [List.length_set, List.length_replicate, List.length_append, List.length_cons, List.length_nil, List.length_take, List.length_drop, marks_length]; omega)), ?_⟩
              refine Br.intro (fun c_52 => ?_) (fun c_52 => ?_)
              · have e := e.trans (cond_t c_52)
                have c_52' := of_decide_eq_true c_52
                first | exact hk _ | (exfalso; cases e; done) | (rw [← e]; exact hk _)
              · have e := e.trans (cond_f c_52)
                have c_52' := of_decide_eq_false c_52
                refine Br.intro (fun c_53 => ?_) (fun c_53 => ?_)
                · have e := e.trans (cond_t c_53)
                  have c_53' := ine_t c_53
                  first | exact hk _ | (exfalso; cases e; done) | (rw [← e]; exact hk _)
                · have e := e.trans (cond_f c_53)
                  have c_53' := ine_f c_53
                  first | exact hk _ | (exfalso; cases e; done) | (rw [← e]; exact hk _)
theorem laws_FnExactTreeOf_ok : FnOk Try.prog 3 S_laws_FnExactTreeOf := by
  refine FnOk.body mix_ok E_laws_FnExactTreeOf_ok Try.func3 rfl (by kernel_rfl) (by kernel_rfl) ?_ ?_ ?_ ?_ ?_
  · intro args H K K' h hk
    simp only [S_laws_FnExactTreeOf] at *
    unfold F_laws_FnExactTreeOf at *
    split at hk
    · obtain ⟨h_0, h_1, h_2, k⟩ := hk
      exact ⟨h_0, h_1, h_2, (fun H' => h _ _ (k H'))⟩
    · exact hk.elim
  · intro hq; cases hq
  · intro args H K hk
    simp only [S_laws_FnExactTreeOf] at *
    unfold F_laws_FnExactTreeOf at *
    split at hk
    · obtain ⟨h_0, h_1, h_2, k⟩ := hk
      exact ⟨_, _, k []⟩
    · exact hk.elim
  · intro hq; cases hq
  · have mm := @laws_FnExactTreeOf_main
    revert mm
    generalize bodyK Try.prog E_laws_FnExactTreeOf Try.f3 = Q
    intro mm args H K hk
    simp only [S_laws_FnExactTreeOf] at *
    unfold F_laws_FnExactTreeOf at *
    split at hk
    · exact mm _ _ _ H K hk
    · exact hk.elim
end Go.Proofs.Ytfofkmlohmodeab.Ai
