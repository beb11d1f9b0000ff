/- What functions of the program come to on the abstract machine, and that they do so; printed by a program of mine around proofs of mine. -/
import Derived.Test.YtghkkclonabpkaaFFnExactEnergiesIn1
set_option linter.unusedVariables false
set_option linter.unusedSimpArgs false
set_option maxRecDepth 100000
namespace Go.Proofs.Ytghkkclonabpkaa.Ai
open Go
attribute [local irreducible] bodyK

def p_impl_EnergiesIn_l2 (p_Wide : Int) (p_High : Int) (l_p_Lights : List Nat) (levels : Int) (l_vout : List Nat) (level : Int) (k2_2 : (List Nat) → Int → ((List Nat) × Bool)) : Nat → (List Nat) → Int → (List Nat) × Bool
  | 0, _, _ => ([], false)
  | μ2 + 1, l_vout_2, band => (bif decide ((band : Int) ≤ 3) then (p_impl_EnergiesIn_l2 p_Wide p_High l_p_Lights levels l_vout level k2_2 μ2 ((l_vout_2 ++ [(p_impl_energyIn p_Wide p_High l_p_Lights level band)])) (band + 1)) else (k2_2 l_vout_2 band))
theorem p_impl_EnergiesIn_l2_s (p_Wide : Int) (p_High : Int) (l_p_Lights : List Nat) (levels : Int) (l_vout : List Nat) (level : Int) (k2_2 : (List Nat) → Int → ((List Nat) × Bool)) (μ2 : Nat) (l_vout_2 : List Nat) (band : Int) : p_impl_EnergiesIn_l2 p_Wide p_High l_p_Lights levels l_vout level k2_2 (μ2 + 1) l_vout_2 band = (bif decide ((band : Int) ≤ 3) then (p_impl_EnergiesIn_l2 p_Wide p_High l_p_Lights levels l_vout level k2_2 μ2 ((l_vout_2 ++ [(p_impl_energyIn p_Wide p_High l_p_Lights level band)])) (band + 1)) else (k2_2 l_vout_2 band)) := rfl
def p_impl_EnergiesIn_l1 (p_Wide : Int) (p_High : Int) (l_p_Lights : List Nat) (levels : Int) : Nat → (List Nat) → Int → (List Nat) × Bool
  | 0, _, _ => ([], false)
  | μ + 1, l_vout, level => (bif decide ((level : Int) ≤ levels) then (p_impl_EnergiesIn_l2 p_Wide p_High l_p_Lights levels l_vout level (fun (l_vout_2 : List Nat) (band : Int) => (p_impl_EnergiesIn_l1 p_Wide p_High l_p_Lights levels μ l_vout_2 (level + 1))) (Int.toNat (3 - (1 : Int) + 1) + 1) l_vout (1 : Int)) else (bif (p_impl_finiteList ((l_vout ++ [((p_impl_energyIn p_Wide p_High l_p_Lights levels (0 : Int)))]))).2 then ((l_vout ++ [((p_impl_energyIn p_Wide p_High l_p_Lights levels (0 : Int)))]), true) else ([], false)))
theorem p_impl_EnergiesIn_l1_s (p_Wide : Int) (p_High : Int) (l_p_Lights : List Nat) (levels : Int) (μ : Nat) (l_vout : List Nat) (level : Int) : p_impl_EnergiesIn_l1 p_Wide p_High l_p_Lights levels (μ + 1) l_vout level = (bif decide ((level : Int) ≤ levels) then (p_impl_EnergiesIn_l2 p_Wide p_High l_p_Lights levels l_vout level (fun (l_vout_2 : List Nat) (band : Int) => (p_impl_EnergiesIn_l1 p_Wide p_High l_p_Lights levels μ l_vout_2 (level + 1))) (Int.toNat (3 - (1 : Int) + 1) + 1) l_vout (1 : Int)) else (bif (p_impl_finiteList ((l_vout ++ [((p_impl_energyIn p_Wide p_High l_p_Lights levels (0 : Int)))]))).2 then ((l_vout ++ [((p_impl_energyIn p_Wide p_High l_p_Lights levels (0 : Int)))]), true) else ([], false))) := rfl
def p_impl_EnergiesIn (p_Wide : Int) (p_High : Int) (l_p_Lights : List Nat) (levels : Int) : (List Nat) × Bool := (bif !(p_impl_ValidPicture p_Wide p_High l_p_Lights) then ([], false) else (bif !(p_impl_areLevels levels) then ([], false) else (p_impl_EnergiesIn_l1 p_Wide p_High l_p_Lights levels (Int.toNat (levels - (1 : Int) + 1) + 1) ([] : List Nat) (1 : Int))))
theorem p_impl_EnergiesIn_eq (p_Wide : Int) (p_High : Int) (l_p_Lights : List Nat) (levels : Int) : p_impl_EnergiesIn p_Wide p_High l_p_Lights levels = (bif !(p_impl_ValidPicture p_Wide p_High l_p_Lights) then ([], false) else (bif !(p_impl_areLevels levels) then ([], false) else (p_impl_EnergiesIn_l1 p_Wide p_High l_p_Lights levels (Int.toNat (levels - (1 : Int) + 1) + 1) ([] : List Nat) (1 : Int)))) := rfl
def T_impl_EnergiesIn (p_Wide : Int) (p_High : Int) (p_Lights_a : Option Addr) (p_Lights_n : Nat) (p_Lights_e : Nat) (levels : Int) (H : AHeap) (K : (Option Addr) → Nat → Nat → Bool → AHeap → Prop) : Prop := ∃ (l_p_Lights : List Nat), IsL fF H p_Lights_a p_Lights_n l_p_Lights ∧ l_p_Lights.length < 1073741824 ∧ ((∀ (r1_a : Option Addr) (r1_n r1_e : Nat), ∀ H' : AHeap, Grow H H' → OwnS fF H' H.length r1_a r1_n r1_e ((p_impl_EnergiesIn p_Wide p_High l_p_Lights levels).1) → K r1_a r1_n r1_e ((p_impl_EnergiesIn p_Wide p_High l_p_Lights levels).2) H'))
theorem T_impl_EnergiesIn_i {p_Wide : Int} {p_High : Int} {p_Lights_a : Option Addr} {p_Lights_n : Nat} {p_Lights_e : Nat} {levels : Int} {H : AHeap} {K : (Option Addr) → Nat → Nat → Bool → AHeap → Prop} (h : ∃ (l_p_Lights : List Nat), IsL fF H p_Lights_a p_Lights_n l_p_Lights ∧ l_p_Lights.length < 1073741824 ∧ ((∀ (r1_a : Option Addr) (r1_n r1_e : Nat), ∀ H' : AHeap, Grow H H' → OwnS fF H' H.length r1_a r1_n r1_e ((p_impl_EnergiesIn p_Wide p_High l_p_Lights levels).1) → K r1_a r1_n r1_e ((p_impl_EnergiesIn p_Wide p_High l_p_Lights levels).2) H'))) : T_impl_EnergiesIn p_Wide p_High p_Lights_a p_Lights_n p_Lights_e levels H K := h
theorem impl_EnergiesIn_len2 {N : Nat} (W H : Int) (L : List Nat) (levels level : Int) (vo : List Nat) (k : List Nat → Int → List Nat × Bool) : ∀ (μ : Nat) (o : List Nat) (b : Int), (∀ o' b', o'.length ≤ o.length + (4 - b).toNat → (k o' b').1.length ≤ N) → (p_impl_EnergiesIn_l2 W H L levels vo level k μ o b).1.length ≤ N := by
  intro μ
  induction μ with
  | zero => intro o b _; exact Nat.zero_le _
  | succ μ ih =>
    intro o b hk
    rw [p_impl_EnergiesIn_l2_s]
    by_cases h : b ≤ 3
    · rw [decide_eq_true h, cond_true]
      refine ih _ _ fun o' b' ho => hk o' b' ?_
      rw [List.length_append, List.length_singleton] at ho
      omega
    · rw [decide_eq_false h, cond_false]
      exact hk o b (by omega)
theorem impl_EnergiesIn_len1 (W H : Int) (L : List Nat) (levels : Int) (hl : levels ≤ 4) : ∀ (μ : Nat) (o : List Nat) (l : Int), o.length + 3 * (5 - l).toNat ≤ 12 → (p_impl_EnergiesIn_l1 W H L levels μ o l).1.length ≤ 13 := by
  intro μ
  induction μ with
  | zero => intro o l _; exact Nat.zero_le _
  | succ μ ih =>
    intro o l ho
    rw [p_impl_EnergiesIn_l1_s]
    by_cases h : l ≤ levels
    · rw [decide_eq_true h, cond_true]
      refine impl_EnergiesIn_len2 W H L levels l o _ _ o 1 fun o' b' ho' => ih o' (l + 1) ?_
      rw [show (4 - (1 : Int)).toNat = 3 by decide] at ho'
      omega
    · rw [decide_eq_false h, cond_false]
      cases (p_impl_finiteList (o ++ [p_impl_energyIn W H L levels 0])).2 with
      | false => exact Nat.zero_le _
      | true =>
        show (o ++ [p_impl_energyIn W H L levels 0]).length ≤ 13
        rw [List.length_append, List.length_singleton]; omega
theorem impl_EnergiesIn_len (W H : Int) (L : List Nat) (levels : Int) : ((p_impl_EnergiesIn W H L levels).1.length : Int) ≤ 13 := by
  rw [p_impl_EnergiesIn_eq]
  cases p_impl_ValidPicture W H L with
  | false => show ((0 : Nat) : Int) ≤ 13; omega
  | true =>
    cases hL : p_impl_areLevels levels with
    | false => show ((0 : Nat) : Int) ≤ 13; omega
    | true =>
      have := impl_EnergiesIn_len1 W H L levels (impl_areLevels_t hL).2 (Int.toNat (levels - (1 : Int) + 1) + 1) [] 1 (by decide)
      simp only [Bool.not_true, cond_false]
      omega
/-! impl_EnergiesIn: function 40 -/
def E_impl_EnergiesIn : Env := envOf [(94, S_impl_ValidPicture), (95, S_impl_areLevels), (96, S_impl_energyIn), (69, S_impl_finiteList)]
def F_impl_EnergiesIn : List Value → AHeap → (Value → AHeap → Prop) → Prop
  | [.agg ⟨[.int .i64 p_Wide, .int .i64 p_High, .slice p_Lights_a p_Lights_n p_Lights_e]⟩, .int .i64 levels], H, K => T_impl_EnergiesIn p_Wide p_High p_Lights_a p_Lights_n p_Lights_e levels H fun (r1_a : Option Addr) (r1_n : Nat) (r1_e : Nat) (r2 : Bool) (H' : AHeap) => K (.tuple #[.slice r1_a r1_n r1_e, .bool r2]) H'
  | _, _, _ => False
def S_impl_EnergiesIn : FSpec := { F := F_impl_EnergiesIn, quiet := false, tame := true }
theorem impl_EnergiesIn_vc (p_Wide : Int) (p_High : Int) (p_Lights_a : Option Addr) (p_Lights_n : Nat) (p_Lights_e : Nat) (levels : Int) (H : AHeap) (K : Value → AHeap → Prop) : bodyK Try.prog E_impl_EnergiesIn Try.f40 [.agg #[.int .i64 p_Wide, .int .i64 p_High, .slice p_Lights_a p_Lights_n p_Lights_e], .int .i64 levels] H K =
  (Al [.int .i64 p_Wide, .int .i64 p_High, .slice p_Lights_a p_Lights_n p_Lights_e] H fun b1 H1 => ∃ c1 : Int, ∃ c2 : Int, ∃ c3_a : Option Addr, ∃ c3_n : Nat, ∃ c3_e : Nat,  rdN H1 b1 0 3 = some [.int .i64 c1, .int .i64 c2, .slice c3_a c3_n c3_e] ∧ T_impl_ValidPicture c1 c2 c3_a c3_n c3_e H1 fun (r1 : Bool) (H2 : AHeap) => Br (!r1) (K (.tuple #[.slice none 0 0, .bool false]) H2) (T_impl_areLevels levels H2 fun (r2 : Bool) (H3 : AHeap) => Br (!r2) (K (.tuple #[.slice none 0 0, .bool false]) H3) (Al [] H3 fun b2 H4 => loopK (exK Try.prog E_impl_EnergiesIn (cl (cl (cr (cl (cr (cr (cr (bodyC Try.f40))))))))) [.agg #[.int .i64 p_Wide, .int .i64 p_High, .slice p_Lights_a p_Lights_n p_Lights_e], .int .i64 levels, .pointer (some ⟨b1, 0, none⟩), undef, .slice none 0 0, .bool false, .slice (some ⟨b2, 0, none⟩) 0 1, .int .i64 1, undef, .agg #[.int .i64 c1, .int .i64 c2, .slice c3_a c3_n c3_e], .bool r1, .bool (!r1), .bool false, .int .i64 levels, .bool r2, .bool (!r2), .bool (!r2), .slice (some ⟨b2, 0, none⟩) 0 1, undef, undef, undef, undef, undef, undef, undef, undef, undef, undef, undef, undef, undef, undef, undef, undef, undef, undef, undef, undef, undef, undef, undef, undef, undef] H4 (blockQ 0 (seqQ (exK Try.prog E_impl_EnergiesIn (cr (cr (cr (cr (bodyC Try.f40)))))) (retK Try.prog Try.f40 K)))))) := by kernel_rfl
theorem impl_EnergiesIn_r1 (b1 : Nat) (b2 : Nat) (c1 : Int) (c2 : Int) (c3_a : Option Addr) (c3_e : Nat) (c3_n : Nat) (levels : Int) (p_High : Int) (p_Lights_a : Option Addr) (p_Lights_e : Nat) (p_Lights_n : Nat) (p_Wide : Int) (r1 : Bool) (r2 : Bool) (vout_a : Option Addr) (vout_n : Nat) (vout_e : Nat) (level : Int) (g8 g18 g19 g20 g21 g22 g23 g24 g25 g26 g27 g28 g29 g30 g31 g32 g33 : Value) (H : AHeap) (R : Post) : exK Try.prog E_impl_EnergiesIn (cl (cl (cr (cl (cr (cr (cr (bodyC Try.f40)))))))) [.agg #[.int .i64 p_Wide, .int .i64 p_High, .slice p_Lights_a p_Lights_n p_Lights_e], .int .i64 levels, .pointer (some ⟨b1, 0, none⟩), undef, .slice none 0 0, .bool false, .slice vout_a vout_n vout_e, .int .i64 level, g8, .agg #[.int .i64 c1, .int .i64 c2, .slice c3_a c3_n c3_e], .bool r1, .bool (!r1), .bool false, .int .i64 levels, .bool r2, .bool (!r2), .bool (!r2), .slice (some ⟨b2, 0, none⟩) 0 1, g18, g19, g20, g21, g22, g23, g24, g25, g26, g27, g28, g29, g30, g31, g32, g33, undef, undef, undef, undef, undef, undef, undef, undef, undef] H R =
  (Br (decide ((level : Int) ≤ levels)) (loopK (exK Try.prog E_impl_EnergiesIn (cl (cl (cr (cl (cl (cr (cl (cl (cr (cl (cr (cr (cr (bodyC Try.f40))))))))))))))) [.agg #[.int .i64 p_Wide, .int .i64 p_High, .slice p_Lights_a p_Lights_n p_Lights_e], .int .i64 levels, .pointer (some ⟨b1, 0, none⟩), undef, .slice none 0 0, .bool false, .slice vout_a vout_n vout_e, .int .i64 level, .int .i64 1, .agg #[.int .i64 c1, .int .i64 c2, .slice c3_a c3_n c3_e], .bool r1, .bool (!r1), .bool false, .int .i64 levels, .bool r2, .bool (!r2), .bool (!r2), .slice (some ⟨b2, 0, none⟩) 0 1, .int .i64 level, .int .i64 levels, .bool (decide ((level : Int) ≤ levels)), g21, g22, g23, g24, g25, g26, g27, g28, g29, g30, g31, g32, g33, undef, undef, undef, undef, undef, undef, undef, undef, undef] H (blockQ 2 (blockQ 1 (seqQ (exK Try.prog E_impl_EnergiesIn (cr (cr (cl (cl (cr (cl (cr (cr (cr (bodyC Try.f40))))))))))) (R))))) (R (.exit 0) [.agg #[.int .i64 p_Wide, .int .i64 p_High, .slice p_Lights_a p_Lights_n p_Lights_e], .int .i64 levels, .pointer (some ⟨b1, 0, none⟩), undef, .slice none 0 0, .bool false, .slice vout_a vout_n vout_e, .int .i64 level, g8, .agg #[.int .i64 c1, .int .i64 c2, .slice c3_a c3_n c3_e], .bool r1, .bool (!r1), .bool false, .int .i64 levels, .bool r2, .bool (!r2), .bool (!r2), .slice (some ⟨b2, 0, none⟩) 0 1, .int .i64 level, .int .i64 levels, .bool (decide ((level : Int) ≤ levels)), g21, g22, g23, g24, g25, g26, g27, g28, g29, g30, g31, g32, g33, undef, undef, undef, undef, undef, undef, undef, undef, undef] H)) := by kernel_rfl
def impl_EnergiesIn_I1 (b1 : Nat) (b2 : Nat) (c1 : Int) (c2 : Int) (c3_a : Option Addr) (c3_e : Nat) (c3_n : Nat) (levels : Int) (p_High : Int) (p_Lights_a : Option Addr) (p_Lights_e : Nat) (p_Lights_n : Nat) (p_Wide : Int) (r1 : Bool) (r2 : Bool) (Inv : Nat → (Option Addr) → Nat → Nat → Int → AHeap → Prop) : Nat → List Value → AHeap → Prop := fun μ tm H => ∃ (vout_a : Option Addr), ∃ (vout_n : Nat), ∃ (vout_e : Nat), ∃ (level : Int), ∃ g8 g18 g19 g20 g21 g22 g23 g24 g25 g26 g27 g28 g29 g30 g31 g32 g33, tm = [.agg #[.int .i64 p_Wide, .int .i64 p_High, .slice p_Lights_a p_Lights_n p_Lights_e], .int .i64 levels, .pointer (some ⟨b1, 0, none⟩), undef, .slice none 0 0, .bool false, .slice vout_a vout_n vout_e, .int .i64 level, g8, .agg #[.int .i64 c1, .int .i64 c2, .slice c3_a c3_n c3_e], .bool r1, .bool (!r1), .bool false, .int .i64 levels, .bool r2, .bool (!r2), .bool (!r2), .slice (some ⟨b2, 0, none⟩) 0 1, g18, g19, g20, g21, g22, g23, g24, g25, g26, g27, g28, g29, g30, g31, g32, g33, undef, undef, undef, undef, undef, undef, undef, undef, undef] ∧ Inv μ vout_a vout_n vout_e level H
theorem impl_EnergiesIn_L1 (b1 : Nat) (b2 : Nat) (c1 : Int) (c2 : Int) (c3_a : Option Addr) (c3_e : Nat) (c3_n : Nat) (levels : Int) (p_High : Int) (p_Lights_a : Option Addr) (p_Lights_e : Nat) (p_Lights_n : Nat) (p_Wide : Int) (r1 : Bool) (r2 : Bool) {Q : Post} (Inv : Nat → (Option Addr) → Nat → Nat → Int → AHeap → Prop) (ν : Nat) (vout_a : Option Addr) (vout_n : Nat) (vout_e : Nat) (level : Int) (g8 g18 g19 g20 g21 g22 g23 g24 g25 g26 g27 g28 g29 g30 g31 g32 g33 : Value) (H : AHeap) (h0 : Inv ν vout_a vout_n vout_e level H)
    (hs : ∀ (μ : Nat) (vout_a : Option Addr) (vout_n : Nat) (vout_e : Nat) (level : Int) (g8 g18 g19 g20 g21 g22 g23 g24 g25 g26 g27 g28 g29 g30 g31 g32 g33 : Value) (H : AHeap), Inv μ vout_a vout_n vout_e level H → exK Try.prog E_impl_EnergiesIn (cl (cl (cr (cl (cr (cr (cr (bodyC Try.f40)))))))) [.agg #[.int .i64 p_Wide, .int .i64 p_High, .slice p_Lights_a p_Lights_n p_Lights_e], .int .i64 levels, .pointer (some ⟨b1, 0, none⟩), undef, .slice none 0 0, .bool false, .slice vout_a vout_n vout_e, .int .i64 level, g8, .agg #[.int .i64 c1, .int .i64 c2, .slice c3_a c3_n c3_e], .bool r1, .bool (!r1), .bool false, .int .i64 levels, .bool r2, .bool (!r2), .bool (!r2), .slice (some ⟨b2, 0, none⟩) 0 1, g18, g19, g20, g21, g22, g23, g24, g25, g26, g27, g28, g29, g30, g31, g32, g33, undef, undef, undef, undef, undef, undef, undef, undef, undef] H (loopQ (impl_EnergiesIn_I1 b1 b2 c1 c2 c3_a c3_e c3_n levels p_High p_Lights_a p_Lights_e p_Lights_n p_Wide r1 r2 Inv) μ Q)) : loopK (exK Try.prog E_impl_EnergiesIn (cl (cl (cr (cl (cr (cr (cr (bodyC Try.f40))))))))) [.agg #[.int .i64 p_Wide, .int .i64 p_High, .slice p_Lights_a p_Lights_n p_Lights_e], .int .i64 levels, .pointer (some ⟨b1, 0, none⟩), undef, .slice none 0 0, .bool false, .slice vout_a vout_n vout_e, .int .i64 level, g8, .agg #[.int .i64 c1, .int .i64 c2, .slice c3_a c3_n c3_e], .bool r1, .bool (!r1), .bool false, .int .i64 levels, .bool r2, .bool (!r2), .bool (!r2), .slice (some ⟨b2, 0, none⟩) 0 1, g18, g19, g20, g21, g22, g23, g24, g25, g26, g27, g28, g29, g30, g31, g32, g33, undef, undef, undef, undef, undef, undef, undef, undef, undef] H Q :=
  ⟨impl_EnergiesIn_I1 b1 b2 c1 c2 c3_a c3_e c3_n levels p_High p_Lights_a p_Lights_e p_Lights_n p_Wide r1 r2 Inv, ν, ⟨vout_a, vout_n, vout_e, level, g8, g18, g19, g20, g21, g22, g23, g24, g25, g26, g27, g28, g29, g30, g31, g32, g33, rfl, h0⟩, fun μ tm H h => by obtain ⟨vout_a, vout_n, vout_e, level, g8, g18, g19, g20, g21, g22, g23, g24, g25, g26, g27, g28, g29, g30, g31, g32, g33, rfl, hI⟩ := h; exact hs μ vout_a vout_n vout_e level g8 g18 g19 g20 g21 g22 g23 g24 g25 g26 g27 g28 g29 g30 g31 g32 g33 H hI⟩
theorem impl_EnergiesIn_n1 {b1 : Nat} {b2 : Nat} {c1 : Int} {c2 : Int} {c3_a : Option Addr} {c3_e : Nat} {c3_n : Nat} {levels : Int} {p_High : Int} {p_Lights_a : Option Addr} {p_Lights_e : Nat} {p_Lights_n : Nat} {p_Wide : Int} {r1 : Bool} {r2 : Bool} {Q : Post} {Inv : Nat → (Option Addr) → Nat → Nat → Int → AHeap → Prop} {μ : Nat} (μ' : Nat) {vout_a : Option Addr} {vout_n : Nat} {vout_e : Nat} {level : Int} {g8 g18 g19 g20 g21 g22 g23 g24 g25 g26 g27 g28 g29 g30 g31 g32 g33 : Value} {H : AHeap} (hm : μ' < μ) (hI : Inv μ' vout_a vout_n vout_e level H) : loopQ (impl_EnergiesIn_I1 b1 b2 c1 c2 c3_a c3_e c3_n levels p_High p_Lights_a p_Lights_e p_Lights_n p_Wide r1 r2 Inv) μ Q .normal [.agg #[.int .i64 p_Wide, .int .i64 p_High, .slice p_Lights_a p_Lights_n p_Lights_e], .int .i64 levels, .pointer (some ⟨b1, 0, none⟩), undef, .slice none 0 0, .bool false, .slice vout_a vout_n vout_e, .int .i64 level, g8, .agg #[.int .i64 c1, .int .i64 c2, .slice c3_a c3_n c3_e], .bool r1, .bool (!r1), .bool false, .int .i64 levels, .bool r2, .bool (!r2), .bool (!r2), .slice (some ⟨b2, 0, none⟩) 0 1, g18, g19, g20, g21, g22, g23, g24, g25, g26, g27, g28, g29, g30, g31, g32, g33, undef, undef, undef, undef, undef, undef, undef, undef, undef] H := ⟨μ', hm, vout_a, vout_n, vout_e, level, g8, g18, g19, g20, g21, g22, g23, g24, g25, g26, g27, g28, g29, g30, g31, g32, g33, rfl, hI⟩
theorem impl_EnergiesIn_x1_0 (b1 : Nat) (b2 : Nat) (c1 : Int) (c2 : Int) (c3_a : Option Addr) (c3_e : Nat) (c3_n : Nat) (levels : Int) (p_High : Int) (p_Lights_a : Option Addr) (p_Lights_e : Nat) (p_Lights_n : Nat) (p_Wide : Int) (r1 : Bool) (r2 : Bool) (vout_a : Option Addr) (vout_n : Nat) (vout_e : Nat) (level : Int) (g8 g18 g19 g20 g21 g22 g23 g24 g25 g26 g27 g28 g29 g30 g31 g32 g33 : Value) (H : AHeap) (K : Value → AHeap → Prop)  {I : Nat → List Value → AHeap → Prop} {μ : Nat} : loopQ I μ (blockQ 0 (seqQ (exK Try.prog E_impl_EnergiesIn (cr (cr (cr (cr (bodyC Try.f40)))))) (retK Try.prog Try.f40 K))) (.exit 0) [.agg #[.int .i64 p_Wide, .int .i64 p_High, .slice p_Lights_a p_Lights_n p_Lights_e], .int .i64 levels, .pointer (some ⟨b1, 0, none⟩), undef, .slice none 0 0, .bool false, .slice vout_a vout_n vout_e, .int .i64 level, g8, .agg #[.int .i64 c1, .int .i64 c2, .slice c3_a c3_n c3_e], .bool r1, .bool (!r1), .bool false, .int .i64 levels, .bool r2, .bool (!r2), .bool (!r2), .slice (some ⟨b2, 0, none⟩) 0 1, g18, g19, g20, g21, g22, g23, g24, g25, g26, g27, g28, g29, g30, g31, g32, g33, undef, undef, undef, undef, undef, undef, undef, undef, undef] H =
  (∃ c7 : Int, ∃ c8 : Int, ∃ c9_a : Option Addr, ∃ c9_n : Nat, ∃ c9_e : Nat,  rdN H b1 0 3 = some [.int .i64 c7, .int .i64 c8, .slice c9_a c9_n c9_e] ∧ T_impl_energyIn c7 c8 c9_a c9_n c9_e levels 0 H fun (r4 : Nat) (H8 : AHeap) => Al [.float .f32 r4] H8 fun b5 H9 => ∃ o2 w2 : List Value, ownB H9 vout_a vout_n vout_e 1 = some o2 ∧ rdS H9 (some ⟨b5, 0, none⟩) (1 * 1) = some w2 ∧ ((vout_a : Option Addr) = none → 0 < (1 : Nat)) ∧ (vout_n : Nat) + 1 < most ∧ Ap H9 (killB H9 vout_a ++ [some ⟨o2 ++ w2, true⟩]) fun b6 H10 => T_impl_finiteList (some ⟨b6, 0, none⟩) (vout_n + 1) 1 H10 fun (a1 : Option Addr) (r5 : Nat) (r6 : Nat) (r7 : Bool) (H11 : AHeap) => K (.tuple #[.slice a1 r5 r6, .bool r7]) H11) := by kernel_rfl
theorem impl_EnergiesIn_r2 (b1 : Nat) (b2 : Nat) (c1 : Int) (c2 : Int) (c3_a : Option Addr) (c3_e : Nat) (c3_n : Nat) (g21 : Value) (g22 : Value) (level : Int) (levels : Int) (p_High : Int) (p_Lights_a : Option Addr) (p_Lights_e : Nat) (p_Lights_n : Nat) (p_Wide : Int) (r1 : Bool) (r2 : Bool) (vout_a : Option Addr) (vout_n : Nat) (vout_e : Nat) (band : Int) (g23 g24 g25 g26 g27 g28 g29 g30 g31 g32 g33 : Value) (H : AHeap) (R : Post) : exK Try.prog E_impl_EnergiesIn (cl (cl (cr (cl (cl (cr (cl (cl (cr (cl (cr (cr (cr (bodyC Try.f40)))))))))))))) [.agg #[.int .i64 p_Wide, .int .i64 p_High, .slice p_Lights_a p_Lights_n p_Lights_e], .int .i64 levels, .pointer (some ⟨b1, 0, none⟩), undef, .slice none 0 0, .bool false, .slice vout_a vout_n vout_e, .int .i64 level, .int .i64 band, .agg #[.int .i64 c1, .int .i64 c2, .slice c3_a c3_n c3_e], .bool r1, .bool (!r1), .bool false, .int .i64 levels, .bool r2, .bool (!r2), .bool (!r2), .slice (some ⟨b2, 0, none⟩) 0 1, .int .i64 level, .int .i64 levels, .bool (decide ((level : Int) ≤ levels)), g21, g22, g23, g24, g25, g26, g27, g28, g29, g30, g31, g32, g33, undef, undef, undef, undef, undef, undef, undef, undef, undef] H R =
  (Br (decide ((band : Int) ≤ 3)) (∃ c4 : Int, ∃ c5 : Int, ∃ c6_a : Option Addr, ∃ c6_n : Nat, ∃ c6_e : Nat,  rdN H b1 0 3 = some [.int .i64 c4, .int .i64 c5, .slice c6_a c6_n c6_e] ∧ T_impl_energyIn c4 c5 c6_a c6_n c6_e level band H fun (r3 : Nat) (H5 : AHeap) => Al [.float .f32 r3] H5 fun b3 H6 => ∃ o1 w1 : List Value, ownB H6 vout_a vout_n vout_e 1 = some o1 ∧ rdS H6 (some ⟨b3, 0, none⟩) (1 * 1) = some w1 ∧ ((vout_a : Option Addr) = none → 0 < (1 : Nat)) ∧ (vout_n : Nat) + 1 < most ∧ Ap H6 (killB H6 vout_a ++ [some ⟨o1 ++ w1, true⟩]) fun b4 H7 => R .normal [.agg #[.int .i64 p_Wide, .int .i64 p_High, .slice p_Lights_a p_Lights_n p_Lights_e], .int .i64 levels, .pointer (some ⟨b1, 0, none⟩), undef, .slice none 0 0, .bool false, .slice (some ⟨b4, 0, none⟩) (vout_n + 1) 1, .int .i64 level, .int .i64 (IntKind.wrap .i64 (band + 1)), .agg #[.int .i64 c1, .int .i64 c2, .slice c3_a c3_n c3_e], .bool r1, .bool (!r1), .bool false, .int .i64 levels, .bool r2, .bool (!r2), .bool (!r2), .slice (some ⟨b2, 0, none⟩) 0 1, .int .i64 level, .int .i64 levels, .bool (decide ((level : Int) ≤ levels)), g21, g22, .int .i64 band, .bool (decide ((band : Int) ≤ 3)), .int .i64 band, .int .i64 (IntKind.wrap .i64 (band + 1)), .slice vout_a vout_n vout_e, .agg #[.int .i64 c4, .int .i64 c5, .slice c6_a c6_n c6_e], .int .i64 level, .int .i64 band, .float .f32 r3, .slice (some ⟨b3, 0, none⟩) 1 1, .slice (some ⟨b4, 0, none⟩) (vout_n + 1) 1, undef, undef, undef, undef, undef, undef, undef, undef, undef] H7) (R (.exit 2) [.agg #[.int .i64 p_Wide, .int .i64 p_High, .slice p_Lights_a p_Lights_n p_Lights_e], .int .i64 levels, .pointer (some ⟨b1, 0, none⟩), undef, .slice none 0 0, .bool false, .slice vout_a vout_n vout_e, .int .i64 level, .int .i64 band, .agg #[.int .i64 c1, .int .i64 c2, .slice c3_a c3_n c3_e], .bool r1, .bool (!r1), .bool false, .int .i64 levels, .bool r2, .bool (!r2), .bool (!r2), .slice (some ⟨b2, 0, none⟩) 0 1, .int .i64 level, .int .i64 levels, .bool (decide ((level : Int) ≤ levels)), g21, g22, .int .i64 band, .bool (decide ((band : Int) ≤ 3)), g25, g26, g27, g28, g29, g30, g31, g32, g33, undef, undef, undef, undef, undef, undef, undef, undef, undef] H)) := by kernel_rfl
def impl_EnergiesIn_I2 (b1 : Nat) (b2 : Nat) (c1 : Int) (c2 : Int) (c3_a : Option Addr) (c3_e : Nat) (c3_n : Nat) (g21 : Value) (g22 : Value) (level : Int) (levels : Int) (p_High : Int) (p_Lights_a : Option Addr) (p_Lights_e : Nat) (p_Lights_n : Nat) (p_Wide : Int) (r1 : Bool) (r2 : Bool) (Inv : Nat → (Option Addr) → Nat → Nat → Int → AHeap → Prop) : Nat → List Value → AHeap → Prop := fun μ tm H => ∃ (vout_a : Option Addr), ∃ (vout_n : Nat), ∃ (vout_e : Nat), ∃ (band : Int), ∃ g23 g24 g25 g26 g27 g28 g29 g30 g31 g32 g33, tm = [.agg #[.int .i64 p_Wide, .int .i64 p_High, .slice p_Lights_a p_Lights_n p_Lights_e], .int .i64 levels, .pointer (some ⟨b1, 0, none⟩), undef, .slice none 0 0, .bool false, .slice vout_a vout_n vout_e, .int .i64 level, .int .i64 band, .agg #[.int .i64 c1, .int .i64 c2, .slice c3_a c3_n c3_e], .bool r1, .bool (!r1), .bool false, .int .i64 levels, .bool r2, .bool (!r2), .bool (!r2), .slice (some ⟨b2, 0, none⟩) 0 1, .int .i64 level, .int .i64 levels, .bool (decide ((level : Int) ≤ levels)), g21, g22, g23, g24, g25, g26, g27, g28, g29, g30, g31, g32, g33, undef, undef, undef, undef, undef, undef, undef, undef, undef] ∧ Inv μ vout_a vout_n vout_e band H
theorem impl_EnergiesIn_L2 (b1 : Nat) (b2 : Nat) (c1 : Int) (c2 : Int) (c3_a : Option Addr) (c3_e : Nat) (c3_n : Nat) (g21 : Value) (g22 : Value) (level : Int) (levels : Int) (p_High : Int) (p_Lights_a : Option Addr) (p_Lights_e : Nat) (p_Lights_n : Nat) (p_Wide : Int) (r1 : Bool) (r2 : Bool) {Q : Post} (Inv : Nat → (Option Addr) → Nat → Nat → Int → AHeap → Prop) (ν : Nat) (vout_a : Option Addr) (vout_n : Nat) (vout_e : Nat) (band : Int) (g23 g24 g25 g26 g27 g28 g29 g30 g31 g32 g33 : Value) (H : AHeap) (h0 : Inv ν vout_a vout_n vout_e band H)
    (hs : ∀ (μ : Nat) (vout_a : Option Addr) (vout_n : Nat) (vout_e : Nat) (band : Int) (g23 g24 g25 g26 g27 g28 g29 g30 g31 g32 g33 : Value) (H : AHeap), Inv μ vout_a vout_n vout_e band H → exK Try.prog E_impl_EnergiesIn (cl (cl (cr (cl (cl (cr (cl (cl (cr (cl (cr (cr (cr (bodyC Try.f40)))))))))))))) [.agg #[.int .i64 p_Wide, .int .i64 p_High, .slice p_Lights_a p_Lights_n p_Lights_e], .int .i64 levels, .pointer (some ⟨b1, 0, none⟩), undef, .slice none 0 0, .bool false, .slice vout_a vout_n vout_e, .int .i64 level, .int .i64 band, .agg #[.int .i64 c1, .int .i64 c2, .slice c3_a c3_n c3_e], .bool r1, .bool (!r1), .bool false, .int .i64 levels, .bool r2, .bool (!r2), .bool (!r2), .slice (some ⟨b2, 0, none⟩) 0 1, .int .i64 level, .int .i64 levels, .bool (decide ((level : Int) ≤ levels)), g21, g22, g23, g24, g25, g26, g27, g28, g29, g30, g31, g32, g33, undef, undef, undef, undef, undef, undef, undef, undef, undef] H (loopQ (impl_EnergiesIn_I2 b1 b2 c1 c2 c3_a c3_e c3_n g21 g22 level levels p_High p_Lights_a p_Lights_e p_Lights_n p_Wide r1 r2 Inv) μ Q)) : loopK (exK Try.prog E_impl_EnergiesIn (cl (cl (cr (cl (cl (cr (cl (cl (cr (cl (cr (cr (cr (bodyC Try.f40))))))))))))))) [.agg #[.int .i64 p_Wide, .int .i64 p_High, .slice p_Lights_a p_Lights_n p_Lights_e], .int .i64 levels, .pointer (some ⟨b1, 0, none⟩), undef, .slice none 0 0, .bool false, .slice vout_a vout_n vout_e, .int .i64 level, .int .i64 band, .agg #[.int .i64 c1, .int .i64 c2, .slice c3_a c3_n c3_e], .bool r1, .bool (!r1), .bool false, .int .i64 levels, .bool r2, .bool (!r2), .bool (!r2), .slice (some ⟨b2, 0, none⟩) 0 1, .int .i64 level, .int .i64 levels, .bool (decide ((level : Int) ≤ levels)), g21, g22, g23, g24, g25, g26, g27, g28, g29, g30, g31, g32, g33, undef, undef, undef, undef, undef, undef, undef, undef, undef] H Q :=
  ⟨impl_EnergiesIn_I2 b1 b2 c1 c2 c3_a c3_e c3_n g21 g22 level levels p_High p_Lights_a p_Lights_e p_Lights_n p_Wide r1 r2 Inv, ν, ⟨vout_a, vout_n, vout_e, band, g23, g24, g25, g26, g27, g28, g29, g30, g31, g32, g33, rfl, h0⟩, fun μ tm H h => by obtain ⟨vout_a, vout_n, vout_e, band, g23, g24, g25, g26, g27, g28, g29, g30, g31, g32, g33, rfl, hI⟩ := h; exact hs μ vout_a vout_n vout_e band g23 g24 g25 g26 g27 g28 g29 g30 g31 g32 g33 H hI⟩
theorem impl_EnergiesIn_n2 {b1 : Nat} {b2 : Nat} {c1 : Int} {c2 : Int} {c3_a : Option Addr} {c3_e : Nat} {c3_n : Nat} {g21 : Value} {g22 : Value} {level : Int} {levels : Int} {p_High : Int} {p_Lights_a : Option Addr} {p_Lights_e : Nat} {p_Lights_n : Nat} {p_Wide : Int} {r1 : Bool} {r2 : Bool} {Q : Post} {Inv : Nat → (Option Addr) → Nat → Nat → Int → AHeap → Prop} {μ : Nat} (μ' : Nat) {vout_a : Option Addr} {vout_n : Nat} {vout_e : Nat} {band : Int} {g23 g24 g25 g26 g27 g28 g29 g30 g31 g32 g33 : Value} {H : AHeap} (hm : μ' < μ) (hI : Inv μ' vout_a vout_n vout_e band H) : loopQ (impl_EnergiesIn_I2 b1 b2 c1 c2 c3_a c3_e c3_n g21 g22 level levels p_High p_Lights_a p_Lights_e p_Lights_n p_Wide r1 r2 Inv) μ Q .normal [.agg #[.int .i64 p_Wide, .int .i64 p_High, .slice p_Lights_a p_Lights_n p_Lights_e], .int .i64 levels, .pointer (some ⟨b1, 0, none⟩), undef, .slice none 0 0, .bool false, .slice vout_a vout_n vout_e, .int .i64 level, .int .i64 band, .agg #[.int .i64 c1, .int .i64 c2, .slice c3_a c3_n c3_e], .bool r1, .bool (!r1), .bool false, .int .i64 levels, .bool r2, .bool (!r2), .bool (!r2), .slice (some ⟨b2, 0, none⟩) 0 1, .int .i64 level, .int .i64 levels, .bool (decide ((level : Int) ≤ levels)), g21, g22, g23, g24, g25, g26, g27, g28, g29, g30, g31, g32, g33, undef, undef, undef, undef, undef, undef, undef, undef, undef] H := ⟨μ', hm, vout_a, vout_n, vout_e, band, g23, g24, g25, g26, g27, g28, g29, g30, g31, g32, g33, rfl, hI⟩
theorem impl_EnergiesIn_x2_2 (b1 : Nat) (b2 : Nat) (c1 : Int) (c2 : Int) (c3_a : Option Addr) (c3_e : Nat) (c3_n : Nat) (g21 : Value) (g22 : Value) (level : Int) (levels : Int) (p_High : Int) (p_Lights_a : Option Addr) (p_Lights_e : Nat) (p_Lights_n : Nat) (p_Wide : Int) (r1 : Bool) (r2 : Bool) (vout_a : Option Addr) (vout_n : Nat) (vout_e : Nat) (band : Int) (g23 g24 g25 g26 g27 g28 g29 g30 g31 g32 g33 : Value) (H : AHeap)  (R : Post) {I : Nat → List Value → AHeap → Prop} {μ : Nat} : loopQ I μ (blockQ 2 (blockQ 1 (seqQ (exK Try.prog E_impl_EnergiesIn (cr (cr (cl (cl (cr (cl (cr (cr (cr (bodyC Try.f40))))))))))) (R)))) (.exit 2) [.agg #[.int .i64 p_Wide, .int .i64 p_High, .slice p_Lights_a p_Lights_n p_Lights_e], .int .i64 levels, .pointer (some ⟨b1, 0, none⟩), undef, .slice none 0 0, .bool false, .slice vout_a vout_n vout_e, .int .i64 level, .int .i64 band, .agg #[.int .i64 c1, .int .i64 c2, .slice c3_a c3_n c3_e], .bool r1, .bool (!r1), .bool false, .int .i64 levels, .bool r2, .bool (!r2), .bool (!r2), .slice (some ⟨b2, 0, none⟩) 0 1, .int .i64 level, .int .i64 levels, .bool (decide ((level : Int) ≤ levels)), g21, g22, g23, g24, g25, g26, g27, g28, g29, g30, g31, g32, g33, undef, undef, undef, undef, undef, undef, undef, undef, undef] H =
  (R .normal [.agg #[.int .i64 p_Wide, .int .i64 p_High, .slice p_Lights_a p_Lights_n p_Lights_e], .int .i64 levels, .pointer (some ⟨b1, 0, none⟩), undef, .slice none 0 0, .bool false, .slice vout_a vout_n vout_e, .int .i64 (IntKind.wrap .i64 (level + 1)), .int .i64 band, .agg #[.int .i64 c1, .int .i64 c2, .slice c3_a c3_n c3_e], .bool r1, .bool (!r1), .bool false, .int .i64 levels, .bool r2, .bool (!r2), .bool (!r2), .slice (some ⟨b2, 0, none⟩) 0 1, .int .i64 level, .int .i64 levels, .bool (decide ((level : Int) ≤ levels)), .int .i64 level, .int .i64 (IntKind.wrap .i64 (level + 1)), g23, g24, g25, g26, g27, g28, g29, g30, g31, g32, g33, undef, undef, undef, undef, undef, undef, undef, undef, undef] H) := by kernel_rfl
theorem E_impl_EnergiesIn_ok : ∀ g, FnOk Try.prog g (E_impl_EnergiesIn g) := FnOk.envOf (by
  intro x hx
  simp only [List.mem_cons, List.not_mem_nil, or_false] at hx
  rcases hx with rfl | rfl | rfl | rfl
  · exact impl_ValidPicture_ok
  · exact impl_areLevels_ok
  · exact impl_energyIn_ok
  · exact impl_finiteList_ok)
set_option maxHeartbeats 1000000 in
theorem impl_EnergiesIn_main (p_Wide : Int) (p_High : Int) (p_Lights_a : Option Addr) (p_Lights_n : Nat) (p_Lights_e : Nat) (levels : Int) (H : AHeap) (K : Value → AHeap → Prop) (h : T_impl_EnergiesIn p_Wide p_High p_Lights_a p_Lights_n p_Lights_e levels H fun (r1_a : Option Addr) (r1_n : Nat) (r1_e : Nat) (r2 : Bool) (H' : AHeap) => K (.tuple #[.slice r1_a r1_n r1_e, .bool r2]) H') : bodyK Try.prog E_impl_EnergiesIn Try.f40 [.agg #[.int .i64 p_Wide, .int .i64 p_High, .slice p_Lights_a p_Lights_n p_Lights_e], .int .i64 levels] H K := by
  rw [impl_EnergiesIn_vc]
  obtain ⟨l_p_Lights, i_p_Lights, bd_144, hk⟩ := h
  obtain rfl := i_p_Lights.eqn
  have e : (p_impl_EnergiesIn p_Wide p_High l_p_Lights levels) = _ := rfl
  have e := e.trans (p_impl_EnergiesIn_eq p_Wide p_High l_p_Lights levels)
  have g0 := Grow.refl H
  refine Al.intro (fun b_1 H_1 hb_2 hl_3 g_4 o_5 => ?_)
  have l_7 := g_4.1
  have g_8 := g0.trans g_4
  have l_9 := g_8.1
  have w_143 := o_5.lt
  refine ⟨p_Wide, p_High, p_Lights_a, l_p_Lights.length, p_Lights_e, (o_5.rdN (Nat.le_of_ble_eq_true rfl)).trans rfl, ?_⟩
  refine T_impl_ValidPicture_i ⟨_, (i_p_Lights.grow g_8), (by first | omega | (simp only [List.length_set, List.length_replicate, List.length_append, List.length_cons, List.length_nil, List.length_take, List.length_drop, marks_length]; done) | (simp only [List.length_set, List.length_replicate, List.length_append, List.length_cons, List.length_nil, List.length_take, List.length_drop, marks_length]; omega)), fun  H_2 g_10  => ?_⟩
  have l_11 := g_10.1
  have g_12 := g_8.trans g_10
  have l_13 := g_12.1
  have o_14 := o_5.grow g_10
  have w_15 := o_14.lt
  refine Br.intro (fun c_16 => ?_) (fun c_16 => ?_)
  · have e := e.trans (cond_t c_16)
    have c_16n := nf_of_t c_16
    rw [e] at hk
    exact hk _ _ _ H_2 g_12 (OwnS.nil _ _ _ _)
  · have e := e.trans (cond_f c_16)
    have c_16n := nt_of_f c_16
    have c_16n' := impl_ValidPicture_t c_16n
    refine T_impl_areLevels_i ?_
    refine Br.intro (fun c_17 => ?_) (fun c_17 => ?_)
    · have e := e.trans (cond_t c_17)
      have c_17n := nf_of_t c_17
      rw [e] at hk
      exact hk _ _ _ H_2 g_12 (OwnS.nil _ _ _ _)
    · have e := e.trans (cond_f c_17)
      have c_17n := nt_of_f c_17
      have c_17n' := impl_areLevels_t c_17n
      refine Al.intro (fun b_18 H_3 hb_19 hl_20 g_21 o_22 => ?_)
      have o_22 : Own H_3 b_18 ((([] : List Nat)).map fF) := o_22
      have l_24 := g_21.1
      have g_25 := g_12.trans g_21
      have l_26 := g_25.1
      have o_27 := o_14.grow g_21
      have w_28 := o_27.lt
      have w_142 := o_22.lt
      refine impl_EnergiesIn_L1 _ _ _ _ _ _ _ _ _ _ _ _ _ _ _ (fun (μ : Nat) (vout_a : Option Addr) (vout_n : Nat) (vout_e : Nat) (level : Int) (H_4 : AHeap) => ∃ (l_vout : List Nat), ∃ (b_29 : Nat), vout_a = some ⟨b_29, 0, none⟩ ∧ vout_n = l_vout.length ∧ vout_e = 1 ∧ Own H_4 b_29 (l_vout.map fF) ∧ Own H_4 b_1 ([.int .i64 p_Wide, .int .i64 p_High, .slice p_Lights_a l_p_Lights.length p_Lights_e]) ∧ (b_29 ≠ b_1) ∧ Grow H H_4 ∧ H.length ≤ b_29 ∧ (1 : Int) ≤ level ∧ ((level ≤ levels + 1 ∨ level ≤ (1 : Int))) ∧ (l_vout.length : Int) ≤ 3 * (level - 1) ∧ levels - level + 1 ≤ (μ : Int) ∧ p_impl_EnergiesIn p_Wide p_High l_p_Lights levels = p_impl_EnergiesIn_l1 p_Wide p_High l_p_Lights levels (μ + 1) l_vout level) (Int.toNat (levels - (1 : Int) + 1)) _ _ _ _ _ _ _ _ _ _ _ _ _ _ _ _ _ _ _ _ _ H_3 ?_ ?_
      · exact ⟨_, _, rfl, (by first | rfl | omega | (simp only [List.length_set]; done) | (simp only [List.length_set, List.length_replicate]; omega)), rfl, o_22, o_27, (by omega), g_25, (by omega), (by first | omega | (simp; done) | (simp; omega)), (by first | omega | (simp; done) | (simp; omega)), (by first | omega | (simp; done) | (simp; omega)), (by omega), e⟩
      · intro μ vout_a vout_n vout_e level g8 g18 g19 g20 g21 g22 g23 g24 g25 g26 g27 g28 g29 g30 g31 g32 g33 H_4 hI
        obtain ⟨l_vout, b_29, rfl, rfl, rfl, o_30, o_31, n_32, g_33, l_34, v_35, v_36, v_37, hμ, e⟩ := hI
        rw [impl_EnergiesIn_r1]
        have e := e.trans (p_impl_EnergiesIn_l1_s p_Wide p_High l_p_Lights levels μ l_vout level)
        have w_38 := o_31.lt
        have w_39 := o_30.lt
        have l_40 := g_33.1
        refine Br.intro (fun c_41 => ?_) (fun c_41 => ?_)
        · have e := e.trans (cond_t c_41)
          have c_41' := of_decide_eq_true c_41
          refine impl_EnergiesIn_L2 _ _ _ _ _ _ _ _ _ _ _ _ _ _ _ _ _ _ (fun (μ2 : Nat) (vout_a : Option Addr) (vout_n : Nat) (vout_e : Nat) (band : Int) (H_5 : AHeap) => ∃ (l_vout_2 : List Nat), ∃ (b_42 : Nat), vout_a = some ⟨b_42, 0, none⟩ ∧ vout_n = l_vout_2.length ∧ vout_e = 1 ∧ Own H_5 b_42 (l_vout_2.map fF) ∧ Own H_5 b_1 ([.int .i64 p_Wide, .int .i64 p_High, .slice p_Lights_a l_p_Lights.length p_Lights_e]) ∧ (b_42 ≠ b_1) ∧ Grow H H_5 ∧ H.length ≤ b_42 ∧ (1 : Int) ≤ band ∧ ((band ≤ 3 + 1 ∨ band ≤ (1 : Int))) ∧ (l_vout_2.length : Int) ≤ 3 * (level - 1) + band - 1 ∧ 3 - band + 1 ≤ (μ2 : Int) ∧ p_impl_EnergiesIn p_Wide p_High l_p_Lights levels = p_impl_EnergiesIn_l2 p_Wide p_High l_p_Lights levels l_vout level (fun (l_vout_2 : List Nat) (band : Int) => (p_impl_EnergiesIn_l1 p_Wide p_High l_p_Lights levels μ l_vout_2 (level + 1))) (μ2 + 1) l_vout_2 band) (Int.toNat (3 - (1 : Int) + 1)) _ _ _ _ _ _ _ _ _ _ _ _ _ _ _ H_4 ?_ ?_
          · exact ⟨_, _, rfl, (by first | rfl | omega | (simp only [List.length_set]; done) | (simp only [List.length_set, List.length_replicate]; omega)), rfl, o_30, o_31, (by omega), g_33, (by omega), (by first | omega | (simp; done) | (simp; omega)), (by first | omega | (simp; done) | (simp; omega)), (by first | omega | (simp; done) | (simp; omega)), (by omega), e⟩
          · intro μ2 vout_a vout_n vout_e band g23 g24 g25 g26 g27 g28 g29 g30 g31 g32 g33 H_5 hI
            obtain ⟨l_vout_2, b_42, rfl, rfl, rfl, o_43, o_44, n_45, g_46, l_47, v_48, v_49, v_50, hμ, e⟩ := hI
            rw [impl_EnergiesIn_r2]
            have e := e.trans (p_impl_EnergiesIn_l2_s p_Wide p_High l_p_Lights levels l_vout level (fun (l_vout_2 : List Nat) (band : Int) => (p_impl_EnergiesIn_l1 p_Wide p_High l_p_Lights levels μ l_vout_2 (level + 1))) μ2 l_vout_2 band)
            have w_51 := o_44.lt
            have w_52 := o_43.lt
            have l_53 := g_46.1
            refine Br.intro (fun c_54 => ?_) (fun c_54 => ?_)
            · have e := e.trans (cond_t c_54)
              have c_54' := of_decide_eq_true c_54
              refine ⟨p_Wide, p_High, p_Lights_a, l_p_Lights.length, p_Lights_e, (o_44.rdN (Nat.le_of_ble_eq_true rfl)).trans rfl, ?_⟩
              refine T_impl_energyIn_i ⟨_, (i_p_Lights.grow g_46), (by first | omega | (simp only [List.length_set, List.length_replicate, List.length_append, List.length_cons, List.length_nil, List.length_take, List.length_drop, marks_length]; done) | (simp only [List.length_set, List.length_replicate, List.length_append, List.length_cons, List.length_nil, List.length_take, List.length_drop, marks_length]; omega)), fun  H_6 g_55  => ?_⟩
              have l_56 := g_55.1
              have g_57 := g_46.trans g_55
              have l_58 := g_57.1
              have o_59 := o_44.grow g_55
              have w_60 := o_59.lt
              have o_61 := o_43.grow g_55
              have w_62 := o_61.lt
              refine Al.intro (fun b_63 H_7 hb_64 hl_65 g_66 o_67 => ?_)
              have o_67 : Own H_7 b_63 (([(p_impl_energyIn p_Wide p_High l_p_Lights level band)]).map fF) := o_67
              have l_69 := g_66.1
              have g_70 := g_57.trans g_66
              have l_71 := g_70.1
              have o_72 := o_59.grow g_66
              have w_73 := o_72.lt
              have o_74 := o_61.grow g_66
              have w_75 := o_74.lt
              have w_90 := o_67.lt
              refine ⟨_, _, o_74.ownB (by first | (simp only [List.length_map, List.length_cons, List.length_nil, List.length_append]; done) | (simp only [List.length_map, List.length_cons, List.length_nil, List.length_append]; omega)) rfl, (isl_rdS (o_67.isL (by first | rfl | omega | (simp only [List.length_set]; done) | (simp only [List.length_set, List.length_replicate]; omega)))), (fun h => by cases h), (by have := most_eq; omega), ?_⟩
              refine Ap.app o_74 rfl rfl (fun b_80 H_8 q_88 hl_76 o_77 k_78 => ?_)
              have o_77 := map_snoc o_77
              have l_81 := k_78.1
              have g_82 := g_70.keep (b := b_42) (by omega) k_78
              have l_83 := g_82.1
              have o_84 := o_72.keep (by omega) k_78
              have w_85 := o_84.lt
              have o_86 := o_67.keep (by omega) k_78
              have w_87 := o_86.lt
              have w_89 := o_77.lt
              rw [show IntKind.wrap .i64 (band + 1) = (band + 1) from wrap64 (by omega) (by omega)]
              refine impl_EnergiesIn_n2 (μ2 - 1) (by first | omega) ⟨_, _, rfl, (by first | (simp only [List.length_append, List.length_cons, List.length_nil]; done) | (simp only [List.length_append, List.length_cons, List.length_nil]; omega) | (simp only [List.length_append, List.length_cons, List.length_nil, List.length_take, List.length_drop]; omega)), rfl, o_77, o_84, (by omega), g_82, (by omega), (by first | omega | (simp only [List.length_append, List.length_cons, List.length_nil, List.length_set]; done) | (simp only [List.length_append, List.length_cons, List.length_nil, List.length_set]; omega)), (by first | omega | (simp only [List.length_append, List.length_cons, List.length_nil, List.length_set]; done) | (simp only [List.length_append, List.length_cons, List.length_nil, List.length_set]; omega)), (by first | omega | (simp only [List.length_append, List.length_cons, List.length_nil, List.length_set]; done) | (simp only [List.length_append, List.length_cons, List.length_nil, List.length_set]; omega)), (by first | omega), (by rw [show μ2 - 1 + 1 = μ2 from by first | omega]; exact e)⟩
            · have e := e.trans (cond_f c_54)
              have c_54' := of_decide_eq_false c_54
              rw [impl_EnergiesIn_x2_2]
              rw [show IntKind.wrap .i64 (level + 1) = (level + 1) from wrap64 (by omega) (by omega)]
              refine impl_EnergiesIn_n1 (μ - 1) (by first | omega) ⟨_, _, rfl, (by first | rfl | omega | (simp only [List.length_set]; done) | (simp only [List.length_set, List.length_replicate]; omega)), rfl, o_43, o_44, (by omega), g_46, (by omega), (by first | omega | (simp only [List.length_append, List.length_cons, List.length_nil, List.length_set]; done) | (simp only [List.length_append, List.length_cons, List.length_nil, List.length_set]; omega)), (by first | omega | (simp only [List.length_append, List.length_cons, List.length_nil, List.length_set]; done) | (simp only [List.length_append, List.length_cons, List.length_nil, List.length_set]; omega)), (by first | omega | (simp only [List.length_append, List.length_cons, List.length_nil, List.length_set]; done) | (simp only [List.length_append, List.length_cons, List.length_nil, List.length_set]; omega)), (by first | omega), (by rw [show μ - 1 + 1 = μ from by first | omega]; exact e)⟩
        · have e := e.trans (cond_f c_41)
          have c_41' := of_decide_eq_false c_41
          rw [impl_EnergiesIn_x1_0]
          refine ⟨p_Wide, p_High, p_Lights_a, l_p_Lights.length, p_Lights_e, (o_31.rdN (Nat.le_of_ble_eq_true rfl)).trans rfl, ?_⟩
          refine T_impl_energyIn_i ⟨_, (i_p_Lights.grow g_33), (by first | omega | (simp only [List.length_set, List.length_replicate, List.length_append, List.length_cons, List.length_nil, List.length_take, List.length_drop, marks_length]; done) | (simp only [List.length_set, List.length_replicate, List.length_append, List.length_cons, List.length_nil, List.length_take, List.length_drop, marks_length]; omega)), fun  H_9 g_91  => ?_⟩
          have l_92 := g_91.1
          have g_93 := g_33.trans g_91
          have l_94 := g_93.1
          have o_95 := o_31.grow g_91
          have w_96 := o_95.lt
          have o_97 := o_30.grow g_91
          have w_98 := o_97.lt
          refine Al.intro (fun b_99 H_10 hb_100 hl_101 g_102 o_103 => ?_)
          have o_103 : Own H_10 b_99 (([((p_impl_energyIn p_Wide p_High l_p_Lights levels (0 : Int)))]).map fF) := o_103
          have l_105 := g_102.1
          have g_106 := g_93.trans g_102
          have l_107 := g_106.1
          have o_108 := o_95.grow g_102
          have w_109 := o_108.lt
          have o_110 := o_97.grow g_102
          have w_111 := o_110.lt
          have w_141 := o_103.lt
          refine ⟨_, _, o_110.ownB (by first | (simp only [List.length_map, List.length_cons, List.length_nil, List.length_append]; done) | (simp only [List.length_map, List.length_cons, List.length_nil, List.length_append]; omega)) rfl, (isl_rdS (o_103.isL (by first | rfl | omega | (simp only [List.length_set]; done) | (simp only [List.length_set, List.length_replicate]; omega)))), (fun h => by cases h), (by have := most_eq; omega), ?_⟩
          refine Ap.app o_110 rfl rfl (fun b_116 H_11 q_139 hl_112 o_113 k_114 => ?_)
          have o_113 := map_snoc o_113
          have l_117 := k_114.1
          have g_118 := g_106.keep (b := b_29) (by omega) k_114
          have l_119 := g_118.1
          have o_120 := o_108.keep (by omega) k_114
          have w_121 := o_120.lt
          have o_122 := o_103.keep (by omega) k_114
          have w_123 := o_122.lt
          have w_140 := o_113.lt
          refine T_impl_finiteList_i ⟨_, (o_113.isL (by first | (simp only [List.length_append, List.length_cons, List.length_nil]; done) | (simp only [List.length_append, List.length_cons, List.length_nil]; omega) | (simp only [List.length_append, List.length_cons, List.length_nil, List.length_take, List.length_drop]; omega))), (by first | omega | (simp only [List.length_set, List.length_replicate, List.length_append, List.length_cons, List.length_nil, List.length_take, List.length_drop, marks_length]; done) | (simp only [List.length_set, List.length_replicate, List.length_append, List.length_cons, List.length_nil, List.length_take, List.length_drop, marks_length]; omega)), (fun H_12 g_128 => ?_)⟩
          have l_130 := g_128.1
          have g_131 := g_118.trans g_128
          have l_132 := g_131.1
          have o_133 := o_120.grow g_128
          have w_134 := o_133.lt
          have o_135 := o_122.grow g_128
          have w_136 := o_135.lt
          have o_137 := o_113.grow g_128
          have w_138 := o_137.lt
          refine Br.intro (fun c_129 => ?_) (fun c_129 => ?_)
          · have e := e.trans (cond_t c_129)
            rw [e] at hk
            exact hk _ _ _ H_12 g_131 (o_137.ownS (by first | (simp only [List.length_append, List.length_cons, List.length_nil]; done) | (simp only [List.length_append, List.length_cons, List.length_nil]; omega) | (simp only [List.length_append, List.length_cons, List.length_nil, List.length_take, List.length_drop]; omega)) (by omega))
          · have e := e.trans (cond_f c_129)
            rw [e] at hk
            exact hk _ _ _ H_12 g_131 (OwnS.nil _ _ _ _)
theorem impl_EnergiesIn_ok : FnOk Try.prog 40 S_impl_EnergiesIn := by
  refine FnOk.body mix_ok E_impl_EnergiesIn_ok Try.func40 rfl (by kernel_rfl) (by kernel_rfl) ?_ ?_ ?_ ?_ ?_
  · intro args H K K' h hk
    simp only [S_impl_EnergiesIn] at *
    unfold F_impl_EnergiesIn at *
    split at hk
    · obtain ⟨l_p_Lights, i_p_Lights, bd_144, k⟩ := hk
      exact ⟨l_p_Lights, i_p_Lights, bd_144, (fun r1_a r1_n r1_e H' gg ow0 => h _ _ (k r1_a r1_n r1_e H' gg ow0))⟩
    · exact hk.elim
  · intro hq; cases hq
  · intro args H K hk
    simp only [S_impl_EnergiesIn] at *
    unfold F_impl_EnergiesIn at *
    split at hk
    · obtain ⟨l_p_Lights, i_p_Lights, bd_144, k⟩ := hk
      exact liveS fun a n e H1 g o => ⟨_, _, k a n e H1 g o⟩
    · exact hk.elim
  · intro _ args H K hk
    simp only [S_impl_EnergiesIn] at *
    unfold F_impl_EnergiesIn at *
    split at hk
    · obtain ⟨l_p_Lights, i_p_Lights, bd_144, k⟩ := hk
      exact ⟨l_p_Lights, i_p_Lights, bd_144, (fun r1_a r1_n r1_e H' gg ow0 => ⟨gg, k r1_a r1_n r1_e H' gg ow0⟩)⟩
    · exact hk.elim
  · have mm := @impl_EnergiesIn_main
    revert mm
    generalize bodyK Try.prog E_impl_EnergiesIn Try.f40 = Q
    intro mm args H K hk
    simp only [S_impl_EnergiesIn] at *
    unfold F_impl_EnergiesIn at *
    split at hk
    · exact mm _ _ _ _ _ _ H K hk
    · exact hk.elim
def p_laws_sameFloat (a : Nat) (b : Nat) : Bool := ((bif !(feq .f64 a a) then (bif !(feq .f64 a a) then !(feq .f64 b b) else false) else (bif !(feq .f64 b b) then (bif !(feq .f64 a a) then !(feq .f64 b b) else false) else (bif feq .f64 a 0 then (bif feq .f64 b 0 then (flt .f64 0 (fdiv .f64 4607182418800017408 a)) == (flt .f64 0 (fdiv .f64 4607182418800017408 b)) else feq .f64 a b) else feq .f64 a b))))
theorem p_laws_sameFloat_eq (a : Nat) (b : Nat) : p_laws_sameFloat a b = ((bif !(feq .f64 a a) then (bif !(feq .f64 a a) then !(feq .f64 b b) else false) else (bif !(feq .f64 b b) then (bif !(feq .f64 a a) then !(feq .f64 b b) else false) else (bif feq .f64 a 0 then (bif feq .f64 b 0 then (flt .f64 0 (fdiv .f64 4607182418800017408 a)) == (flt .f64 0 (fdiv .f64 4607182418800017408 b)) else feq .f64 a b) else feq .f64 a b)))) := rfl
def T_laws_sameFloat (a : Nat) (b : Nat) (H : AHeap) (K : Bool → AHeap → Prop) : Prop := K (p_laws_sameFloat a b) H

theorem T_laws_sameFloat_i {a : Nat} {b : Nat} {H : AHeap} {K : Bool → AHeap → Prop} (h : K (p_laws_sameFloat a b) H) : T_laws_sameFloat a b H K := h
/-! laws_sameFloat: function 18 -/
def E_laws_sameFloat : Env := envOf []
def F_laws_sameFloat : List Value → AHeap → (Value → AHeap → Prop) → Prop
  | [.float .f64 a, .float .f64 b], H, K => T_laws_sameFloat a b H fun (r1 : Bool) (H' : AHeap) => K (.bool r1) H'
  | _, _, _ => False
def S_laws_sameFloat : FSpec := { F := F_laws_sameFloat, quiet := true, tame := false }
theorem laws_sameFloat_vc (a : Nat) (b : Nat) (H : AHeap) (K : Value → AHeap → Prop) : bodyK Try.prog E_laws_sameFloat Try.f18 [.float .f64 a, .float .f64 b] H K =
  (Br (!(feq .f64 a a)) (Br (!(feq .f64 a a)) (K (.bool (!(feq .f64 b b))) H) (K (.bool false) H)) (Br (!(feq .f64 b b)) (Br (!(feq .f64 a a)) (K (.bool (!(feq .f64 b b))) H) (K (.bool false) H)) (Br (feq .f64 a 0) (Br (feq .f64 b 0) (K (.bool ((flt .f64 0 (fdiv .f64 4607182418800017408 a)) == (flt .f64 0 (fdiv .f64 4607182418800017408 b)))) H) (K (.bool (feq .f64 a b)) H)) (K (.bool (feq .f64 a b)) H)))) := by kernel_rfl
theorem E_laws_sameFloat_ok : ∀ g, FnOk Try.prog g (E_laws_sameFloat g) := FnOk.envOf (by
  intro x hx; cases hx)
set_option maxHeartbeats 1000000 in
theorem laws_sameFloat_main (a : Nat) (b : Nat) (H : AHeap) (K : Value → AHeap → Prop) (h : T_laws_sameFloat a b H fun (r1 : Bool) (H' : AHeap) => K (.bool r1) H') : bodyK Try.prog E_laws_sameFloat Try.f18 [.float .f64 a, .float .f64 b] H K := by
  rw [laws_sameFloat_vc]
  unfold T_laws_sameFloat p_laws_sameFloat at h
  repeat' (first | exact h | (exfalso; simp_all; done) | (refine ⟨by decide, ?_⟩) | (refine Br.intro (fun hb => ?_) (fun hb => ?_) <;> (try simp only [hb, cond_true, cond_false, Bool.not_true, Bool.not_false] at h)))
theorem laws_sameFloat_ok : FnOk Try.prog 18 S_laws_sameFloat := by
  refine FnOk.body mix_ok E_laws_sameFloat_ok Try.func18 rfl (by kernel_rfl) (by kernel_rfl) ?_ ?_ ?_ ?_ ?_
  · intro args H K K' h hk
    simp only [S_laws_sameFloat] at *
    unfold F_laws_sameFloat at *
    split at hk
    · have k := hk
      exact h _ _ k
    · exact hk.elim
  · intro _ args H K hk
    simp only [S_laws_sameFloat] at *
    unfold F_laws_sameFloat at *
    split at hk
    · have k := hk
      exact ⟨_, k, fun K' k' => k'⟩
    · exact hk.elim
  · intro args H K hk
    simp only [S_laws_sameFloat] at *
    unfold F_laws_sameFloat at *
    split at hk
    · have k := hk
      exact ⟨_, _, k⟩
    · exact hk.elim
  · intro hq; cases hq
  · have mm := @laws_sameFloat_main
    revert mm
    generalize bodyK Try.prog E_laws_sameFloat Try.f18 = Q
    intro mm args H K hk
    simp only [S_laws_sameFloat] at *
    unfold F_laws_sameFloat at *
    split at hk
    · exact mm _ _ H K hk
    · exact hk.elim

def p_laws_eqFloat32S_l1 (l_a : List Nat) (l_b : List Nat) : Nat → Bool → Int → Bool
  | 0, _, _ => false
  | μ + 1, t4, i => (bif decide ((i : Int) < (l_a.length : Int)) then (bif !((p_laws_sameFloat (fwide (((l_a).getD (i : Int).toNat 0))) (fwide (((l_b).getD (i : Int).toNat 0))))) then false else (p_laws_eqFloat32S_l1 l_a l_b μ t4 (i + 1))) else true)
theorem p_laws_eqFloat32S_l1_s (l_a : List Nat) (l_b : List Nat) (μ : Nat) (t4 : Bool) (i : Int) : p_laws_eqFloat32S_l1 l_a l_b (μ + 1) t4 i = (bif decide ((i : Int) < (l_a.length : Int)) then (bif !((p_laws_sameFloat (fwide (((l_a).getD (i : Int).toNat 0))) (fwide (((l_b).getD (i : Int).toNat 0))))) then false else (p_laws_eqFloat32S_l1 l_a l_b μ t4 (i + 1))) else true) := rfl
def p_laws_eqFloat32S (l_a : List Nat) (l_b : List Nat) : Bool := ((bif ((l_a.length : Int) : Int) != (l_b.length : Int) then false else (p_laws_eqFloat32S_l1 l_a l_b (Int.toNat ((l_a.length : Int) - (0 : Int)) + 1) false (0 : Int))))
theorem p_laws_eqFloat32S_eq (l_a : List Nat) (l_b : List Nat) : p_laws_eqFloat32S l_a l_b = ((bif ((l_a.length : Int) : Int) != (l_b.length : Int) then false else (p_laws_eqFloat32S_l1 l_a l_b (Int.toNat ((l_a.length : Int) - (0 : Int)) + 1) false (0 : Int)))) := rfl
def T_laws_eqFloat32S (a_a : Option Addr) (a_n : Nat) (a_e : Nat) (b_a : Option Addr) (b_n : Nat) (b_e : Nat) (H : AHeap) (K : Bool → AHeap → Prop) : Prop := ∃ (l_a : List Nat), ∃ (l_b : List Nat), IsL fF H a_a a_n l_a ∧ IsL fF H b_a b_n l_b ∧ l_a.length < 1073741824 ∧ l_b.length < 1073741824 ∧ K (p_laws_eqFloat32S l_a l_b) H
theorem T_laws_eqFloat32S_i {a_a : Option Addr} {a_n : Nat} {a_e : Nat} {b_a : Option Addr} {b_n : Nat} {b_e : Nat} {H : AHeap} {K : Bool → AHeap → Prop} (h : ∃ (l_a : List Nat), ∃ (l_b : List Nat), IsL fF H a_a a_n l_a ∧ IsL fF H b_a b_n l_b ∧ l_a.length < 1073741824 ∧ l_b.length < 1073741824 ∧ K (p_laws_eqFloat32S l_a l_b) H) : T_laws_eqFloat32S a_a a_n a_e b_a b_n b_e H K := h
theorem laws_sameFloat_self (y : Nat) : p_laws_sameFloat y y = true := by
  rw [p_laws_sameFloat_eq]
  cases feq .f64 y y <;> simp
theorem laws_eqFloat32S_go (l : List Nat) : ∀ (μ : Nat) (t : Bool) (i : Nat), l.length - i < μ → p_laws_eqFloat32S_l1 l l μ t (i : Int) = true := by
  intro μ
  induction μ with
  | zero => intro t i h; omega
  | succ μ ih =>
    intro t i hm
    rw [p_laws_eqFloat32S_l1_s]
    by_cases h : i < l.length
    · rw [decide_eq_true (show (i : Int) < (l.length : Int) by omega), cond_true, laws_sameFloat_self]
      simp only [Bool.not_true, cond_false]
      exact ih t (i + 1) (by omega)
    · rw [decide_eq_false (show ¬ (i : Int) < (l.length : Int) by omega), cond_false]
theorem laws_eqFloat32S_self (l : List Nat) : p_laws_eqFloat32S l l = true := by
  rw [p_laws_eqFloat32S_eq]
  have h0 : ((l.length : Int) != (l.length : Int)) = false := by simp
  rw [h0, cond_false]
  exact laws_eqFloat32S_go l _ false 0 (by omega)
/-! laws_eqFloat32S: function 19 -/
def E_laws_eqFloat32S : Env := envOf [(18, S_laws_sameFloat)]
def F_laws_eqFloat32S : List Value → AHeap → (Value → AHeap → Prop) → Prop
  | [.slice a_a a_n a_e, .slice b_a b_n b_e], H, K => T_laws_eqFloat32S a_a a_n a_e b_a b_n b_e H fun (r1 : Bool) (H' : AHeap) => K (.bool r1) H'
  | _, _, _ => False
def S_laws_eqFloat32S : FSpec := { F := F_laws_eqFloat32S, quiet := true, tame := false }
theorem laws_eqFloat32S_vc (a_a : Option Addr) (a_n : Nat) (a_e : Nat) (b_a : Option Addr) (b_n : Nat) (b_e : Nat) (H : AHeap) (K : Value → AHeap → Prop) : bodyK Try.prog E_laws_eqFloat32S Try.f19 [.slice a_a a_n a_e, .slice b_a b_n b_e] H K =
  (Br (((a_n : Int) : Int) != (b_n : Int)) (K (.bool false) H) (loopK (exK Try.prog E_laws_eqFloat32S (cl (cl (cr (cl (cr (cr (bodyC Try.f19)))))))) [.slice a_a a_n a_e, .slice b_a b_n b_e, undef, undef, .bool false, .int .i64 0, .slice a_a a_n a_e, .int .i64 (a_n : Int), .slice b_a b_n b_e, .int .i64 (b_n : Int), .bool (((a_n : Int) : Int) != (b_n : Int)), undef, undef, undef, undef, undef, undef, undef, undef, undef, undef, undef, undef, undef, undef, undef, undef, undef, undef] H (blockQ 0 (seqQ (exK Try.prog E_laws_eqFloat32S (cr (cr (cr (bodyC Try.f19))))) (retK Try.prog Try.f19 K))))) := by kernel_rfl
theorem laws_eqFloat32S_r1 (a_a : Option Addr) (a_e : Nat) (a_n : Nat) (b_a : Option Addr) (b_e : Nat) (b_n : Nat) (t4 : Bool) (i : Int) (g11 g12 g13 g14 g15 g16 g17 g18 g19 g20 g21 g22 g23 g24 g25 g26 g27 g28 : Value) (H : AHeap) (R : Post) : exK Try.prog E_laws_eqFloat32S (cl (cl (cr (cl (cr (cr (bodyC Try.f19))))))) [.slice a_a a_n a_e, .slice b_a b_n b_e, undef, undef, .bool t4, .int .i64 i, .slice a_a a_n a_e, .int .i64 (a_n : Int), .slice b_a b_n b_e, .int .i64 (b_n : Int), .bool (((a_n : Int) : Int) != (b_n : Int)), g11, g12, g13, g14, g15, g16, g17, g18, g19, g20, g21, g22, g23, g24, g25, g26, g27, g28] H R =
  (Br (decide ((i : Int) < (a_n : Int))) ((0 : Int) ≤ i ∧ i < (a_n : Int) ∧ ∃ b1 f1, (a_a : Option Addr) = some ⟨b1, f1, none⟩ ∧ ∃ x1 : Nat,  rdC H b1 (f1 + (i : Int).toNat * 1) = some (.float .f32 x1) ∧ (0 : Int) ≤ i ∧ i < (b_n : Int) ∧ ∃ b2 f2, (b_a : Option Addr) = some ⟨b2, f2, none⟩ ∧ ∃ x2 : Nat,  rdC H b2 (f2 + (i : Int).toNat * 1) = some (.float .f32 x2) ∧ T_laws_sameFloat (fwide x1) (fwide x2) H fun (r1 : Bool) (H1 : AHeap) => Br (!r1) (R .ret [.slice a_a a_n a_e, .slice b_a b_n b_e, undef, undef, .bool false, .int .i64 i, .slice a_a a_n a_e, .int .i64 (a_n : Int), .slice b_a b_n b_e, .int .i64 (b_n : Int), .bool (((a_n : Int) : Int) != (b_n : Int)), .int .i64 i, .slice a_a a_n a_e, .int .i64 (a_n : Int), .bool (decide ((i : Int) < (a_n : Int))), g15, g16, .slice a_a a_n a_e, .int .i64 i, .pointer (some ⟨b1, f1 + (i : Int).toNat * 1, none⟩), .float .f32 x1, .float .f64 (fwide x1), .slice b_a b_n b_e, .int .i64 i, .pointer (some ⟨b2, f2 + (i : Int).toNat * 1, none⟩), .float .f32 x2, .float .f64 (fwide x2), .bool r1, .bool (!r1)] H1) (R .normal [.slice a_a a_n a_e, .slice b_a b_n b_e, undef, undef, .bool t4, .int .i64 (IntKind.wrap .i64 (i + 1)), .slice a_a a_n a_e, .int .i64 (a_n : Int), .slice b_a b_n b_e, .int .i64 (b_n : Int), .bool (((a_n : Int) : Int) != (b_n : Int)), .int .i64 i, .slice a_a a_n a_e, .int .i64 (a_n : Int), .bool (decide ((i : Int) < (a_n : Int))), .int .i64 i, .int .i64 (IntKind.wrap .i64 (i + 1)), .slice a_a a_n a_e, .int .i64 i, .pointer (some ⟨b1, f1 + (i : Int).toNat * 1, none⟩), .float .f32 x1, .float .f64 (fwide x1), .slice b_a b_n b_e, .int .i64 i, .pointer (some ⟨b2, f2 + (i : Int).toNat * 1, none⟩), .float .f32 x2, .float .f64 (fwide x2), .bool r1, .bool (!r1)] H1)) (R (.exit 0) [.slice a_a a_n a_e, .slice b_a b_n b_e, undef, undef, .bool t4, .int .i64 i, .slice a_a a_n a_e, .int .i64 (a_n : Int), .slice b_a b_n b_e, .int .i64 (b_n : Int), .bool (((a_n : Int) : Int) != (b_n : Int)), .int .i64 i, .slice a_a a_n a_e, .int .i64 (a_n : Int), .bool (decide ((i : Int) < (a_n : Int))), g15, g16, g17, g18, g19, g20, g21, g22, g23, g24, g25, g26, g27, g28] H)) := by kernel_rfl
def laws_eqFloat32S_I1 (a_a : Option Addr) (a_e : Nat) (a_n : Nat) (b_a : Option Addr) (b_e : Nat) (b_n : Nat) (Inv : Nat → Bool → Int → AHeap → Prop) : Nat → List Value → AHeap → Prop := fun μ tm H => ∃ (t4 : Bool), ∃ (i : Int), ∃ g11 g12 g13 g14 g15 g16 g17 g18 g19 g20 g21 g22 g23 g24 g25 g26 g27 g28, tm = [.slice a_a a_n a_e, .slice b_a b_n b_e, undef, undef, .bool t4, .int .i64 i, .slice a_a a_n a_e, .int .i64 (a_n : Int), .slice b_a b_n b_e, .int .i64 (b_n : Int), .bool (((a_n : Int) : Int) != (b_n : Int)), g11, g12, g13, g14, g15, g16, g17, g18, g19, g20, g21, g22, g23, g24, g25, g26, g27, g28] ∧ Inv μ t4 i H
theorem laws_eqFloat32S_L1 (a_a : Option Addr) (a_e : Nat) (a_n : Nat) (b_a : Option Addr) (b_e : Nat) (b_n : Nat) {Q : Post} (Inv : Nat → Bool → Int → AHeap → Prop) (ν : Nat) (t4 : Bool) (i : Int) (g11 g12 g13 g14 g15 g16 g17 g18 g19 g20 g21 g22 g23 g24 g25 g26 g27 g28 : Value) (H : AHeap) (h0 : Inv ν t4 i H)
    (hs : ∀ (μ : Nat) (t4 : Bool) (i : Int) (g11 g12 g13 g14 g15 g16 g17 g18 g19 g20 g21 g22 g23 g24 g25 g26 g27 g28 : Value) (H : AHeap), Inv μ t4 i H → exK Try.prog E_laws_eqFloat32S (cl (cl (cr (cl (cr (cr (bodyC Try.f19))))))) [.slice a_a a_n a_e, .slice b_a b_n b_e, undef, undef, .bool t4, .int .i64 i, .slice a_a a_n a_e, .int .i64 (a_n : Int), .slice b_a b_n b_e, .int .i64 (b_n : Int), .bool (((a_n : Int) : Int) != (b_n : Int)), g11, g12, g13, g14, g15, g16, g17, g18, g19, g20, g21, g22, g23, g24, g25, g26, g27, g28] H (loopQ (laws_eqFloat32S_I1 a_a a_e a_n b_a b_e b_n Inv) μ Q)) : loopK (exK Try.prog E_laws_eqFloat32S (cl (cl (cr (cl (cr (cr (bodyC Try.f19)))))))) [.slice a_a a_n a_e, .slice b_a b_n b_e, undef, undef, .bool t4, .int .i64 i, .slice a_a a_n a_e, .int .i64 (a_n : Int), .slice b_a b_n b_e, .int .i64 (b_n : Int), .bool (((a_n : Int) : Int) != (b_n : Int)), g11, g12, g13, g14, g15, g16, g17, g18, g19, g20, g21, g22, g23, g24, g25, g26, g27, g28] H Q :=
  ⟨laws_eqFloat32S_I1 a_a a_e a_n b_a b_e b_n Inv, ν, ⟨t4, i, g11, g12, g13, g14, g15, g16, g17, g18, g19, g20, g21, g22, g23, g24, g25, g26, g27, g28, rfl, h0⟩, fun μ tm H h => by obtain ⟨t4, i, g11, g12, g13, g14, g15, g16, g17, g18, g19, g20, g21, g22, g23, g24, g25, g26, g27, g28, rfl, hI⟩ := h; exact hs μ t4 i g11 g12 g13 g14 g15 g16 g17 g18 g19 g20 g21 g22 g23 g24 g25 g26 g27 g28 H hI⟩
theorem laws_eqFloat32S_n1 {a_a : Option Addr} {a_e : Nat} {a_n : Nat} {b_a : Option Addr} {b_e : Nat} {b_n : Nat} {Q : Post} {Inv : Nat → Bool → Int → AHeap → Prop} {μ : Nat} (μ' : Nat) {t4 : Bool} {i : Int} {g11 g12 g13 g14 g15 g16 g17 g18 g19 g20 g21 g22 g23 g24 g25 g26 g27 g28 : Value} {H : AHeap} (hm : μ' < μ) (hI : Inv μ' t4 i H) : loopQ (laws_eqFloat32S_I1 a_a a_e a_n b_a b_e b_n Inv) μ Q .normal [.slice a_a a_n a_e, .slice b_a b_n b_e, undef, undef, .bool t4, .int .i64 i, .slice a_a a_n a_e, .int .i64 (a_n : Int), .slice b_a b_n b_e, .int .i64 (b_n : Int), .bool (((a_n : Int) : Int) != (b_n : Int)), g11, g12, g13, g14, g15, g16, g17, g18, g19, g20, g21, g22, g23, g24, g25, g26, g27, g28] H := ⟨μ', hm, t4, i, g11, g12, g13, g14, g15, g16, g17, g18, g19, g20, g21, g22, g23, g24, g25, g26, g27, g28, rfl, hI⟩
theorem laws_eqFloat32S_x1_0 (a_a : Option Addr) (a_e : Nat) (a_n : Nat) (b_a : Option Addr) (b_e : Nat) (b_n : Nat) (t4 : Bool) (i : Int) (g11 g12 g13 g14 g15 g16 g17 g18 g19 g20 g21 g22 g23 g24 g25 g26 g27 g28 : Value) (H : AHeap) (K : Value → AHeap → Prop)  {I : Nat → List Value → AHeap → Prop} {μ : Nat} : loopQ I μ (blockQ 0 (seqQ (exK Try.prog E_laws_eqFloat32S (cr (cr (cr (bodyC Try.f19))))) (retK Try.prog Try.f19 K))) (.exit 0) [.slice a_a a_n a_e, .slice b_a b_n b_e, undef, undef, .bool t4, .int .i64 i, .slice a_a a_n a_e, .int .i64 (a_n : Int), .slice b_a b_n b_e, .int .i64 (b_n : Int), .bool (((a_n : Int) : Int) != (b_n : Int)), g11, g12, g13, g14, g15, g16, g17, g18, g19, g20, g21, g22, g23, g24, g25, g26, g27, g28] H =
  (K (.bool true) H) := by kernel_rfl
theorem laws_eqFloat32S_x1_ret (a_a : Option Addr) (a_e : Nat) (a_n : Nat) (b_a : Option Addr) (b_e : Nat) (b_n : Nat) (t4 : Bool) (i : Int) (g11 g12 g13 g14 g15 g16 g17 g18 g19 g20 g21 g22 g23 g24 g25 g26 g27 g28 : Value) (H : AHeap) (K : Value → AHeap → Prop)  {I : Nat → List Value → AHeap → Prop} {μ : Nat} : loopQ I μ (blockQ 0 (seqQ (exK Try.prog E_laws_eqFloat32S (cr (cr (cr (bodyC Try.f19))))) (retK Try.prog Try.f19 K))) .ret [.slice a_a a_n a_e, .slice b_a b_n b_e, undef, undef, .bool t4, .int .i64 i, .slice a_a a_n a_e, .int .i64 (a_n : Int), .slice b_a b_n b_e, .int .i64 (b_n : Int), .bool (((a_n : Int) : Int) != (b_n : Int)), g11, g12, g13, g14, g15, g16, g17, g18, g19, g20, g21, g22, g23, g24, g25, g26, g27, g28] H =
  (K (.bool t4) H) := by kernel_rfl
theorem E_laws_eqFloat32S_ok : ∀ g, FnOk Try.prog g (E_laws_eqFloat32S g) := FnOk.envOf (by
  intro x hx
  simp only [List.mem_cons, List.not_mem_nil, or_false] at hx
  subst hx; exact laws_sameFloat_ok)
set_option maxHeartbeats 1000000 in
theorem laws_eqFloat32S_main (a_a : Option Addr) (a_n : Nat) (a_e : Nat) (b_a : Option Addr) (b_n : Nat) (b_e : Nat) (H : AHeap) (K : Value → AHeap → Prop) (h : T_laws_eqFloat32S a_a a_n a_e b_a b_n b_e H fun (r1 : Bool) (H' : AHeap) => K (.bool r1) H') : bodyK Try.prog E_laws_eqFloat32S Try.f19 [.slice a_a a_n a_e, .slice b_a b_n b_e] H K := by
  rw [laws_eqFloat32S_vc]
  obtain ⟨l_a, l_b, i_a, i_b, bd_13, bd_14, hk⟩ := h
  obtain rfl := i_a.eqn
  obtain rfl := i_b.eqn
  have e : (p_laws_eqFloat32S l_a l_b) = _ := rfl
  have e := e.trans (p_laws_eqFloat32S_eq l_a l_b)
  have g0 := Grow.refl H
  refine Br.intro (fun c_1 => ?_) (fun c_1 => ?_)
  · have e := e.trans (cond_t c_1)
    have c_1' := ine_t c_1
    rw [e] at hk
    exact hk
  · have e := e.trans (cond_f c_1)
    have c_1' := ine_f c_1
    refine laws_eqFloat32S_L1 _ _ _ _ _ _ (fun (μ : Nat) (t4 : Bool) (i : Int) (H_1 : AHeap) => H = H_1 ∧ (0 : Int) ≤ i ∧ i ≤ (l_a.length : Int) ∧ (l_a.length : Int) - i ≤ (μ : Int) ∧ p_laws_eqFloat32S l_a l_b = p_laws_eqFloat32S_l1 l_a l_b (μ + 1) t4 i) (Int.toNat ((l_a.length : Int) - (0 : Int))) _ _ _ _ _ _ _ _ _ _ _ _ _ _ _ _ _ _ _ _ H ?_ ?_
    · exact ⟨rfl, (by first | omega | (simp; done) | (simp; omega)), (by first | omega | (simp; done) | (simp; omega)), (by omega), e⟩
    · intro μ t4 i g11 g12 g13 g14 g15 g16 g17 g18 g19 g20 g21 g22 g23 g24 g25 g26 g27 g28 H_1 hI
      obtain ⟨rfl, v_2, v_3, hμ, e⟩ := hI
      rw [laws_eqFloat32S_r1]
      have e := e.trans (p_laws_eqFloat32S_l1_s l_a l_b μ t4 i)
      have l_4 := g0.1
      refine Br.intro (fun c_5 => ?_) (fun c_5 => ?_)
      · have e := e.trans (cond_t c_5)
        have c_5' := of_decide_eq_true c_5
        obtain ⟨b_6, f_7, q_8⟩ := ((i_a.grow g0)).pos (by first | omega | (simp only [List.length_set, List.length_replicate, List.length_append, List.length_cons, List.length_nil, List.length_take, List.length_drop, marks_length]; done) | (simp only [List.length_set, List.length_replicate, List.length_append, List.length_cons, List.length_nil, List.length_take, List.length_drop, marks_length]; omega))
        refine ⟨by omega, by omega, b_6, f_7, q_8, ?_⟩
        refine ⟨((l_a).getD (i : Int).toNat 0), (i_a).rd g0 q_8 (by omega) _, ?_⟩
        obtain ⟨b_9, f_10, q_11⟩ := ((i_b.grow g0)).pos (by first | omega | (simp only [List.length_set, List.length_replicate, List.length_append, List.length_cons, List.length_nil, List.length_take, List.length_drop, marks_length]; done) | (simp only [List.length_set, List.length_replicate, List.length_append, List.length_cons, List.length_nil, List.length_take, List.length_drop, marks_length]; omega))
        refine ⟨by omega, by omega, b_9, f_10, q_11, ?_⟩
        refine ⟨((l_b).getD (i : Int).toNat 0), (i_b).rd g0 q_11 (by omega) _, ?_⟩
        refine T_laws_sameFloat_i ?_
        refine Br.intro (fun c_12 => ?_) (fun c_12 => ?_)
        · have e := e.trans (cond_t c_12)
          have c_12n := nf_of_t c_12
          rw [laws_eqFloat32S_x1_ret]
          rw [e] at hk
          exact hk
        · have e := e.trans (cond_f c_12)
          have c_12n := nt_of_f c_12
          rw [show IntKind.wrap .i64 (i + 1) = (i + 1) from wrap64 (by omega) (by omega)]
          refine laws_eqFloat32S_n1 (μ - 1) (by first | omega) ⟨rfl, (by first | omega | (simp only [List.length_append, List.length_cons, List.length_nil, List.length_set]; done) | (simp only [List.length_append, List.length_cons, List.length_nil, List.length_set]; omega)), (by first | omega | (simp only [List.length_append, List.length_cons, List.length_nil, List.length_set]; done) | (simp only [List.length_append, List.length_cons, List.length_nil, List.length_set]; omega)), (by first | omega), (by rw [show μ - 1 + 1 = μ from by first | omega]; exact e)⟩
      · have e := e.trans (cond_f c_5)
        have c_5' := of_decide_eq_false c_5
        rw [laws_eqFloat32S_x1_0]
        rw [e] at hk
        exact hk
theorem laws_eqFloat32S_ok : FnOk Try.prog 19 S_laws_eqFloat32S := by
  refine FnOk.body mix_ok E_laws_eqFloat32S_ok Try.func19 rfl (by kernel_rfl) (by kernel_rfl) ?_ ?_ ?_ ?_ ?_
  · intro args H K K' h hk
    simp only [S_laws_eqFloat32S] at *
    unfold F_laws_eqFloat32S at *
    split at hk
    · obtain ⟨l_a, l_b, i_a, i_b, bd_13, bd_14, k⟩ := hk
      exact ⟨l_a, l_b, i_a, i_b, bd_13, bd_14, h _ _ k⟩
    · exact hk.elim
  · intro _ args H K hk
    simp only [S_laws_eqFloat32S] at *
    unfold F_laws_eqFloat32S at *
    split at hk
    · obtain ⟨l_a, l_b, i_a, i_b, bd_13, bd_14, k⟩ := hk
      exact ⟨_, k, fun K' k' => ⟨l_a, l_b, i_a, i_b, bd_13, bd_14, k'⟩⟩
    · exact hk.elim
  · intro args H K hk
    simp only [S_laws_eqFloat32S] at *
    unfold F_laws_eqFloat32S at *
    split at hk
    · obtain ⟨l_a, l_b, i_a, i_b, bd_13, bd_14, k⟩ := hk
      exact ⟨_, _, k⟩
    · exact hk.elim
  · intro hq; cases hq
  · have mm := @laws_eqFloat32S_main
    revert mm
    generalize bodyK Try.prog E_laws_eqFloat32S Try.f19 = Q
    intro mm args H K hk
    simp only [S_laws_eqFloat32S] at *
    unfold F_laws_eqFloat32S at *
    split at hk
    · exact mm _ _ _ _ _ _ H K hk
    · exact hk.elim

def p_laws_eqPicture (a_Wide : Int) (a_High : Int) (l_a_Lights : List Nat) (b_Wide : Int) (b_High : Int) (l_b_Lights : List Nat) : Bool := ((bif (a_Wide : Int) != b_Wide then false else (bif (a_High : Int) != b_High then false else (bif !(p_laws_eqFloat32S l_a_Lights l_b_Lights) then false else true))))
theorem p_laws_eqPicture_eq (a_Wide : Int) (a_High : Int) (l_a_Lights : List Nat) (b_Wide : Int) (b_High : Int) (l_b_Lights : List Nat) : p_laws_eqPicture a_Wide a_High l_a_Lights b_Wide b_High l_b_Lights = ((bif (a_Wide : Int) != b_Wide then false else (bif (a_High : Int) != b_High then false else (bif !(p_laws_eqFloat32S l_a_Lights l_b_Lights) then false else true)))) := rfl
def T_laws_eqPicture (a_Wide : Int) (a_High : Int) (a_Lights_a : Option Addr) (a_Lights_n : Nat) (a_Lights_e : Nat) (b_Wide : Int) (b_High : Int) (b_Lights_a : Option Addr) (b_Lights_n : Nat) (b_Lights_e : Nat) (H : AHeap) (K : Bool → AHeap → Prop) : Prop := ∃ (l_a_Lights : List Nat), ∃ (l_b_Lights : List Nat), IsL fF H a_Lights_a a_Lights_n l_a_Lights ∧ IsL fF H b_Lights_a b_Lights_n l_b_Lights ∧ l_a_Lights.length < 1073741824 ∧ l_b_Lights.length < 1073741824 ∧ ((∀ H' : AHeap, Grow H H' → K (p_laws_eqPicture a_Wide a_High l_a_Lights b_Wide b_High l_b_Lights) H'))
theorem T_laws_eqPicture_i {a_Wide : Int} {a_High : Int} {a_Lights_a : Option Addr} {a_Lights_n : Nat} {a_Lights_e : Nat} {b_Wide : Int} {b_High : Int} {b_Lights_a : Option Addr} {b_Lights_n : Nat} {b_Lights_e : Nat} {H : AHeap} {K : Bool → AHeap → Prop} (h : ∃ (l_a_Lights : List Nat), ∃ (l_b_Lights : List Nat), IsL fF H a_Lights_a a_Lights_n l_a_Lights ∧ IsL fF H b_Lights_a b_Lights_n l_b_Lights ∧ l_a_Lights.length < 1073741824 ∧ l_b_Lights.length < 1073741824 ∧ ((∀ H' : AHeap, Grow H H' → K (p_laws_eqPicture a_Wide a_High l_a_Lights b_Wide b_High l_b_Lights) H'))) : T_laws_eqPicture a_Wide a_High a_Lights_a a_Lights_n a_Lights_e b_Wide b_High b_Lights_a b_Lights_n b_Lights_e H K := h
theorem laws_eqPicture_self (a b : Int) (l : List Nat) : p_laws_eqPicture a b l a b l = true := by
  rw [p_laws_eqPicture_eq, laws_eqFloat32S_self]
  simp
/-! laws_eqPicture: function 41 -/
def E_laws_eqPicture : Env := envOf [(19, S_laws_eqFloat32S)]
def F_laws_eqPicture : List Value → AHeap → (Value → AHeap → Prop) → Prop
  | [.agg ⟨[.int .i64 a_Wide, .int .i64 a_High, .slice a_Lights_a a_Lights_n a_Lights_e]⟩, .agg ⟨[.int .i64 b_Wide, .int .i64 b_High, .slice b_Lights_a b_Lights_n b_Lights_e]⟩], H, K => T_laws_eqPicture a_Wide a_High a_Lights_a a_Lights_n a_Lights_e b_Wide b_High b_Lights_a b_Lights_n b_Lights_e H fun (r1 : Bool) (H' : AHeap) => K (.bool r1) H'
  | _, _, _ => False
def S_laws_eqPicture : FSpec := { F := F_laws_eqPicture, quiet := false, tame := true }
theorem laws_eqPicture_vc (a_Wide : Int) (a_High : Int) (a_Lights_a : Option Addr) (a_Lights_n : Nat) (a_Lights_e : Nat) (b_Wide : Int) (b_High : Int) (b_Lights_a : Option Addr) (b_Lights_n : Nat) (b_Lights_e : Nat) (H : AHeap) (K : Value → AHeap → Prop) : bodyK Try.prog E_laws_eqPicture Try.f41 [.agg #[.int .i64 a_Wide, .int .i64 a_High, .slice a_Lights_a a_Lights_n a_Lights_e], .agg #[.int .i64 b_Wide, .int .i64 b_High, .slice b_Lights_a b_Lights_n b_Lights_e]] H K =
  (Al [.int .i64 a_Wide, .int .i64 a_High, .slice a_Lights_a a_Lights_n a_Lights_e] H fun b1 H1 => Al [.int .i64 b_Wide, .int .i64 b_High, .slice b_Lights_a b_Lights_n b_Lights_e] H1 fun b2 H2 => ∃ x1 : Int,  rdC H2 b1 0 = some (.int .i64 x1) ∧ ∃ x2 : Int,  rdC H2 b2 0 = some (.int .i64 x2) ∧ Br ((x1 : Int) != x2) (K (.bool false) H2) (∃ x3 : Int,  rdC H2 b1 1 = some (.int .i64 x3) ∧ ∃ x4 : Int,  rdC H2 b2 1 = some (.int .i64 x4) ∧ Br ((x3 : Int) != x4) (K (.bool false) H2) (∃ x5_a : Option Addr, ∃ x5_n : Nat, ∃ x5_e : Nat,  rdC H2 b1 2 = some (.slice x5_a x5_n x5_e) ∧ ∃ x6_a : Option Addr, ∃ x6_n : Nat, ∃ x6_e : Nat,  rdC H2 b2 2 = some (.slice x6_a x6_n x6_e) ∧ T_laws_eqFloat32S x5_a x5_n x5_e x6_a x6_n x6_e H2 fun (r1 : Bool) (H3 : AHeap) => Br (!r1) (K (.bool false) H3) (K (.bool true) H3)))) := by kernel_rfl
theorem E_laws_eqPicture_ok : ∀ g, FnOk Try.prog g (E_laws_eqPicture g) := FnOk.envOf (by
  intro x hx
  simp only [List.mem_cons, List.not_mem_nil, or_false] at hx
  subst hx; exact laws_eqFloat32S_ok)
set_option maxHeartbeats 1000000 in
theorem laws_eqPicture_main (a_Wide : Int) (a_High : Int) (a_Lights_a : Option Addr) (a_Lights_n : Nat) (a_Lights_e : Nat) (b_Wide : Int) (b_High : Int) (b_Lights_a : Option Addr) (b_Lights_n : Nat) (b_Lights_e : Nat) (H : AHeap) (K : Value → AHeap → Prop) (h : T_laws_eqPicture a_Wide a_High a_Lights_a a_Lights_n a_Lights_e b_Wide b_High b_Lights_a b_Lights_n b_Lights_e H fun (r1 : Bool) (H' : AHeap) => K (.bool r1) H') : bodyK Try.prog E_laws_eqPicture Try.f41 [.agg #[.int .i64 a_Wide, .int .i64 a_High, .slice a_Lights_a a_Lights_n a_Lights_e], .agg #[.int .i64 b_Wide, .int .i64 b_High, .slice b_Lights_a b_Lights_n b_Lights_e]] H K := by
  rw [laws_eqPicture_vc]
  obtain ⟨l_a_Lights, l_b_Lights, i_a_Lights, i_b_Lights, bd_26, bd_27, hk⟩ := h
  obtain rfl := i_a_Lights.eqn
  obtain rfl := i_b_Lights.eqn
  have e : (p_laws_eqPicture a_Wide a_High l_a_Lights b_Wide b_High l_b_Lights) = _ := rfl
  have e := e.trans (p_laws_eqPicture_eq a_Wide a_High l_a_Lights b_Wide b_High l_b_Lights)
  have g0 := Grow.refl H
  refine Al.intro (fun b_1 H_1 hb_2 hl_3 g_4 o_5 => ?_)
  have l_7 := g_4.1
  have g_8 := g0.trans g_4
  have l_9 := g_8.1
  have w_25 := o_5.lt
  refine Al.intro (fun b_10 H_2 hb_11 hl_12 g_13 o_14 => ?_)
  have l_16 := g_13.1
  have g_17 := g_8.trans g_13
  have l_18 := g_17.1
  have o_19 := o_5.grow g_13
  have w_20 := o_19.lt
  have w_24 := o_14.lt
  refine ⟨a_Wide, (o_19.rdC _).trans rfl, ?_⟩
  refine ⟨b_Wide, (o_14.rdC _).trans rfl, ?_⟩
  refine Br.intro (fun c_21 => ?_) (fun c_21 => ?_)
  · have e := e.trans (cond_t c_21)
    have c_21' := ine_t c_21
    rw [e] at hk
    exact hk  H_2 g_17 
  · have e := e.trans (cond_f c_21)
    have c_21' := ine_f c_21
    refine ⟨a_High, (o_19.rdC _).trans rfl, ?_⟩
    refine ⟨b_High, (o_14.rdC _).trans rfl, ?_⟩
    refine Br.intro (fun c_22 => ?_) (fun c_22 => ?_)
    · have e := e.trans (cond_t c_22)
      have c_22' := ine_t c_22
      rw [e] at hk
      exact hk  H_2 g_17 
    · have e := e.trans (cond_f c_22)
      have c_22' := ine_f c_22
      refine ⟨a_Lights_a, l_a_Lights.length, a_Lights_e, (o_19.rdC _).trans rfl, ?_⟩
      refine ⟨b_Lights_a, l_b_Lights.length, b_Lights_e, (o_14.rdC _).trans rfl, ?_⟩
      refine T_laws_eqFloat32S_i ⟨_, _, (i_a_Lights.grow g_17), (i_b_Lights.grow g_17), (by first | omega | (simp only [List.length_set, List.length_replicate, List.length_append, List.length_cons, List.length_nil, List.length_take, List.length_drop, marks_length]; done) | (simp only [List.length_set, List.length_replicate, List.length_append, List.length_cons, List.length_nil, List.length_take, List.length_drop, marks_length]; omega)), (by first | omega | (simp only [List.length_set, List.length_replicate, List.length_append, List.length_cons, List.length_nil, List.length_take, List.length_drop, marks_length]; done) | (simp only [List.length_set, List.length_replicate, List.length_append, List.length_cons, List.length_nil, List.length_take, List.length_drop, marks_length]; omega)), ?_⟩
      refine Br.intro (fun c_23 => ?_) (fun c_23 => ?_)
      · have e := e.trans (cond_t c_23)
        have c_23n := nf_of_t c_23
        rw [e] at hk
        exact hk  H_2 g_17 
      · have e := e.trans (cond_f c_23)
        have c_23n := nt_of_f c_23
        rw [e] at hk
        exact hk  H_2 g_17 
theorem laws_eqPicture_ok : FnOk Try.prog 41 S_laws_eqPicture := by
  refine FnOk.body mix_ok E_laws_eqPicture_ok Try.func41 rfl (by kernel_rfl) (by kernel_rfl) ?_ ?_ ?_ ?_ ?_
  · intro args H K K' h hk
    simp only [S_laws_eqPicture] at *
    unfold F_laws_eqPicture at *
    split at hk
    · obtain ⟨l_a_Lights, l_b_Lights, i_a_Lights, i_b_Lights, bd_26, bd_27, k⟩ := hk
      exact ⟨l_a_Lights, l_b_Lights, i_a_Lights, i_b_Lights, bd_26, bd_27, (fun  H' gg  => h _ _ (k  H' gg ))⟩
    · exact hk.elim
  · intro hq; cases hq
  · intro args H K hk
    simp only [S_laws_eqPicture] at *
    unfold F_laws_eqPicture at *
    split at hk
    · obtain ⟨l_a_Lights, l_b_Lights, i_a_Lights, i_b_Lights, bd_26, bd_27, k⟩ := hk
      exact ⟨_, _, k H (Grow.refl H)⟩
    · exact hk.elim
  · intro _ args H K hk
    simp only [S_laws_eqPicture] at *
    unfold F_laws_eqPicture at *
    split at hk
    · obtain ⟨l_a_Lights, l_b_Lights, i_a_Lights, i_b_Lights, bd_26, bd_27, k⟩ := hk
      exact ⟨l_a_Lights, l_b_Lights, i_a_Lights, i_b_Lights, bd_26, bd_27, (fun  H' gg  => ⟨gg, k  H' gg ⟩)⟩
    · exact hk.elim
  · have mm := @laws_eqPicture_main
    revert mm
    generalize bodyK Try.prog E_laws_eqPicture Try.f41 = Q
    intro mm args H K hk
    simp only [S_laws_eqPicture] at *
    unfold F_laws_eqPicture at *
    split at hk
    · exact mm _ _ _ _ _ _ _ _ _ _ H K hk
    · exact hk.elim

def p_laws_markFloat32S_l1 (l_a : List Nat) (k : Int) : Nat → Int → Int → (List Nat) → Int × (List Nat)
  | 0, _, _, _ => (0, [])
  | μ + 1, k_1, i, y1_1 => (bif decide ((i : Int) < (l_a.length : Int)) then (p_laws_markFloat32S_l1 l_a k μ (IntKind.wrap .i64 (k_1 + 1)) (i + 1) (((y1_1).set (i : Int).toNat (FloatKind.nearest .f32 k_1)))) else (k_1, y1_1))
theorem p_laws_markFloat32S_l1_s (l_a : List Nat) (k : Int) (μ : Nat) (k_1 : Int) (i : Int) (y1_1 : List Nat) : p_laws_markFloat32S_l1 l_a k (μ + 1) k_1 i y1_1 = (bif decide ((i : Int) < (l_a.length : Int)) then (p_laws_markFloat32S_l1 l_a k μ (IntKind.wrap .i64 (k_1 + 1)) (i + 1) (((y1_1).set (i : Int).toNat (FloatKind.nearest .f32 k_1)))) else (k_1, y1_1)) := rfl
def p_laws_markFloat32S (l_a : List Nat) (k : Int) : Int × (List Nat) := (p_laws_markFloat32S_l1 l_a k (Int.toNat ((l_a.length : Int) - (0 : Int)) + 1) k (0 : Int) l_a)
theorem p_laws_markFloat32S_eq (l_a : List Nat) (k : Int) : p_laws_markFloat32S l_a k = (p_laws_markFloat32S_l1 l_a k (Int.toNat ((l_a.length : Int) - (0 : Int)) + 1) k (0 : Int) l_a) := rfl
def T_laws_markFloat32S (a_a : Option Addr) (a_n : Nat) (a_e : Nat) (k : Int) (H : AHeap) (K : Int → AHeap → Prop) : Prop := ∃ lo : Nat, ∃ (l_a : List Nat), OwnS fF H lo a_a a_n a_e l_a ∧ l_a.length < 1073741824 ∧ ((∀ H' : AHeap, KeepA a_a H H' → OwnS fF H' lo a_a a_n a_e (marks (FloatKind.nearest .f32) k l_a.length) → K (wk k l_a.length) H'))
theorem T_laws_markFloat32S_i {a_a : Option Addr} {a_n : Nat} {a_e : Nat} {k : Int} {H : AHeap} {K : Int → AHeap → Prop} (h : ∃ lo : Nat, ∃ (l_a : List Nat), OwnS fF H lo a_a a_n a_e l_a ∧ l_a.length < 1073741824 ∧ ((∀ H' : AHeap, KeepA a_a H H' → OwnS fF H' lo a_a a_n a_e (marks (FloatKind.nearest .f32) k l_a.length) → K (wk k l_a.length) H'))) : T_laws_markFloat32S a_a a_n a_e k H K := h
theorem laws_markFloat32S_go (l : List Nat) (k0 : Int) : ∀ (μ : Nat) (k : Int) (i : Nat) (ys : List Nat), ys.length = l.length → i ≤ l.length → l.length - i < μ →
    p_laws_markFloat32S_l1 l k0 μ k (i : Int) ys = (wk k (l.length - i), ys.take i ++ marks (FloatKind.nearest .f32) k (l.length - i)) := by
  intro μ
  induction μ with
  | zero => intro k i ys _ _ h; omega
  | succ μ ih =>
    intro k i ys hy hi hm
    rw [p_laws_markFloat32S_l1_s]
    by_cases h : i < l.length
    · rw [decide_eq_true (show (i : Int) < (l.length : Int) by omega), cond_true, Int.toNat_natCast]
      have := ih (IntKind.wrap .i64 (k + 1)) (i + 1) (ys.set i ((FloatKind.nearest .f32) k)) (by simp [hy]) (by omega) (by omega)
      obtain ⟨d, hd⟩ : ∃ d, l.length - i = d + 1 := ⟨l.length - i - 1, by omega⟩
      rw [show l.length - (i + 1) = d by omega] at this
      rw [hd, wk, marks]
      refine Eq.trans this ?_
      rw [List.take_add_one, List.getElem?_set_self (by omega), List.take_set_of_le (Nat.le_refl i)]
      simp
    · rw [decide_eq_false (show ¬ (i : Int) < (l.length : Int) by omega), cond_false]
      rw [show l.length - i = 0 by omega, wk, marks, List.append_nil, List.take_of_length_le (by omega)]
theorem laws_markFloat32S_val (l : List Nat) (k : Int) : p_laws_markFloat32S l k = (wk k l.length, marks (FloatKind.nearest .f32) k l.length) := by
  rw [p_laws_markFloat32S_eq]
  have := laws_markFloat32S_go l k (Int.toNat ((l.length : Int) - 0) + 1) k 0 l rfl (by omega) (by omega)
  simpa using this
/-! laws_markFloat32S: function 22 -/
def E_laws_markFloat32S : Env := envOf []
def F_laws_markFloat32S : List Value → AHeap → (Value → AHeap → Prop) → Prop
  | [.slice a_a a_n a_e, .int .i64 k], H, K => T_laws_markFloat32S a_a a_n a_e k H fun (r1 : Int) (H' : AHeap) => K (.int .i64 r1) H'
  | _, _, _ => False
def S_laws_markFloat32S : FSpec := { F := F_laws_markFloat32S, quiet := false, tame := false }
theorem laws_markFloat32S_vc (a_a : Option Addr) (a_n : Nat) (a_e : Nat) (k : Int) (H : AHeap) (K : Value → AHeap → Prop) : bodyK Try.prog E_laws_markFloat32S Try.f22 [.slice a_a a_n a_e, .int .i64 k] H K =
  (loopK (exK Try.prog E_laws_markFloat32S (cl (cl (cr (cl (cr (bodyC Try.f22))))))) [.slice a_a a_n a_e, .int .i64 k, undef, undef, .int .i64 0, .int .i64 0, undef, undef, undef, undef, undef, undef, undef, undef, undef, undef, undef, undef, undef, undef] H (blockQ 0 (seqQ (exK Try.prog E_laws_markFloat32S (cr (cr (bodyC Try.f22)))) (retK Try.prog Try.f22 K)))) := by kernel_rfl
theorem laws_markFloat32S_r1 (a_a : Option Addr) (a_e : Nat) (a_n : Nat) (k_1 : Int) (i : Int) (g6 g7 g8 g9 g10 g11 g12 g13 g14 g15 g16 g17 g18 : Value) (H : AHeap) (R : Post) : exK Try.prog E_laws_markFloat32S (cl (cl (cr (cl (cr (bodyC Try.f22)))))) [.slice a_a a_n a_e, .int .i64 k_1, undef, undef, .int .i64 0, .int .i64 i, g6, g7, g8, g9, g10, g11, g12, g13, g14, g15, g16, g17, g18, undef] H R =
  (Br (decide ((i : Int) < (a_n : Int))) ((0 : Int) ≤ i ∧ i < (a_n : Int) ∧ ∃ b1 f1, (a_a : Option Addr) = some ⟨b1, f1, none⟩ ∧ isOwn H b1 ∧ (∃ l, rdN H b1 (f1 + (i : Int).toNat * 1) 1 = some l) ∧ Lt (setC H b1 (f1 + (i : Int).toNat * 1) (.float .f32 (FloatKind.nearest .f32 k_1))) fun H1 => R .normal [.slice a_a a_n a_e, .int .i64 (IntKind.wrap .i64 (k_1 + 1)), undef, undef, .int .i64 0, .int .i64 (IntKind.wrap .i64 (i + 1)), .int .i64 i, .slice a_a a_n a_e, .int .i64 (a_n : Int), .bool (decide ((i : Int) < (a_n : Int))), .int .i64 i, .int .i64 (IntKind.wrap .i64 (i + 1)), .slice a_a a_n a_e, .int .i64 i, .int .i64 k_1, .float .f32 (FloatKind.nearest .f32 k_1), .pointer (some ⟨b1, f1 + (i : Int).toNat * 1, none⟩), .int .i64 k_1, .int .i64 (IntKind.wrap .i64 (k_1 + 1)), undef] H1) (R (.exit 0) [.slice a_a a_n a_e, .int .i64 k_1, undef, undef, .int .i64 0, .int .i64 i, .int .i64 i, .slice a_a a_n a_e, .int .i64 (a_n : Int), .bool (decide ((i : Int) < (a_n : Int))), g10, g11, g12, g13, g14, g15, g16, g17, g18, undef] H)) := by kernel_rfl
def laws_markFloat32S_I1 (a_a : Option Addr) (a_e : Nat) (a_n : Nat) (Inv : Nat → Int → Int → AHeap → Prop) : Nat → List Value → AHeap → Prop := fun μ tm H => ∃ (k_1 : Int), ∃ (i : Int), ∃ g6 g7 g8 g9 g10 g11 g12 g13 g14 g15 g16 g17 g18, tm = [.slice a_a a_n a_e, .int .i64 k_1, undef, undef, .int .i64 0, .int .i64 i, g6, g7, g8, g9, g10, g11, g12, g13, g14, g15, g16, g17, g18, undef] ∧ Inv μ k_1 i H
theorem laws_markFloat32S_L1 (a_a : Option Addr) (a_e : Nat) (a_n : Nat) {Q : Post} (Inv : Nat → Int → Int → AHeap → Prop) (ν : Nat) (k_1 : Int) (i : Int) (g6 g7 g8 g9 g10 g11 g12 g13 g14 g15 g16 g17 g18 : Value) (H : AHeap) (h0 : Inv ν k_1 i H)
    (hs : ∀ (μ : Nat) (k_1 : Int) (i : Int) (g6 g7 g8 g9 g10 g11 g12 g13 g14 g15 g16 g17 g18 : Value) (H : AHeap), Inv μ k_1 i H → exK Try.prog E_laws_markFloat32S (cl (cl (cr (cl (cr (bodyC Try.f22)))))) [.slice a_a a_n a_e, .int .i64 k_1, undef, undef, .int .i64 0, .int .i64 i, g6, g7, g8, g9, g10, g11, g12, g13, g14, g15, g16, g17, g18, undef] H (loopQ (laws_markFloat32S_I1 a_a a_e a_n Inv) μ Q)) : loopK (exK Try.prog E_laws_markFloat32S (cl (cl (cr (cl (cr (bodyC Try.f22))))))) [.slice a_a a_n a_e, .int .i64 k_1, undef, undef, .int .i64 0, .int .i64 i, g6, g7, g8, g9, g10, g11, g12, g13, g14, g15, g16, g17, g18, undef] H Q :=
  ⟨laws_markFloat32S_I1 a_a a_e a_n Inv, ν, ⟨k_1, i, g6, g7, g8, g9, g10, g11, g12, g13, g14, g15, g16, g17, g18, rfl, h0⟩, fun μ tm H h => by obtain ⟨k_1, i, g6, g7, g8, g9, g10, g11, g12, g13, g14, g15, g16, g17, g18, rfl, hI⟩ := h; exact hs μ k_1 i g6 g7 g8 g9 g10 g11 g12 g13 g14 g15 g16 g17 g18 H hI⟩
theorem laws_markFloat32S_n1 {a_a : Option Addr} {a_e : Nat} {a_n : Nat} {Q : Post} {Inv : Nat → Int → Int → AHeap → Prop} {μ : Nat} (μ' : Nat) {k_1 : Int} {i : Int} {g6 g7 g8 g9 g10 g11 g12 g13 g14 g15 g16 g17 g18 : Value} {H : AHeap} (hm : μ' < μ) (hI : Inv μ' k_1 i H) : loopQ (laws_markFloat32S_I1 a_a a_e a_n Inv) μ Q .normal [.slice a_a a_n a_e, .int .i64 k_1, undef, undef, .int .i64 0, .int .i64 i, g6, g7, g8, g9, g10, g11, g12, g13, g14, g15, g16, g17, g18, undef] H := ⟨μ', hm, k_1, i, g6, g7, g8, g9, g10, g11, g12, g13, g14, g15, g16, g17, g18, rfl, hI⟩
theorem laws_markFloat32S_x1_0 (a_a : Option Addr) (a_e : Nat) (a_n : Nat) (k_1 : Int) (i : Int) (g6 g7 g8 g9 g10 g11 g12 g13 g14 g15 g16 g17 g18 : Value) (H : AHeap) (K : Value → AHeap → Prop)  {I : Nat → List Value → AHeap → Prop} {μ : Nat} : loopQ I μ (blockQ 0 (seqQ (exK Try.prog E_laws_markFloat32S (cr (cr (bodyC Try.f22)))) (retK Try.prog Try.f22 K))) (.exit 0) [.slice a_a a_n a_e, .int .i64 k_1, undef, undef, .int .i64 0, .int .i64 i, g6, g7, g8, g9, g10, g11, g12, g13, g14, g15, g16, g17, g18, undef] H =
  (K (.int .i64 k_1) H) := by kernel_rfl
theorem E_laws_markFloat32S_ok : ∀ g, FnOk Try.prog g (E_laws_markFloat32S g) := FnOk.envOf (by
  intro x hx; cases hx)
set_option maxHeartbeats 1000000 in
theorem laws_markFloat32S_main (a_a : Option Addr) (a_n : Nat) (a_e : Nat) (k : Int) (H : AHeap) (K : Value → AHeap → Prop) (h : T_laws_markFloat32S a_a a_n a_e k H fun (r1 : Int) (H' : AHeap) => K (.int .i64 r1) H') : bodyK Try.prog E_laws_markFloat32S Try.f22 [.slice a_a a_n a_e, .int .i64 k] H K := by
  rw [laws_markFloat32S_vc]
  obtain ⟨lo, l_a, i_a, bd_18, hk⟩ := h
  have hk : (∀ H' : AHeap, KeepA a_a H H' → OwnS fF H' lo a_a a_n a_e ((p_laws_markFloat32S l_a k).2) → (fun (r1 : Int) (H' : AHeap) => K (.int .i64 r1) H') ((p_laws_markFloat32S l_a k).1) H') := by rw [laws_markFloat32S_val l_a k]; exact hk
  obtain rfl := i_a.len
  have up_m := i_a.up
  have lo_m := i_a.lo
  have e : (p_laws_markFloat32S l_a k) = _ := rfl
  have e := e.trans (p_laws_markFloat32S_eq l_a k)
  have g0 := KeepA.refl a_a H
  refine laws_markFloat32S_L1 _ _ _ (fun (μ : Nat) (k_1 : Int) (i : Int) (H_1 : AHeap) => ∃ (y1_1 : List Nat), OwnS fF H_1 lo a_a l_a.length a_e y1_1 ∧ y1_1.length = (l_a).length ∧ H.length ≤ H_1.length ∧ KeepA a_a H H_1 ∧ (0 : Int) ≤ i ∧ i ≤ (l_a.length : Int) ∧ (l_a.length : Int) - i ≤ (μ : Int) ∧ p_laws_markFloat32S l_a k = p_laws_markFloat32S_l1 l_a k (μ + 1) k_1 i y1_1) (Int.toNat ((l_a.length : Int) - (0 : Int))) _ _ _ _ _ _ _ _ _ _ _ _ _ _ _ H ?_ ?_
  · exact ⟨_, i_a, (by first | rfl | assumption | omega | (simp; done)), (by omega), g0, (by first | omega | (simp; done) | (simp; omega)), (by first | omega | (simp; done) | (simp; omega)), (by omega), e⟩
  · intro μ k_1 i g6 g7 g8 g9 g10 g11 g12 g13 g14 g15 g16 g17 g18 H_1 hI
    obtain ⟨y1_1, r_1, y_2, n_3, g_4, v_5, v_6, hμ, e⟩ := hI
    rw [laws_markFloat32S_r1]
    have e := e.trans (p_laws_markFloat32S_l1_s l_a k μ k_1 i y1_1)
    have l_7 := g_4.1
    refine Br.intro (fun c_8 => ?_) (fun c_8 => ?_)
    · have e := e.trans (cond_t c_8)
      have c_8' := of_decide_eq_true c_8
      obtain ⟨b_9, f_10, q_11⟩ := (r_1.isL).pos (by first | omega | (simp only [List.length_set, List.length_replicate, List.length_append, List.length_cons, List.length_nil, List.length_take, List.length_drop, marks_length]; done) | (simp only [List.length_set, List.length_replicate, List.length_append, List.length_cons, List.length_nil, List.length_take, List.length_drop, marks_length]; omega))
      refine ⟨by omega, by omega, b_9, f_10, q_11, ?_⟩
      refine Lt.setS r_1 q_11 (by first | omega | (simp only [List.length_set]; (first | omega | (simp only [List.length_set, List.length_replicate, List.length_append, List.length_cons, List.length_nil, List.length_take, List.length_drop, marks_length]; done) | (simp only [List.length_set, List.length_replicate, List.length_append, List.length_cons, List.length_nil, List.length_take, List.length_drop, marks_length]; omega)))) (fun H_2 hl_12 o_14 k_13 => ?_)
      have l_15 := k_13.1
      have g_16 := g_4.transA k_13
      have l_17 := g_16.1
      rw [show IntKind.wrap .i64 (i + 1) = (i + 1) from wrap64 (by omega) (by omega)]
      refine laws_markFloat32S_n1 (μ - 1) (by first | omega) ⟨_, o_14, (by first | assumption | omega | (simp only [List.length_set]; first | rfl | assumption | omega)), (by omega), g_16, (by first | omega | (simp only [List.length_append, List.length_cons, List.length_nil, List.length_set]; done) | (simp only [List.length_append, List.length_cons, List.length_nil, List.length_set]; omega)), (by first | omega | (simp only [List.length_append, List.length_cons, List.length_nil, List.length_set]; done) | (simp only [List.length_append, List.length_cons, List.length_nil, List.length_set]; omega)), (by first | omega), (by rw [show μ - 1 + 1 = μ from by first | omega]; exact e)⟩
    · have e := e.trans (cond_f c_8)
      have c_8' := of_decide_eq_false c_8
      rw [laws_markFloat32S_x1_0]
      rw [e] at hk
      exact hk H_1 g_4 r_1
theorem laws_markFloat32S_ok : FnOk Try.prog 22 S_laws_markFloat32S := by
  refine FnOk.body mix_ok E_laws_markFloat32S_ok Try.func22 rfl (by kernel_rfl) (by kernel_rfl) ?_ ?_ ?_ ?_ ?_
  · intro args H K K' h hk
    simp only [S_laws_markFloat32S] at *
    unfold F_laws_markFloat32S at *
    split at hk
    · obtain ⟨lo, l_a, i_a, bd_18, k⟩ := hk
      exact ⟨lo, l_a, i_a, bd_18, (fun H' gg ow => h _ _ (k H' gg ow))⟩
    · exact hk.elim
  · intro hq; cases hq
  · intro args H K hk
    simp only [S_laws_markFloat32S] at *
    unfold F_laws_markFloat32S at *
    split at hk
    · obtain ⟨lo, l_a, i_a, bd_18, k⟩ := hk
      exact (OwnS.put i_a _ (by rw [marks_length])).elim fun H1 h => ⟨_, _, k H1 h.1 h.2⟩
    · exact hk.elim
  · intro hq; cases hq
  · have mm := @laws_markFloat32S_main
    revert mm
    generalize bodyK Try.prog E_laws_markFloat32S Try.f22 = Q
    intro mm args H K hk
    simp only [S_laws_markFloat32S] at *
    unfold F_laws_markFloat32S at *
    split at hk
    · exact mm _ _ _ _ H K hk
    · exact hk.elim

def p_laws_markPicture (a_Wide : Int) (a_High : Int) (l_a_Lights : List Nat) (k : Int) : Int × (List Nat) := ((wk k l_a_Lights.length), (marks (FloatKind.nearest .f32) k l_a_Lights.length))
theorem p_laws_markPicture_eq (a_Wide : Int) (a_High : Int) (l_a_Lights : List Nat) (k : Int) : p_laws_markPicture a_Wide a_High l_a_Lights k = ((wk k l_a_Lights.length), (marks (FloatKind.nearest .f32) k l_a_Lights.length)) := rfl
def T_laws_markPicture (a_Wide : Int) (a_High : Int) (a_Lights_a : Option Addr) (a_Lights_n : Nat) (a_Lights_e : Nat) (k : Int) (H : AHeap) (K : Int → AHeap → Prop) : Prop := ∃ lo : Nat, ∃ (l_a_Lights : List Nat), OwnS fF H lo a_Lights_a a_Lights_n a_Lights_e l_a_Lights ∧ l_a_Lights.length < 1073741824 ∧ ((∀ H' : AHeap, KeepA a_Lights_a H H' → OwnS fF H' lo a_Lights_a a_Lights_n a_Lights_e (marks (FloatKind.nearest .f32) k l_a_Lights.length) → K (wk k l_a_Lights.length) H'))
theorem T_laws_markPicture_i {a_Wide : Int} {a_High : Int} {a_Lights_a : Option Addr} {a_Lights_n : Nat} {a_Lights_e : Nat} {k : Int} {H : AHeap} {K : Int → AHeap → Prop} (h : ∃ lo : Nat, ∃ (l_a_Lights : List Nat), OwnS fF H lo a_Lights_a a_Lights_n a_Lights_e l_a_Lights ∧ l_a_Lights.length < 1073741824 ∧ ((∀ H' : AHeap, KeepA a_Lights_a H H' → OwnS fF H' lo a_Lights_a a_Lights_n a_Lights_e (marks (FloatKind.nearest .f32) k l_a_Lights.length) → K (wk k l_a_Lights.length) H'))) : T_laws_markPicture a_Wide a_High a_Lights_a a_Lights_n a_Lights_e k H K := h
theorem laws_markPicture_val (a_Wide : Int) (a_High : Int) (l_a_Lights : List Nat) (k : Int) : p_laws_markPicture a_Wide a_High l_a_Lights k = (wk k l_a_Lights.length, marks (FloatKind.nearest .f32) k l_a_Lights.length) := rfl
/-! laws_markPicture: function 42 -/
def E_laws_markPicture : Env := envOf [(22, S_laws_markFloat32S)]
def F_laws_markPicture : List Value → AHeap → (Value → AHeap → Prop) → Prop
  | [.agg ⟨[.int .i64 a_Wide, .int .i64 a_High, .slice a_Lights_a a_Lights_n a_Lights_e]⟩, .int .i64 k], H, K => T_laws_markPicture a_Wide a_High a_Lights_a a_Lights_n a_Lights_e k H fun (r1 : Int) (H' : AHeap) => K (.int .i64 r1) H'
  | _, _, _ => False
def S_laws_markPicture : FSpec := { F := F_laws_markPicture, quiet := false, tame := false }
theorem laws_markPicture_vc (a_Wide : Int) (a_High : Int) (a_Lights_a : Option Addr) (a_Lights_n : Nat) (a_Lights_e : Nat) (k : Int) (H : AHeap) (K : Value → AHeap → Prop) : bodyK Try.prog E_laws_markPicture Try.f42 [.agg #[.int .i64 a_Wide, .int .i64 a_High, .slice a_Lights_a a_Lights_n a_Lights_e], .int .i64 k] H K =
  (Al [.int .i64 a_Wide, .int .i64 a_High, .slice a_Lights_a a_Lights_n a_Lights_e] H fun b1 H1 => ∃ x1_a : Option Addr, ∃ x1_n : Nat, ∃ x1_e : Nat,  rdC H1 b1 2 = some (.slice x1_a x1_n x1_e) ∧ T_laws_markFloat32S x1_a x1_n x1_e k H1 fun (r1 : Int) (H2 : AHeap) => K (.int .i64 r1) H2) := by kernel_rfl
theorem E_laws_markPicture_ok : ∀ g, FnOk Try.prog g (E_laws_markPicture g) := FnOk.envOf (by
  intro x hx
  simp only [List.mem_cons, List.not_mem_nil, or_false] at hx
  subst hx; exact laws_markFloat32S_ok)
set_option maxHeartbeats 1000000 in
theorem laws_markPicture_main (a_Wide : Int) (a_High : Int) (a_Lights_a : Option Addr) (a_Lights_n : Nat) (a_Lights_e : Nat) (k : Int) (H : AHeap) (K : Value → AHeap → Prop) (h : T_laws_markPicture a_Wide a_High a_Lights_a a_Lights_n a_Lights_e k H fun (r1 : Int) (H' : AHeap) => K (.int .i64 r1) H') : bodyK Try.prog E_laws_markPicture Try.f42 [.agg #[.int .i64 a_Wide, .int .i64 a_High, .slice a_Lights_a a_Lights_n a_Lights_e], .int .i64 k] H K := by
  rw [laws_markPicture_vc]
  obtain ⟨lo, l_a_Lights, i_a_Lights, bd_19, hk⟩ := h
  have hk : (∀ H' : AHeap, KeepA a_Lights_a H H' → OwnS fF H' lo a_Lights_a a_Lights_n a_Lights_e ((p_laws_markPicture a_Wide a_High l_a_Lights k).2) → (fun (r1 : Int) (H' : AHeap) => K (.int .i64 r1) H') ((p_laws_markPicture a_Wide a_High l_a_Lights k).1) H') := by rw [laws_markPicture_val a_Wide a_High l_a_Lights k]; exact hk
  obtain rfl := i_a_Lights.len
  have up_m := i_a_Lights.up
  have lo_m := i_a_Lights.lo
  have e : (p_laws_markPicture a_Wide a_High l_a_Lights k) = _ := rfl
  have e := e.trans (p_laws_markPicture_eq a_Wide a_High l_a_Lights k)
  have g0 := KeepA.refl a_Lights_a H
  refine Al.intro (fun b_1 H_1 hb_2 hl_3 g_4 o_5 => ?_)
  have l_7 := g_4.1
  have g_8 := g0.trans g_4
  have l_9 := g_8.1
  have r_10 := i_a_Lights.grow g_4
  have w_18 := o_5.lt
  refine ⟨a_Lights_a, l_a_Lights.length, a_Lights_e, (o_5.rdC _).trans rfl, ?_⟩
  refine T_laws_markFloat32S_i ⟨_, _, r_10, (by first | omega | (simp only [List.length_set, List.length_replicate, List.length_append, List.length_cons, List.length_nil, List.length_take, List.length_drop, marks_length]; done) | (simp only [List.length_set, List.length_replicate, List.length_append, List.length_cons, List.length_nil, List.length_take, List.length_drop, marks_length]; omega)), (fun H_2 k_11 o_12 => ?_)⟩
  have l_13 := k_11.1
  have g_14 := g_8.transA k_11
  have l_15 := g_14.1
  have o_16 := o_5.keepA (fun x hx => by have := lo_m x hx; have := up_m x hx; omega) k_11
  have w_17 := o_16.lt
  rw [e] at hk
  exact hk H_2 g_14 o_12
theorem laws_markPicture_ok : FnOk Try.prog 42 S_laws_markPicture := by
  refine FnOk.body mix_ok E_laws_markPicture_ok Try.func42 rfl (by kernel_rfl) (by kernel_rfl) ?_ ?_ ?_ ?_ ?_
  · intro args H K K' h hk
    simp only [S_laws_markPicture] at *
    unfold F_laws_markPicture at *
    split at hk
    · obtain ⟨lo, l_a_Lights, i_a_Lights, bd_19, k⟩ := hk
      exact ⟨lo, l_a_Lights, i_a_Lights, bd_19, (fun H' gg ow => h _ _ (k H' gg ow))⟩
    · exact hk.elim
  · intro hq; cases hq
  · intro args H K hk
    simp only [S_laws_markPicture] at *
    unfold F_laws_markPicture at *
    split at hk
    · obtain ⟨lo, l_a_Lights, i_a_Lights, bd_19, k⟩ := hk
      exact (OwnS.put i_a_Lights _ (by rw [marks_length])).elim fun H1 h => ⟨_, _, k H1 h.1 h.2⟩
    · exact hk.elim
  · intro hq; cases hq
  · have mm := @laws_markPicture_main
    revert mm
    generalize bodyK Try.prog E_laws_markPicture Try.f42 = Q
    intro mm args H K hk
    simp only [S_laws_markPicture] at *
    unfold F_laws_markPicture at *
    split at hk
    · exact mm _ _ _ _ _ _ H K hk
    · exact hk.elim

def p_laws_heldFloat32S_l1 (l_a : List Nat) (k : Int) : Nat → Int → Int → Int → Int
  | 0, _, _, _ => 0
  | μ + 1, k_1, t4, i => (bif decide ((i : Int) < (l_a.length : Int)) then (bif !(feq .f32 (((l_a).getD (i : Int).toNat 0)) (FloatKind.nearest .f32 k_1)) then ((-1) : Int) else (p_laws_heldFloat32S_l1 l_a k μ (IntKind.wrap .i64 (k_1 + 1)) t4 (i + 1))) else k_1)
theorem p_laws_heldFloat32S_l1_s (l_a : List Nat) (k : Int) (μ : Nat) (k_1 : Int) (t4 : Int) (i : Int) : p_laws_heldFloat32S_l1 l_a k (μ + 1) k_1 t4 i = (bif decide ((i : Int) < (l_a.length : Int)) then (bif !(feq .f32 (((l_a).getD (i : Int).toNat 0)) (FloatKind.nearest .f32 k_1)) then ((-1) : Int) else (p_laws_heldFloat32S_l1 l_a k μ (IntKind.wrap .i64 (k_1 + 1)) t4 (i + 1))) else k_1) := rfl
def p_laws_heldFloat32S (l_a : List Nat) (k : Int) : Int := (p_laws_heldFloat32S_l1 l_a k (Int.toNat ((l_a.length : Int) - (0 : Int)) + 1) k (0 : Int) (0 : Int))
theorem p_laws_heldFloat32S_eq (l_a : List Nat) (k : Int) : p_laws_heldFloat32S l_a k = (p_laws_heldFloat32S_l1 l_a k (Int.toNat ((l_a.length : Int) - (0 : Int)) + 1) k (0 : Int) (0 : Int)) := rfl
def T_laws_heldFloat32S (a_a : Option Addr) (a_n : Nat) (a_e : Nat) (k : Int) (H : AHeap) (K : Int → AHeap → Prop) : Prop := ∃ (l_a : List Nat), IsL fF H a_a a_n l_a ∧ l_a.length < 1073741824 ∧ K (p_laws_heldFloat32S l_a k) H
theorem T_laws_heldFloat32S_i {a_a : Option Addr} {a_n : Nat} {a_e : Nat} {k : Int} {H : AHeap} {K : Int → AHeap → Prop} (h : ∃ (l_a : List Nat), IsL fF H a_a a_n l_a ∧ l_a.length < 1073741824 ∧ K (p_laws_heldFloat32S l_a k) H) : T_laws_heldFloat32S a_a a_n a_e k H K := h
theorem laws_heldFloat32S_go (k0 : Int) : ∀ (μ : Nat) (i : Nat) (pre : List Nat) (k t : Int) (n : Nat), pre.length = i → n < μ →
    p_laws_heldFloat32S_l1 (pre ++ marks (FloatKind.nearest .f32) k n) k0 μ k t (i : Int) = wk k n := by
  intro μ
  induction μ with
  | zero => intro i pre k t n _ h; omega
  | succ μ ih =>
    intro i pre k t n hp hm
    rw [p_laws_heldFloat32S_l1_s]
    have hl : (pre ++ marks (FloatKind.nearest .f32) k n).length = i + n := by rw [List.length_append, hp, marks_length]
    rw [hl]
    cases n with
    | zero => rw [decide_eq_false (show ¬ (i : Int) < ((i + 0 : Nat) : Int) by omega), cond_false]; rfl
    | succ n =>
      rw [decide_eq_true (show (i : Int) < ((i + (n + 1) : Nat) : Int) by omega), cond_true, Int.toNat_natCast]
      have hx : (pre ++ marks (FloatKind.nearest .f32) k (n + 1)).getD i 0 = (FloatKind.nearest .f32) k := by
        rw [List.getD_eq_getElem?_getD, List.getElem?_append_right (by omega), hp, Nat.sub_self]; rfl
      rw [hx]
      have hq : (!(feq .f32 (FloatKind.nearest .f32 k) (FloatKind.nearest .f32 k))) = false := by rw [feq_nearest]; rfl
      simp only [hq, cond_false]
      have := ih (i + 1) (pre ++ [(FloatKind.nearest .f32) k]) (IntKind.wrap .i64 (k + 1)) t n (by simp [hp]) (by omega)
      rw [List.append_assoc] at this
      rw [wk]; exact this
theorem laws_heldFloat32S_marks (k : Int) (n : Nat) : p_laws_heldFloat32S (marks (FloatKind.nearest .f32) k n) k = wk k n := by
  rw [p_laws_heldFloat32S_eq]
  have := laws_heldFloat32S_go k (Int.toNat (((marks (FloatKind.nearest .f32) k n).length : Int) - 0) + 1) 0 [] k 0 n rfl (by rw [marks_length]; omega)
  simpa using this
/-! laws_heldFloat32S: function 23 -/
def E_laws_heldFloat32S : Env := envOf []
def F_laws_heldFloat32S : List Value → AHeap → (Value → AHeap → Prop) → Prop
  | [.slice a_a a_n a_e, .int .i64 k], H, K => T_laws_heldFloat32S a_a a_n a_e k H fun (r1 : Int) (H' : AHeap) => K (.int .i64 r1) H'
  | _, _, _ => False
def S_laws_heldFloat32S : FSpec := { F := F_laws_heldFloat32S, quiet := true, tame := false }
theorem laws_heldFloat32S_vc (a_a : Option Addr) (a_n : Nat) (a_e : Nat) (k : Int) (H : AHeap) (K : Value → AHeap → Prop) : bodyK Try.prog E_laws_heldFloat32S Try.f23 [.slice a_a a_n a_e, .int .i64 k] H K =
  (loopK (exK Try.prog E_laws_heldFloat32S (cl (cl (cr (cl (cr (bodyC Try.f23))))))) [.slice a_a a_n a_e, .int .i64 k, undef, undef, .int .i64 0, .int .i64 0, undef, undef, undef, undef, undef, undef, undef, undef, undef, undef, undef, undef, undef, undef, undef, undef] H (blockQ 0 (seqQ (exK Try.prog E_laws_heldFloat32S (cr (cr (bodyC Try.f23)))) (retK Try.prog Try.f23 K)))) := by kernel_rfl
theorem laws_heldFloat32S_r1 (a_a : Option Addr) (a_e : Nat) (a_n : Nat) (k_1 : Int) (t4 : Int) (i : Int) (g6 g7 g8 g9 g10 g11 g12 g13 g14 g15 g16 g17 g18 g19 g20 : Value) (H : AHeap) (R : Post) : exK Try.prog E_laws_heldFloat32S (cl (cl (cr (cl (cr (bodyC Try.f23)))))) [.slice a_a a_n a_e, .int .i64 k_1, undef, undef, .int .i64 t4, .int .i64 i, g6, g7, g8, g9, g10, g11, g12, g13, g14, g15, g16, g17, g18, g19, g20, undef] H R =
  (Br (decide ((i : Int) < (a_n : Int))) ((0 : Int) ≤ i ∧ i < (a_n : Int) ∧ ∃ b1 f1, (a_a : Option Addr) = some ⟨b1, f1, none⟩ ∧ ∃ x1 : Nat,  rdC H b1 (f1 + (i : Int).toNat * 1) = some (.float .f32 x1) ∧ Br (!(feq .f32 x1 (FloatKind.nearest .f32 k_1))) (R .ret [.slice a_a a_n a_e, .int .i64 k_1, undef, undef, .int .i64 (-1), .int .i64 i, .int .i64 i, .slice a_a a_n a_e, .int .i64 (a_n : Int), .bool (decide ((i : Int) < (a_n : Int))), g10, g11, .slice a_a a_n a_e, .int .i64 i, .pointer (some ⟨b1, f1 + (i : Int).toNat * 1, none⟩), .float .f32 x1, .int .i64 k_1, .float .f32 (FloatKind.nearest .f32 k_1), .bool (!(feq .f32 x1 (FloatKind.nearest .f32 k_1))), g19, g20, undef] H) (R .normal [.slice a_a a_n a_e, .int .i64 (IntKind.wrap .i64 (k_1 + 1)), undef, undef, .int .i64 t4, .int .i64 (IntKind.wrap .i64 (i + 1)), .int .i64 i, .slice a_a a_n a_e, .int .i64 (a_n : Int), .bool (decide ((i : Int) < (a_n : Int))), .int .i64 i, .int .i64 (IntKind.wrap .i64 (i + 1)), .slice a_a a_n a_e, .int .i64 i, .pointer (some ⟨b1, f1 + (i : Int).toNat * 1, none⟩), .float .f32 x1, .int .i64 k_1, .float .f32 (FloatKind.nearest .f32 k_1), .bool (!(feq .f32 x1 (FloatKind.nearest .f32 k_1))), .int .i64 k_1, .int .i64 (IntKind.wrap .i64 (k_1 + 1)), undef] H)) (R (.exit 0) [.slice a_a a_n a_e, .int .i64 k_1, undef, undef, .int .i64 t4, .int .i64 i, .int .i64 i, .slice a_a a_n a_e, .int .i64 (a_n : Int), .bool (decide ((i : Int) < (a_n : Int))), g10, g11, g12, g13, g14, g15, g16, g17, g18, g19, g20, undef] H)) := by kernel_rfl
def laws_heldFloat32S_I1 (a_a : Option Addr) (a_e : Nat) (a_n : Nat) (Inv : Nat → Int → Int → Int → AHeap → Prop) : Nat → List Value → AHeap → Prop := fun μ tm H => ∃ (k_1 : Int), ∃ (t4 : Int), ∃ (i : Int), ∃ g6 g7 g8 g9 g10 g11 g12 g13 g14 g15 g16 g17 g18 g19 g20, tm = [.slice a_a a_n a_e, .int .i64 k_1, undef, undef, .int .i64 t4, .int .i64 i, g6, g7, g8, g9, g10, g11, g12, g13, g14, g15, g16, g17, g18, g19, g20, undef] ∧ Inv μ k_1 t4 i H
theorem laws_heldFloat32S_L1 (a_a : Option Addr) (a_e : Nat) (a_n : Nat) {Q : Post} (Inv : Nat → Int → Int → Int → AHeap → Prop) (ν : Nat) (k_1 : Int) (t4 : Int) (i : Int) (g6 g7 g8 g9 g10 g11 g12 g13 g14 g15 g16 g17 g18 g19 g20 : Value) (H : AHeap) (h0 : Inv ν k_1 t4 i H)
    (hs : ∀ (μ : Nat) (k_1 : Int) (t4 : Int) (i : Int) (g6 g7 g8 g9 g10 g11 g12 g13 g14 g15 g16 g17 g18 g19 g20 : Value) (H : AHeap), Inv μ k_1 t4 i H → exK Try.prog E_laws_heldFloat32S (cl (cl (cr (cl (cr (bodyC Try.f23)))))) [.slice a_a a_n a_e, .int .i64 k_1, undef, undef, .int .i64 t4, .int .i64 i, g6, g7, g8, g9, g10, g11, g12, g13, g14, g15, g16, g17, g18, g19, g20, undef] H (loopQ (laws_heldFloat32S_I1 a_a a_e a_n Inv) μ Q)) : loopK (exK Try.prog E_laws_heldFloat32S (cl (cl (cr (cl (cr (bodyC Try.f23))))))) [.slice a_a a_n a_e, .int .i64 k_1, undef, undef, .int .i64 t4, .int .i64 i, g6, g7, g8, g9, g10, g11, g12, g13, g14, g15, g16, g17, g18, g19, g20, undef] H Q :=
  ⟨laws_heldFloat32S_I1 a_a a_e a_n Inv, ν, ⟨k_1, t4, i, g6, g7, g8, g9, g10, g11, g12, g13, g14, g15, g16, g17, g18, g19, g20, rfl, h0⟩, fun μ tm H h => by obtain ⟨k_1, t4, i, g6, g7, g8, g9, g10, g11, g12, g13, g14, g15, g16, g17, g18, g19, g20, rfl, hI⟩ := h; exact hs μ k_1 t4 i g6 g7 g8 g9 g10 g11 g12 g13 g14 g15 g16 g17 g18 g19 g20 H hI⟩
theorem laws_heldFloat32S_n1 {a_a : Option Addr} {a_e : Nat} {a_n : Nat} {Q : Post} {Inv : Nat → Int → Int → Int → AHeap → Prop} {μ : Nat} (μ' : Nat) {k_1 : Int} {t4 : Int} {i : Int} {g6 g7 g8 g9 g10 g11 g12 g13 g14 g15 g16 g17 g18 g19 g20 : Value} {H : AHeap} (hm : μ' < μ) (hI : Inv μ' k_1 t4 i H) : loopQ (laws_heldFloat32S_I1 a_a a_e a_n Inv) μ Q .normal [.slice a_a a_n a_e, .int .i64 k_1, undef, undef, .int .i64 t4, .int .i64 i, g6, g7, g8, g9, g10, g11, g12, g13, g14, g15, g16, g17, g18, g19, g20, undef] H := ⟨μ', hm, k_1, t4, i, g6, g7, g8, g9, g10, g11, g12, g13, g14, g15, g16, g17, g18, g19, g20, rfl, hI⟩
theorem laws_heldFloat32S_x1_0 (a_a : Option Addr) (a_e : Nat) (a_n : Nat) (k_1 : Int) (t4 : Int) (i : Int) (g6 g7 g8 g9 g10 g11 g12 g13 g14 g15 g16 g17 g18 g19 g20 : Value) (H : AHeap) (K : Value → AHeap → Prop)  {I : Nat → List Value → AHeap → Prop} {μ : Nat} : loopQ I μ (blockQ 0 (seqQ (exK Try.prog E_laws_heldFloat32S (cr (cr (bodyC Try.f23)))) (retK Try.prog Try.f23 K))) (.exit 0) [.slice a_a a_n a_e, .int .i64 k_1, undef, undef, .int .i64 t4, .int .i64 i, g6, g7, g8, g9, g10, g11, g12, g13, g14, g15, g16, g17, g18, g19, g20, undef] H =
  (K (.int .i64 k_1) H) := by kernel_rfl
theorem laws_heldFloat32S_x1_ret (a_a : Option Addr) (a_e : Nat) (a_n : Nat) (k_1 : Int) (t4 : Int) (i : Int) (g6 g7 g8 g9 g10 g11 g12 g13 g14 g15 g16 g17 g18 g19 g20 : Value) (H : AHeap) (K : Value → AHeap → Prop)  {I : Nat → List Value → AHeap → Prop} {μ : Nat} : loopQ I μ (blockQ 0 (seqQ (exK Try.prog E_laws_heldFloat32S (cr (cr (bodyC Try.f23)))) (retK Try.prog Try.f23 K))) .ret [.slice a_a a_n a_e, .int .i64 k_1, undef, undef, .int .i64 t4, .int .i64 i, g6, g7, g8, g9, g10, g11, g12, g13, g14, g15, g16, g17, g18, g19, g20, undef] H =
  (K (.int .i64 t4) H) := by kernel_rfl
theorem E_laws_heldFloat32S_ok : ∀ g, FnOk Try.prog g (E_laws_heldFloat32S g) := FnOk.envOf (by
  intro x hx; cases hx)
set_option maxHeartbeats 1000000 in
theorem laws_heldFloat32S_main (a_a : Option Addr) (a_n : Nat) (a_e : Nat) (k : Int) (H : AHeap) (K : Value → AHeap → Prop) (h : T_laws_heldFloat32S a_a a_n a_e k H fun (r1 : Int) (H' : AHeap) => K (.int .i64 r1) H') : bodyK Try.prog E_laws_heldFloat32S Try.f23 [.slice a_a a_n a_e, .int .i64 k] H K := by
  rw [laws_heldFloat32S_vc]
  obtain ⟨l_a, i_a, bd_9, hk⟩ := h
  obtain rfl := i_a.eqn
  have e : (p_laws_heldFloat32S l_a k) = _ := rfl
  have e := e.trans (p_laws_heldFloat32S_eq l_a k)
  have g0 := Grow.refl H
  refine laws_heldFloat32S_L1 _ _ _ (fun (μ : Nat) (k_1 : Int) (t4 : Int) (i : Int) (H_1 : AHeap) => H = H_1 ∧ (0 : Int) ≤ i ∧ i ≤ (l_a.length : Int) ∧ (l_a.length : Int) - i ≤ (μ : Int) ∧ p_laws_heldFloat32S l_a k = p_laws_heldFloat32S_l1 l_a k (μ + 1) k_1 t4 i) (Int.toNat ((l_a.length : Int) - (0 : Int))) _ _ _ _ _ _ _ _ _ _ _ _ _ _ _ _ _ _ H ?_ ?_
  · exact ⟨rfl, (by first | omega | (simp; done) | (simp; omega)), (by first | omega | (simp; done) | (simp; omega)), (by omega), e⟩
  · intro μ k_1 t4 i g6 g7 g8 g9 g10 g11 g12 g13 g14 g15 g16 g17 g18 g19 g20 H_1 hI
    obtain ⟨rfl, v_1, v_2, hμ, e⟩ := hI
    rw [laws_heldFloat32S_r1]
    have e := e.trans (p_laws_heldFloat32S_l1_s l_a k μ k_1 t4 i)
    have l_3 := g0.1
    refine Br.intro (fun c_4 => ?_) (fun c_4 => ?_)
    · have e := e.trans (cond_t c_4)
      have c_4' := of_decide_eq_true c_4
      obtain ⟨b_5, f_6, q_7⟩ := ((i_a.grow g0)).pos (by first | omega | (simp only [List.length_set, List.length_replicate, List.length_append, List.length_cons, List.length_nil, List.length_take, List.length_drop, marks_length]; done) | (simp only [List.length_set, List.length_replicate, List.length_append, List.length_cons, List.length_nil, List.length_take, List.length_drop, marks_length]; omega))
      refine ⟨by omega, by omega, b_5, f_6, q_7, ?_⟩
      refine ⟨((l_a).getD (i : Int).toNat 0), (i_a).rd g0 q_7 (by omega) _, ?_⟩
      refine Br.intro (fun c_8 => ?_) (fun c_8 => ?_)
      · have e := e.trans (cond_t c_8)
        have c_8n := nf_of_t c_8
        rw [laws_heldFloat32S_x1_ret]
        rw [e] at hk
        exact hk
      · have e := e.trans (cond_f c_8)
        have c_8n := nt_of_f c_8
        rw [show IntKind.wrap .i64 (i + 1) = (i + 1) from wrap64 (by omega) (by omega)]
        refine laws_heldFloat32S_n1 (μ - 1) (by first | omega) ⟨rfl, (by first | omega | (simp only [List.length_append, List.length_cons, List.length_nil, List.length_set]; done) | (simp only [List.length_append, List.length_cons, List.length_nil, List.length_set]; omega)), (by first | omega | (simp only [List.length_append, List.length_cons, List.length_nil, List.length_set]; done) | (simp only [List.length_append, List.length_cons, List.length_nil, List.length_set]; omega)), (by first | omega), (by rw [show μ - 1 + 1 = μ from by first | omega]; exact e)⟩
    · have e := e.trans (cond_f c_4)
      have c_4' := of_decide_eq_false c_4
      rw [laws_heldFloat32S_x1_0]
      rw [e] at hk
      exact hk
theorem laws_heldFloat32S_ok : FnOk Try.prog 23 S_laws_heldFloat32S := by
  refine FnOk.body mix_ok E_laws_heldFloat32S_ok Try.func23 rfl (by kernel_rfl) (by kernel_rfl) ?_ ?_ ?_ ?_ ?_
  · intro args H K K' h hk
    simp only [S_laws_heldFloat32S] at *
    unfold F_laws_heldFloat32S at *
    split at hk
    · obtain ⟨l_a, i_a, bd_9, k⟩ := hk
      exact ⟨l_a, i_a, bd_9, h _ _ k⟩
    · exact hk.elim
  · intro _ args H K hk
    simp only [S_laws_heldFloat32S] at *
    unfold F_laws_heldFloat32S at *
    split at hk
    · obtain ⟨l_a, i_a, bd_9, k⟩ := hk
      exact ⟨_, k, fun K' k' => ⟨l_a, i_a, bd_9, k'⟩⟩
    · exact hk.elim
  · intro args H K hk
    simp only [S_laws_heldFloat32S] at *
    unfold F_laws_heldFloat32S at *
    split at hk
    · obtain ⟨l_a, i_a, bd_9, k⟩ := hk
      exact ⟨_, _, k⟩
    · exact hk.elim
  · intro hq; cases hq
  · have mm := @laws_heldFloat32S_main
    revert mm
    generalize bodyK Try.prog E_laws_heldFloat32S Try.f23 = Q
    intro mm args H K hk
    simp only [S_laws_heldFloat32S] at *
    unfold F_laws_heldFloat32S at *
    split at hk
    · exact mm _ _ _ _ H K hk
    · exact hk.elim

def p_laws_FnExactEnergiesIn (aP_Wide : Int) (aP_High : Int) (l_aP_Lights : List Nat) (aLevels : Int) : Bool := ((bif decide (((p_laws_szPicture aP_Wide aP_High l_aP_Lights (1048576 : Int)) : Int) < 0) then true else (bif !((p_laws_eqFloat32S ((p_impl_EnergiesIn aP_Wide aP_High l_aP_Lights aLevels).1) ((p_spec_EnergiesIn aP_Wide aP_High l_aP_Lights aLevels).1))) then false else (bif !(((p_impl_EnergiesIn aP_Wide aP_High l_aP_Lights aLevels).2) == ((p_spec_EnergiesIn aP_Wide aP_High l_aP_Lights aLevels).2)) then false else (bif !(p_laws_eqPicture aP_Wide aP_High l_aP_Lights aP_Wide aP_High l_aP_Lights) then false else (bif decide (((wk (1 : Int) l_aP_Lights.length) : Int) < 0) then false else (bif !((p_laws_eqFloat32S ((p_impl_EnergiesIn aP_Wide aP_High l_aP_Lights aLevels).1) ((p_spec_EnergiesIn aP_Wide aP_High l_aP_Lights aLevels).1))) then false else (bif !(((p_impl_EnergiesIn aP_Wide aP_High l_aP_Lights aLevels).2) == ((p_spec_EnergiesIn aP_Wide aP_High l_aP_Lights aLevels).2)) then false else (bif decide (((p_laws_heldFloat32S ((marks (FloatKind.nearest .f32) (1 : Int) ((p_impl_EnergiesIn aP_Wide aP_High l_aP_Lights aLevels).1).length)) (1 : Int)) : Int) < 0) then false else (bif ((p_laws_heldFloat32S ((marks (FloatKind.nearest .f32) (1 : Int) ((p_impl_EnergiesIn aP_Wide aP_High l_aP_Lights aLevels).1).length)) (1 : Int)) : Int) != (wk (1 : Int) ((p_impl_EnergiesIn aP_Wide aP_High l_aP_Lights aLevels).1).length) then false else (bif !((p_laws_eqFloat32S ((p_impl_EnergiesIn aP_Wide aP_High l_aP_Lights aLevels).1) ((p_spec_EnergiesIn aP_Wide aP_High l_aP_Lights aLevels).1))) then false else (bif !(((p_impl_EnergiesIn aP_Wide aP_High l_aP_Lights aLevels).2) == ((p_spec_EnergiesIn aP_Wide aP_High l_aP_Lights aLevels).2)) then false else (bif decide (((p_laws_heldFloat32S ((marks (FloatKind.nearest .f32) (1 : Int) ((p_impl_EnergiesIn aP_Wide aP_High l_aP_Lights aLevels).1).length)) (1 : Int)) : Int) < 0) then false else (bif ((p_laws_heldFloat32S ((marks (FloatKind.nearest .f32) (1 : Int) ((p_impl_EnergiesIn aP_Wide aP_High l_aP_Lights aLevels).1).length)) (1 : Int)) : Int) != (wk (1 : Int) ((p_impl_EnergiesIn aP_Wide aP_High l_aP_Lights aLevels).1).length) then false else true))))))))))))))
theorem p_laws_FnExactEnergiesIn_eq (aP_Wide : Int) (aP_High : Int) (l_aP_Lights : List Nat) (aLevels : Int) : p_laws_FnExactEnergiesIn aP_Wide aP_High l_aP_Lights aLevels = ((bif decide (((p_laws_szPicture aP_Wide aP_High l_aP_Lights (1048576 : Int)) : Int) < 0) then true else (bif !((p_laws_eqFloat32S ((p_impl_EnergiesIn aP_Wide aP_High l_aP_Lights aLevels).1) ((p_spec_EnergiesIn aP_Wide aP_High l_aP_Lights aLevels).1))) then false else (bif !(((p_impl_EnergiesIn aP_Wide aP_High l_aP_Lights aLevels).2) == ((p_spec_EnergiesIn aP_Wide aP_High l_aP_Lights aLevels).2)) then false else (bif !(p_laws_eqPicture aP_Wide aP_High l_aP_Lights aP_Wide aP_High l_aP_Lights) then false else (bif decide (((wk (1 : Int) l_aP_Lights.length) : Int) < 0) then false else (bif !((p_laws_eqFloat32S ((p_impl_EnergiesIn aP_Wide aP_High l_aP_Lights aLevels).1) ((p_spec_EnergiesIn aP_Wide aP_High l_aP_Lights aLevels).1))) then false else (bif !(((p_impl_EnergiesIn aP_Wide aP_High l_aP_Lights aLevels).2) == ((p_spec_EnergiesIn aP_Wide aP_High l_aP_Lights aLevels).2)) then false else (bif decide (((p_laws_heldFloat32S ((marks (FloatKind.nearest .f32) (1 : Int) ((p_impl_EnergiesIn aP_Wide aP_High l_aP_Lights aLevels).1).length)) (1 : Int)) : Int) < 0) then false else (bif ((p_laws_heldFloat32S ((marks (FloatKind.nearest .f32) (1 : Int) ((p_impl_EnergiesIn aP_Wide aP_High l_aP_Lights aLevels).1).length)) (1 : Int)) : Int) != (wk (1 : Int) ((p_impl_EnergiesIn aP_Wide aP_High l_aP_Lights aLevels).1).length) then false else (bif !((p_laws_eqFloat32S ((p_impl_EnergiesIn aP_Wide aP_High l_aP_Lights aLevels).1) ((p_spec_EnergiesIn aP_Wide aP_High l_aP_Lights aLevels).1))) then false else (bif !(((p_impl_EnergiesIn aP_Wide aP_High l_aP_Lights aLevels).2) == ((p_spec_EnergiesIn aP_Wide aP_High l_aP_Lights aLevels).2)) then false else (bif decide (((p_laws_heldFloat32S ((marks (FloatKind.nearest .f32) (1 : Int) ((p_impl_EnergiesIn aP_Wide aP_High l_aP_Lights aLevels).1).length)) (1 : Int)) : Int) < 0) then false else (bif ((p_laws_heldFloat32S ((marks (FloatKind.nearest .f32) (1 : Int) ((p_impl_EnergiesIn aP_Wide aP_High l_aP_Lights aLevels).1).length)) (1 : Int)) : Int) != (wk (1 : Int) ((p_impl_EnergiesIn aP_Wide aP_High l_aP_Lights aLevels).1).length) then false else true)))))))))))))) := rfl
def T_laws_FnExactEnergiesIn (aP_Wide : Int) (aP_High : Int) (aP_Lights_a : Option Addr) (aP_Lights_n : Nat) (aP_Lights_e : Nat) (aLevels : Int) (H : AHeap) (K : Bool → AHeap → Prop) : Prop := ∃ l_aP_Lights : List Nat, I64 aP_Wide ∧ I64 aP_High ∧ IsL fF H aP_Lights_a aP_Lights_n l_aP_Lights ∧ (∀ y ∈ l_aP_Lights, W32 y) ∧ l_aP_Lights.length ≤ 9223372036854775807 ∧ I64 aLevels ∧ ∀ H' : AHeap, K true H'
theorem spec_fin (x : Nat) : p_spec_l01Finite x = fin .f32 x := fin_asked x
theorem impl_fin (x : Nat) : p_impl_IsFinite x = fin .f32 x := fin_asked x
theorem w32_wd {x : Nat} (h : W32 x) : Wd .f32 x := ⟨h.1, h.2⟩
theorem wd_w32 {x : Nat} (h : Wd .f32 x) : W32 x := ⟨h.1, h.2⟩
theorem l02Finite_go (l : List Nat) : ∀ (μ : Nat) (t : Bool) (i : Nat), l.length - i < μ → p_spec_l02Finite_l1 l μ t (i : Int) = (l.drop i).all (fin .f32) := by
  intro μ
  induction μ with
  | zero => intro t i h; omega
  | succ μ ih =>
    intro t i hm
    rw [p_spec_l02Finite_l1_s]
    by_cases h : i < l.length
    · rw [decide_eq_true (show (i : Int) < (l.length : Int) by omega), cond_true, Int.toNat_natCast, spec_fin]
      rw [List.drop_eq_getElem_cons h, List.all_cons, List.getD_eq_getElem?_getD, List.getElem?_eq_getElem h, Option.getD_some]
      have := ih t (i + 1) (by omega)
      cases fin .f32 l[i]
      · rfl
      · simp only [Bool.not_true, cond_false, Bool.true_and]; exact this
    · rw [decide_eq_false (show ¬ (i : Int) < (l.length : Int) by omega), cond_false, List.drop_eq_nil_of_le (by omega)]; rfl
theorem l02Finite_all (l : List Nat) : p_spec_l02Finite l = l.all (fin .f32) := by
  rw [p_spec_l02Finite_eq]
  have := l02Finite_go l (Int.toNat ((l.length : Int) - (0 : Int)) + 1) false 0 (by omega)
  simpa using this
theorem areFinite_in (ls : List (List Nat)) (t2 : Bool) (t9 : Int) (k : Bool → Int → Bool) : ∀ (μ : Nat) (t : Bool) (i : Nat), i ≤ (ls.getD t9.toNat []).length → (ls.getD t9.toNat []).length - i < μ →
    p_impl_areFinite_l2 ls t2 t9 k μ t (i : Int) = bif ((ls.getD t9.toNat []).drop i).all (fin .f32) then k t ((ls.getD t9.toNat []).length : Int) else false := by
  intro μ
  generalize hl : ls.getD t9.toNat [] = l
  induction μ with
  | zero => intro t i _ h; omega
  | succ μ ih =>
    intro t i hi hm
    rw [p_impl_areFinite_l2_s, hl]
    by_cases h : i < l.length
    · rw [decide_eq_true (show (i : Int) < (l.length : Int) by omega), cond_true, Int.toNat_natCast, impl_fin]
      rw [List.drop_eq_getElem_cons h, List.all_cons, List.getD_eq_getElem?_getD, List.getElem?_eq_getElem h, Option.getD_some]
      have := ih t (i + 1) (by omega) (by omega)
      cases fin .f32 l[i]
      · rfl
      · simp only [Bool.not_true, cond_false, Bool.true_and]; exact this
    · rw [decide_eq_false (show ¬ (i : Int) < (l.length : Int) by omega), cond_false, List.drop_eq_nil_of_le (by omega), show i = l.length by omega]; rfl
theorem areFinite_go (ls : List (List Nat)) : ∀ (μ : Nat) (t : Bool) (i : Nat), ls.length - i < μ → p_impl_areFinite_l1 ls μ t (i : Int) = (ls.drop i).all (fun l => l.all (fin .f32)) := by
  intro μ
  induction μ with
  | zero => intro t i h; omega
  | succ μ ih =>
    intro t i hm
    rw [p_impl_areFinite_l1_s]
    by_cases h : i < ls.length
    · rw [decide_eq_true (show (i : Int) < (ls.length : Int) by omega), cond_true]
      have := areFinite_in ls t (i : Int) (fun t2 t15 => p_impl_areFinite_l1 ls μ t2 ((i : Int) + 1)) (Int.toNat ((((ls).getD ((i : Int) : Int).toNat []).length : Int) - (0 : Int)) + 1) t 0 (Nat.zero_le _) (by omega)
      refine Eq.trans this ?_
      rw [Int.toNat_natCast, List.drop_zero, List.drop_eq_getElem_cons h, List.all_cons, List.getD_eq_getElem?_getD, List.getElem?_eq_getElem h, Option.getD_some]
      have := ih t (i + 1) (by omega)
      cases ls[i].all (fin .f32)
      · rfl
      · simp only [cond_true, Bool.true_and]; exact this
    · rw [decide_eq_false (show ¬ (i : Int) < (ls.length : Int) by omega), cond_false, List.drop_eq_nil_of_le (by omega)]; rfl
theorem areFinite_all (ls : List (List Nat)) : p_impl_areFinite ls = ls.all (fun l => l.all (fin .f32)) := by
  rw [p_impl_areFinite_eq]
  have := areFinite_go ls (Int.toNat ((ls.length : Int) - (0 : Int)) + 1) false 0 (by omega)
  simpa using this
theorem finite_same (l : List Nat) : p_impl_areFinite [l] = p_spec_l02Finite l := by rw [areFinite_all, l02Finite_all]; simp
theorem fin_getDL {l : List Nat} (h : l.all (fin .f32) = true) (i : Nat) : fin .f32 (l.getD i 0) = true := by
  rw [List.getD_eq_getElem?_getD]
  cases hx : l[i]? with
  | none => exact fin_zero _
  | some x => exact List.all_eq_true.1 h x (List.mem_of_getElem? hx)
theorem validP_same (w h : Int) (l : List Nat) : p_impl_ValidPicture w h l = p_spec_l04Is w h l := by
  rw [p_impl_ValidPicture_eq, p_spec_l04Is_eq, p_spec_l04Sides_eq, finite_same]
  show (bif p_spec_l00In w 1 16 then (bif p_spec_l00In h 1 16 then _ else false) else false) = _
  cases p_spec_l00In w 1 16 <;> rfl
theorem within_true {n a b : Int} (h1 : a ≤ n) (h2 : n ≤ b) : p_impl_within n a b = true := by
  unfold p_impl_within; rw [decide_eq_true h1, decide_eq_true h2]; rfl
theorem within_below {n a b : Int} (h : n < a) : p_impl_within n a b = false := by
  unfold p_impl_within; rw [decide_eq_false (by omega)]; rfl
theorem valid_mk {w h : Int} {l : List Nat} (h1 : 1 ≤ w) (h2 : w ≤ 16) (h3 : 1 ≤ h) (h4 : h ≤ 16) (hl : (l.length : Int) = w * h) (hf : l.all (fin .f32) = true) : p_impl_ValidPicture w h l = true := by
  have hm := side_mul (W := w) (H := h) h1 h2 h3 h4
  rw [p_impl_ValidPicture_eq, within_true h1 h2, within_true h3 h4, cond_true, cond_true, areFinite_all, wrap64 (n := w * h) (by omega) (by omega), hl]
  simp [hf]
theorem valid_fin {w h : Int} {l : List Nat} (hh : p_impl_ValidPicture w h l = true) : l.all (fin .f32) = true := by
  rw [p_impl_ValidPicture_eq, areFinite_all] at hh
  simp only [Bool.cond_false_right, Bool.and_eq_true] at hh
  simpa using hh.2.2.2
theorem picL_fin {L : List Nat} (hf : L.all (fin .f32) = true) (x y W : Int) (w h : Nat) : (picL w h (cropF L x y W)).all (fin .f32) = true :=
  List.all_eq_true.2 fun z hz => by
    obtain ⟨u, v, _, _, rfl⟩ := picL_mem hz
    exact fin_getDL hf _
/-- A part that lies in a valid picture. -/
theorem crop_ok {W H : Int} {L : List Nat} (hv : p_impl_ValidPicture W H L = true) {x y w h : Int} (h1 : 0 ≤ x) (h2 : 0 ≤ y) (h3 : 1 ≤ w) (h4 : 1 ≤ h) (h5 : x + w ≤ W) (h6 : y + h ≤ H) :
    p_impl_CropPicture W H L x y w h = (w, h, picL w.toNat h.toNat (cropF L x y W), true) := by
  have hb := impl_ValidPicture_t hv
  have hf := valid_fin hv
  rw [p_impl_CropPicture_eq]
  have e1 : p_impl_isPartAt W H L x y w h = true := by
    rw [p_impl_isPartAt_eq, hv, cond_true, within_true h1 (by omega), cond_true, within_true h2 (by omega), cond_true, wrap64 (n := W - x) (by omega) (by omega), wrap64 (n := H - y) (by omega) (by omega), within_true h3 (by omega), cond_true, within_true h4 (by omega)]
  rw [e1, Bool.not_true, cond_false, impl_pictureBy_is]
  have e2 : (fun u v => p_impl_CropPicture_1 u v W H L y x) = cropF L x y W := by
    funext u v; exact impl_CropPicture_1_is u v W H L y x
  rw [e2]
  have e3 : p_impl_ValidPicture w h (picL w.toNat h.toNat (cropF L x y W)) = true := by
    refine valid_mk h3 (by omega) h4 (by omega) ?_ (picL_fin hf _ _ _ _ _)
    rw [picL_length, Int.natCast_mul, Int.toNat_of_nonneg (by omega), Int.toNat_of_nonneg (by omega), Int.mul_comm]
  have e4 : p_impl_validPicture w h (picL w.toNat h.toNat (cropF L x y W)) = (w, h, picL w.toNat h.toNat (cropF L x y W), true) := by rw [p_impl_validPicture_eq, e3]; rfl
  rw [e4, within_true h3 (by omega), within_true h4 (by omega)]
  rfl
theorem crop_no {W H : Int} {L : List Nat} {x y w h : Int} (hh : p_impl_isPartAt W H L x y w h = false) : p_impl_CropPicture W H L x y w h = (0, 0, [], false) := by
  rw [p_impl_CropPicture_eq, hh]; rfl
theorem region_same {W H level band : Int} (h1 : 1 ≤ W) (h2 : W ≤ 16) (h3 : 1 ≤ H) (h4 : H ≤ 16) (h5 : 1 ≤ level) (h6 : level ≤ 4) (h7 : 0 ≤ band) (h8 : band ≤ 3) :
    p_impl_RegionOf W H level band = ((p_spec_l04Region W H level band).1, (p_spec_l04Region W H level band).2.1, (p_spec_l04Region W H level band).2.2.1, (p_spec_l04Region W H level band).2.2.2, true) := by
  have r1 := halves_rng (level - 1).toNat W h1 h2
  have r2 := halves_rng (level - 1).toNat H h3 h4
  rw [p_impl_RegionOf_eq, p_spec_l04Region_eq, within_true h1 h2, within_true h3 h4, within_true h7 h8, show p_impl_areLevels level = true from within_true h5 h6]
  rw [l04Halves_is W H _ h1 h2 h3 h4, impl_halfOf_is W _ h1 h2, impl_halfOf_is H _ h3 h4]
  simp only [Bool.not_true, cond_false]
  rw [l04Halves_is _ _ 1 r1.1 (by omega) r2.1 (by omega), impl_halfOf_is _ 1 r1.1 (by omega), impl_halfOf_is _ 1 r2.1 (by omega)]
  cases ((band : Int) == 0) <;> cases ((band : Int) == 1) <;> cases ((band : Int) == 2) <;> rfl
theorem band_same {W H : Int} {L : List Nat} (hv : p_impl_ValidPicture W H L = true) {level band : Int} (h5 : 1 ≤ level) (h6 : level ≤ 4) (h7 : 0 ≤ band) (h8 : band ≤ 3) :
    (p_impl_BandOf W H L level band).2.2.1 = (p_spec_l04Band W H L level band).2.2 := by
  obtain ⟨h1, h2, h3, h4, hl, _, _⟩ := impl_ValidPicture_t hv
  have z := l04Region_rng W H level band ⟨h1, h2, h3, h4⟩
  rw [p_impl_BandOf_eq, region_same h1 h2 h3 h4 h5 h6 h7 h8, l04Band_is W H L level band h1 h2 h3 h4]
  generalize (p_spec_l04Region W H level band) = r at *
  simp only [Bool.not_true, cond_false]
  by_cases e1 : r.2.2.1 = 0
  · rw [crop_no (by
      rw [p_impl_isPartAt_eq, within_below (n := r.2.2.1) (by omega)]
      simp)]
    rw [e1]; rfl
  · by_cases e2 : r.2.2.2 = 0
    · rw [crop_no (by
        rw [p_impl_isPartAt_eq, within_below (n := r.2.2.2) (by omega)]
        simp)]
      rw [e2]; simp
    · rw [crop_ok hv z.1 z.2.1 (by omega) (by omega) z.2.2.2.2.1 z.2.2.2.2.2]
      have n1 : (r.2.2.1 == (0 : Int)) = false := by simpa using e1
      have n2 : (r.2.2.2 == (0 : Int)) = false := by simpa using e2
      rw [n1, n2]; rfl
theorem squares_go (l : List Nat) : ∀ (μ : Nat) (s : Nat) (i : Int), p_impl_squares_l1 l μ s i = p_spec_l02Energy_l1 l μ s i := by
  intro μ
  induction μ with
  | zero => intro s i; rfl
  | succ μ ih => intro s i; rw [p_impl_squares_l1_s, p_spec_l02Energy_l1_s, ih]
theorem squares_same (l : List Nat) : p_impl_squares l = p_spec_l02Energy l := by rw [p_impl_squares_eq, p_spec_l02Energy_eq, squares_go]
theorem list_same (l : List Nat) : (bif (p_impl_finiteList l).2 then (l, true) else ([], false)) = ((p_spec_l02List l).1, (p_spec_l02List l).2) := by
  rw [p_impl_finiteList_eq, p_spec_l02List_eq, finite_same]
  cases p_spec_l02Finite l <;> rfl
theorem wk_one {n : Nat} (h : n < 1073741824) : decide (wk 1 n < (0 : Int)) = false := by
  rw [wk_eq n 1 (by omega) (by omega)]; exact decide_eq_false (by omega)
theorem energies_in {W H : Int} {L : List Nat} (hv : p_impl_ValidPicture W H L = true) {levels level : Int} (h5 : 1 ≤ level) (h6 : level ≤ 4) (vo : List Nat) {k k' : List Nat → Int → List Nat × Bool} (hk : ∀ o b, k o b = k' o b) : ∀ (μ : Nat) (o : List Nat) (b : Int), 0 ≤ b →
    p_impl_EnergiesIn_l2 W H L levels vo level k μ o b = p_spec_EnergiesIn_l2 W H L levels vo level k' μ o b := by
  intro μ
  induction μ with
  | zero => intro o b _; rfl
  | succ μ ih =>
    intro o b hb
    rw [p_impl_EnergiesIn_l2_s, p_spec_EnergiesIn_l2_s]
    by_cases h : b ≤ 3
    · rw [decide_eq_true h, cond_true, cond_true, ih _ _ (by omega), p_impl_energyIn_eq, band_same hv h5 h6 hb h, squares_same]
    · rw [decide_eq_false h, cond_false, cond_false, hk]
theorem energies_out {W H : Int} {L : List Nat} (hv : p_impl_ValidPicture W H L = true) {levels : Int} (h5 : 1 ≤ levels) (h6 : levels ≤ 4) : ∀ (μ : Nat) (o : List Nat) (level : Int), 1 ≤ level →
    p_impl_EnergiesIn_l1 W H L levels μ o level = p_spec_EnergiesIn_l1 W H L levels μ o level := by
  intro μ
  induction μ with
  | zero => intro o l _; rfl
  | succ μ ih =>
    intro o l hl
    rw [p_impl_EnergiesIn_l1_s, p_spec_EnergiesIn_l1_s]
    by_cases h : l ≤ levels
    · rw [decide_eq_true h, cond_true, cond_true]
      exact energies_in hv hl (by omega) o (fun o' b => ih o' (l + 1) (by omega)) _ _ _ (by decide)
    · rw [decide_eq_false h, cond_false, cond_false, p_impl_energyIn_eq, band_same hv h5 h6 (by decide) (by decide), squares_same, list_same]
theorem energies_same (W H : Int) (L : List Nat) (levels : Int) : p_impl_EnergiesIn W H L levels = p_spec_EnergiesIn W H L levels := by
  rw [p_impl_EnergiesIn_eq, p_spec_EnergiesIn_eq]
  cases hv : p_impl_ValidPicture W H L with
  | false => rw [← validP_same, hv]; rfl
  | true =>
    rw [← validP_same, hv]
    have el : p_impl_areLevels levels = p_spec_l04Levels levels := rfl
    cases hL : p_spec_l04Levels levels with
    | false => rw [el, hL]; rfl
    | true =>
      have hb := spec_l04Levels_t hL
      rw [el, hL]
      simp only [Bool.not_true, cond_false]
      exact energies_out hv hb.1 hb.2 _ _ _ (by decide)
theorem laws_FnExactEnergiesIn_true (aP_Wide : Int) (aP_High : Int) (l_aP_Lights : List Nat) (aLevels : Int) (q0 : I64 aP_Wide) (q1 : I64 aP_High) (q2 : (∀ y ∈ l_aP_Lights, W32 y)) (ql : l_aP_Lights.length ≤ 9223372036854775807) (q3 : I64 aLevels) : p_laws_FnExactEnergiesIn aP_Wide aP_High l_aP_Lights aLevels = true := by
  rw [p_laws_FnExactEnergiesIn_eq, energies_same]
  by_cases hL : p_laws_szPicture aP_Wide aP_High l_aP_Lights (1048576 : Int) < 0
  · rw [decide_eq_true hL]; rfl
  · have hr := spec_EnergiesIn_len aP_Wide aP_High l_aP_Lights aLevels
    rw [decide_eq_false hL, cond_false]
    have hs : l_aP_Lights.length < 1073741824 := by
      have := laws_szPicture_f aP_Wide aP_High l_aP_Lights 1048576 (by decide) (by decide) ql
      omega
    simp only [laws_eqFloat32S_self, laws_eqPicture_self, laws_heldFloat32S_marks, Bool.not_true, cond_false, beq_self_eq_true, bne_self_eq_false, wk_one hs, wk_one (show (p_spec_EnergiesIn aP_Wide aP_High l_aP_Lights aLevels).1.length < 1073741824 by omega)]
/-! laws_FnExactEnergiesIn: function 10 -/
def E_laws_FnExactEnergiesIn : Env := envOf [(37, S_laws_szPicture), (39, S_laws_toPicture), (38, S_spec_EnergiesIn), (40, S_impl_EnergiesIn), (19, S_laws_eqFloat32S), (41, S_laws_eqPicture), (42, S_laws_markPicture), (22, S_laws_markFloat32S), (23, S_laws_heldFloat32S)]
def F_laws_FnExactEnergiesIn : List Value → AHeap → (Value → AHeap → Prop) → Prop
  | [.agg ⟨[.int .i64 aP_Wide, .int .i64 aP_High, .slice aP_Lights_a aP_Lights_n aP_Lights_e]⟩, .int .i64 aLevels], H, K => T_laws_FnExactEnergiesIn aP_Wide aP_High aP_Lights_a aP_Lights_n aP_Lights_e aLevels H fun (r1 : Bool) (H' : AHeap) => K (.bool r1) H'
  | _, _, _ => False
def S_laws_FnExactEnergiesIn : FSpec := { F := F_laws_FnExactEnergiesIn, quiet := false, tame := false }
theorem laws_FnExactEnergiesIn_vc (aP_Wide : Int) (aP_High : Int) (aP_Lights_a : Option Addr) (aP_Lights_n : Nat) (aP_Lights_e : Nat) (aLevels : Int) (H : AHeap) (K : Value → AHeap → Prop) : bodyK Try.prog E_laws_FnExactEnergiesIn Try.f10 [.agg #[.int .i64 aP_Wide, .int .i64 aP_High, .slice aP_Lights_a aP_Lights_n aP_Lights_e], .int .i64 aLevels] H K =
  (Al [.int .i64 aP_Wide, .int .i64 aP_High, .slice aP_Lights_a aP_Lights_n aP_Lights_e] H fun b1 H1 => ∃ c1 : Int, ∃ c2 : Int, ∃ c3_a : Option Addr, ∃ c3_n : Nat, ∃ c3_e : Nat,  rdN H1 b1 0 3 = some [.int .i64 c1, .int .i64 c2, .slice c3_a c3_n c3_e] ∧ T_laws_szPicture c1 c2 c3_a c3_n c3_e 1048576 H1 fun (r1 : Int) (H2 : AHeap) => Br (decide ((r1 : Int) < 0)) (K (.bool true) H2) (∃ c4 : Int, ∃ c5 : Int, ∃ c6_a : Option Addr, ∃ c6_n : Nat, ∃ c6_e : Nat,  rdN H2 b1 0 3 = some [.int .i64 c4, .int .i64 c5, .slice c6_a c6_n c6_e] ∧ T_laws_toPicture c4 c5 c6_a c6_n c6_e H2 fun (r2 : Int) (r3 : Int) (a1 : Option Addr) (r4 : Nat) (r5 : Nat) (H3 : AHeap) => T_spec_EnergiesIn r2 r3 a1 r4 r5 aLevels H3 fun (a2 : Option Addr) (r6 : Nat) (r7 : Nat) (r8 : Bool) (H4 : AHeap) => ∃ c7 : Int, ∃ c8 : Int, ∃ c9_a : Option Addr, ∃ c9_n : Nat, ∃ c9_e : Nat,  rdN H4 b1 0 3 = some [.int .i64 c7, .int .i64 c8, .slice c9_a c9_n c9_e] ∧ T_laws_toPicture c7 c8 c9_a c9_n c9_e H4 fun (r9 : Int) (r10 : Int) (a3 : Option Addr) (r11 : Nat) (r12 : Nat) (H5 : AHeap) => Al [.int .i64 0, .int .i64 0, .slice none 0 0] H5 fun b2 H6 => isOwn H6 b2 ∧ (∃ l, rdN H6 b2 0 3 = some l) ∧ Lt (setN H6 b2 0 [.int .i64 r9, .int .i64 r10, .slice a3 r11 r12]) fun H7 => ∃ c10 : Int, ∃ c11 : Int, ∃ c12_a : Option Addr, ∃ c12_n : Nat, ∃ c12_e : Nat,  rdN H7 b2 0 3 = some [.int .i64 c10, .int .i64 c11, .slice c12_a c12_n c12_e] ∧ T_impl_EnergiesIn c10 c11 c12_a c12_n c12_e aLevels H7 fun (a4 : Option Addr) (r13 : Nat) (r14 : Nat) (r15 : Bool) (H8 : AHeap) => T_laws_eqFloat32S a4 r13 r14 a2 r6 r7 H8 fun (r16 : Bool) (H9 : AHeap) => Br (!r16) (K (.bool false) H9) (Br (!(r15 == r8)) (K (.bool false) H9) (∃ c13 : Int, ∃ c14 : Int, ∃ c15_a : Option Addr, ∃ c15_n : Nat, ∃ c15_e : Nat,  rdN H9 b1 0 3 = some [.int .i64 c13, .int .i64 c14, .slice c15_a c15_n c15_e] ∧ ∃ c16 : Int, ∃ c17 : Int, ∃ c18_a : Option Addr, ∃ c18_n : Nat, ∃ c18_e : Nat,  rdN H9 b2 0 3 = some [.int .i64 c16, .int .i64 c17, .slice c18_a c18_n c18_e] ∧ T_laws_toPicture c13 c14 c15_a c15_n c15_e H9 fun (r17 : Int) (r18 : Int) (a5 : Option Addr) (r19 : Nat) (r20 : Nat) (H10 : AHeap) => T_laws_eqPicture c16 c17 c18_a c18_n c18_e r17 r18 a5 r19 r20 H10 fun (r21 : Bool) (H11 : AHeap) => Br (!r21) (K (.bool false) H11) (∃ c19 : Int, ∃ c20 : Int, ∃ c21_a : Option Addr, ∃ c21_n : Nat, ∃ c21_e : Nat,  rdN H11 b2 0 3 = some [.int .i64 c19, .int .i64 c20, .slice c21_a c21_n c21_e] ∧ T_laws_markPicture c19 c20 c21_a c21_n c21_e 1 H11 fun (r22 : Int) (H12 : AHeap) => Br (decide ((r22 : Int) < 0)) (K (.bool false) H12) (T_laws_eqFloat32S a4 r13 r14 a2 r6 r7 H12 fun (r23 : Bool) (H13 : AHeap) => Br (!r23) (K (.bool false) H13) (Br (!(r15 == r8)) (K (.bool false) H13) (T_laws_markFloat32S a4 r13 r14 1 H13 fun (r24 : Int) (H14 : AHeap) => T_laws_heldFloat32S a4 r13 r14 1 H14 fun (r25 : Int) (H15 : AHeap) => Br (decide ((r25 : Int) < 0)) (K (.bool false) H15) (Br ((r25 : Int) != r24) (K (.bool false) H15) (∃ c22 : Int, ∃ c23 : Int, ∃ c24_a : Option Addr, ∃ c24_n : Nat, ∃ c24_e : Nat,  rdN H15 b1 0 3 = some [.int .i64 c22, .int .i64 c23, .slice c24_a c24_n c24_e] ∧ T_laws_toPicture c22 c23 c24_a c24_n c24_e H15 fun (r26 : Int) (r27 : Int) (a6 : Option Addr) (r28 : Nat) (r29 : Nat) (H16 : AHeap) => T_impl_EnergiesIn r26 r27 a6 r28 r29 aLevels H16 fun (a7 : Option Addr) (r30 : Nat) (r31 : Nat) (r32 : Bool) (H17 : AHeap) => T_laws_eqFloat32S a7 r30 r31 a2 r6 r7 H17 fun (r33 : Bool) (H18 : AHeap) => Br (!r33) (K (.bool false) H18) (Br (!(r32 == r8)) (K (.bool false) H18) (T_laws_heldFloat32S a4 r13 r14 1 H18 fun (r34 : Int) (H19 : AHeap) => Br (decide ((r34 : Int) < 0)) (K (.bool false) H19) (Br ((r34 : Int) != r24) (K (.bool false) H19) (K (.bool true) H19)))))))))))))) := by kernel_rfl
theorem E_laws_FnExactEnergiesIn_ok : ∀ g, FnOk Try.prog g (E_laws_FnExactEnergiesIn g) := FnOk.envOf (by
  intro x hx
  simp only [List.mem_cons, List.not_mem_nil, or_false] at hx
  rcases hx with rfl | rfl | rfl | rfl | rfl | rfl | rfl | rfl | rfl
  · exact laws_szPicture_ok
  · exact laws_toPicture_ok
  · exact spec_EnergiesIn_ok
  · exact impl_EnergiesIn_ok
  · exact laws_eqFloat32S_ok
  · exact laws_eqPicture_ok
  · exact laws_markPicture_ok
  · exact laws_markFloat32S_ok
  · exact laws_heldFloat32S_ok)
set_option maxHeartbeats 1000000 in
theorem laws_FnExactEnergiesIn_main (aP_Wide : Int) (aP_High : Int) (aP_Lights_a : Option Addr) (aP_Lights_n : Nat) (aP_Lights_e : Nat) (aLevels : Int) (H : AHeap) (K : Value → AHeap → Prop) (h : T_laws_FnExactEnergiesIn aP_Wide aP_High aP_Lights_a aP_Lights_n aP_Lights_e aLevels H fun (r1 : Bool) (H' : AHeap) => K (.bool r1) H') : bodyK Try.prog E_laws_FnExactEnergiesIn Try.f10 [.agg #[.int .i64 aP_Wide, .int .i64 aP_High, .slice aP_Lights_a aP_Lights_n aP_Lights_e], .int .i64 aLevels] H K := by
  rw [laws_FnExactEnergiesIn_vc]
  obtain ⟨l_aP_Lights, h_0, h_1, h_2, h_3, h_4, h_5, hk⟩ := h
  have i_aP_Lights := h_2
  obtain rfl := i_aP_Lights.eqn
  have hl := laws_FnExactEnergiesIn_true aP_Wide aP_High l_aP_Lights aLevels h_0 h_1 h_3 h_4 h_5
  have e : p_laws_FnExactEnergiesIn aP_Wide aP_High l_aP_Lights aLevels = _ := rfl
  have e := e.trans (p_laws_FnExactEnergiesIn_eq aP_Wide aP_High l_aP_Lights aLevels)
  have e := hl.symm.trans e
  have g0 := Grow.refl H
  refine Al.intro (fun b_1 H_1 hb_2 hl_3 g_4 o_5 => ?_)
  have l_7 := g_4.1
  have g_8 := g0.trans g_4
  have l_9 := g_8.1
  have w_227 := o_5.lt
  refine ⟨aP_Wide, aP_High, aP_Lights_a, l_aP_Lights.length, aP_Lights_e, (o_5.rdN (Nat.le_of_ble_eq_true rfl)).trans rfl, ?_⟩
  refine T_laws_szPicture_i ⟨_, (i_aP_Lights.grow g_8), fun  H_2 g_11  => ?_⟩
  have z_10 := laws_szPicture_f aP_Wide aP_High l_aP_Lights (1048576 : Int)
  have l_12 := g_11.1
  have g_13 := g_8.trans g_11
  have l_14 := g_13.1
  have o_15 := o_5.grow g_11
  have w_16 := o_15.lt
  refine Br.intro (fun c_17 => ?_) (fun c_17 => ?_)
  · have e := e.trans (cond_t c_17)
    have c_17' := of_decide_eq_true c_17
    first | exact hk _ | (exfalso; cases e; done) | (rw [← e]; exact hk _)
  · have e := e.trans (cond_f c_17)
    have c_17' := of_decide_eq_false c_17
    refine ⟨aP_Wide, aP_High, aP_Lights_a, l_aP_Lights.length, aP_Lights_e, (o_15.rdN (Nat.le_of_ble_eq_true rfl)).trans rfl, ?_⟩
    refine T_laws_toPicture_i ⟨_, (i_aP_Lights.grow g_13), (by first | omega | (simp only [List.length_set, List.length_replicate, List.length_append, List.length_cons, List.length_nil, List.length_take, List.length_drop, marks_length]; done) | (simp only [List.length_set, List.length_replicate, List.length_append, List.length_cons, List.length_nil, List.length_take, List.length_drop, marks_length]; omega)), fun a_18 n_19 e_20 H_3 g_22 r_21 => ?_⟩
    have l_23 := g_22.1
    have g_24 := g_13.trans g_22
    have l_25 := g_24.1
    have o_26 := o_15.grow g_22
    have w_27 := o_26.lt
    obtain rfl := r_21.isL.eqn
    have u_28 := r_21.up
    have u_29 := r_21.lo
    refine T_spec_EnergiesIn_i ⟨_, r_21.isL, (by first | omega | (simp only [List.length_set, List.length_replicate, List.length_append, List.length_cons, List.length_nil, List.length_take, List.length_drop, marks_length]; done) | (simp only [List.length_set, List.length_replicate, List.length_append, List.length_cons, List.length_nil, List.length_take, List.length_drop, marks_length]; omega)), fun a_31 n_32 e_33 H_4 g_36 r_34 => ?_⟩
    have z_35 := spec_EnergiesIn_len aP_Wide aP_High l_aP_Lights aLevels
    have l_37 := g_36.1
    have g_38 := g_24.trans g_36
    have l_39 := g_38.1
    have o_40 := o_26.grow g_36
    have w_41 := o_40.lt
    have r_42 := r_21.grow g_36
    have g_43 := Grow.refl H_4
    obtain rfl := r_34.eqn
    refine ⟨aP_Wide, aP_High, aP_Lights_a, l_aP_Lights.length, aP_Lights_e, (o_40.rdN (Nat.le_of_ble_eq_true rfl)).trans rfl, ?_⟩
    refine T_laws_toPicture_i ⟨_, (i_aP_Lights.grow g_38), (by first | omega | (simp only [List.length_set, List.length_replicate, List.length_append, List.length_cons, List.length_nil, List.length_take, List.length_drop, marks_length]; done) | (simp only [List.length_set, List.length_replicate, List.length_append, List.length_cons, List.length_nil, List.length_take, List.length_drop, marks_length]; omega)), fun a_44 n_45 e_46 H_5 g_48 r_47 => ?_⟩
    have l_49 := g_48.1
    have g_50 := g_38.trans g_48
    have l_51 := g_50.1
    have g_52 := g_43.trans g_48
    have l_53 := g_52.1
    have o_54 := o_40.grow g_48
    have w_55 := o_54.lt
    have r_56 := r_42.grow g_48
    obtain rfl := r_47.isL.eqn
    have u_57 := r_47.up
    have u_58 := r_47.lo
    refine Al.intro (fun b_60 H_6 hb_61 hl_62 g_63 o_64 => ?_)
    have l_66 := g_63.1
    have g_67 := g_50.trans g_63
    have l_68 := g_67.1
    have g_69 := g_52.trans g_63
    have l_70 := g_69.1
    have o_71 := o_54.grow g_63
    have w_72 := o_71.lt
    have r_73 := r_56.grow g_63
    have r_74 := r_47.grow g_63
    have w_226 := o_64.lt
    refine Lt.setN (n := 3) o_64 (Nat.le_of_ble_eq_true rfl) rfl (fun H_7 hl_75 o_77 k_76 => ?_)
    have o_77 : Own H_7 b_60 [.int .i64 aP_Wide, .int .i64 aP_High, .slice a_44 ((l_aP_Lights).length) e_46] := o_77
    have l_78 := k_76.1
    have g_79 := g_67.keep (b := b_60) (by omega) k_76
    have l_80 := g_79.1
    have g_81 := g_69.keep (b := b_60) (by omega) k_76
    have l_82 := g_81.1
    have o_83 := o_71.keep (by omega) k_76
    have w_84 := o_83.lt
    have r_85 := r_73.keep u_28 (by omega) k_76
    have r_86 := r_74.keep u_57 (by omega) k_76
    have w_225 := o_77.lt
    refine ⟨aP_Wide, aP_High, a_44, (l_aP_Lights).length, e_46, (o_77.rdN (Nat.le_of_ble_eq_true rfl)).trans rfl, ?_⟩
    refine T_impl_EnergiesIn_i ⟨_, r_86.isL, (by first | omega | (simp only [List.length_set, List.length_replicate, List.length_append, List.length_cons, List.length_nil, List.length_take, List.length_drop, marks_length]; done) | (simp only [List.length_set, List.length_replicate, List.length_append, List.length_cons, List.length_nil, List.length_take, List.length_drop, marks_length]; omega)), fun a_87 n_88 e_89 H_8 g_92 r_90 => ?_⟩
    have z_91 := impl_EnergiesIn_len aP_Wide aP_High l_aP_Lights aLevels
    have l_93 := g_92.1
    have g_94 := g_79.trans g_92
    have l_95 := g_94.1
    have g_96 := g_81.trans g_92
    have l_97 := g_96.1
    have o_98 := o_83.grow g_92
    have w_99 := o_98.lt
    have o_100 := o_77.grow g_92
    have w_101 := o_100.lt
    have r_102 := r_85.grow g_92
    have r_103 := r_86.grow g_92
    obtain rfl := r_90.isL.eqn
    have u_104 := r_90.up
    have u_105 := r_90.lo
    refine T_laws_eqFloat32S_i ⟨_, _, r_90.isL, (r_34.grow g_96), (by first | omega | (simp only [List.length_set, List.length_replicate, List.length_append, List.length_cons, List.length_nil, List.length_take, List.length_drop, marks_length]; done) | (simp only [List.length_set, List.length_replicate, List.length_append, List.length_cons, List.length_nil, List.length_take, List.length_drop, marks_length]; omega)), (by first | omega | (simp only [List.length_set, List.length_replicate, List.length_append, List.length_cons, List.length_nil, List.length_take, List.length_drop, marks_length]; done) | (simp only [List.length_set, List.length_replicate, List.length_append, List.length_cons, List.length_nil, List.length_take, List.length_drop, marks_length]; omega)), ?_⟩
    refine Br.intro (fun c_107 => ?_) (fun c_107 => ?_)
    · have e := e.trans (cond_t c_107)
      have c_107n := nf_of_t c_107
      first | exact hk _ | (exfalso; cases e; done) | (rw [← e]; exact hk _)
    · have e := e.trans (cond_f c_107)
      have c_107n := nt_of_f c_107
      refine Br.intro (fun c_108 => ?_) (fun c_108 => ?_)
      · have e := e.trans (cond_t c_108)
        have c_108n := nf_of_t c_108
        first | exact hk _ | (exfalso; cases e; done) | (rw [← e]; exact hk _)
      · have e := e.trans (cond_f c_108)
        have c_108n := nt_of_f c_108
        refine ⟨aP_Wide, aP_High, aP_Lights_a, l_aP_Lights.length, aP_Lights_e, (o_98.rdN (Nat.le_of_ble_eq_true rfl)).trans rfl, ?_⟩
        refine ⟨aP_Wide, aP_High, a_44, (l_aP_Lights).length, e_46, (o_100.rdN (Nat.le_of_ble_eq_true rfl)).trans rfl, ?_⟩
        refine T_laws_toPicture_i ⟨_, (i_aP_Lights.grow g_94), (by first | omega | (simp only [List.length_set, List.length_replicate, List.length_append, List.length_cons, List.length_nil, List.length_take, List.length_drop, marks_length]; done) | (simp only [List.length_set, List.length_replicate, List.length_append, List.length_cons, List.length_nil, List.length_take, List.length_drop, marks_length]; omega)), fun a_109 n_110 e_111 H_9 g_113 r_112 => ?_⟩
        have l_114 := g_113.1
        have g_115 := g_94.trans g_113
        have l_116 := g_115.1
        have g_117 := g_96.trans g_113
        have l_118 := g_117.1
        have o_119 := o_98.grow g_113
        have w_120 := o_119.lt
        have o_121 := o_100.grow g_113
        have w_122 := o_121.lt
        have r_123 := r_102.grow g_113
        have r_124 := r_103.grow g_113
        have r_125 := r_90.grow g_113
        obtain rfl := r_112.isL.eqn
        have u_126 := r_112.up
        have u_127 := r_112.lo
        refine T_laws_eqPicture_i ⟨_, _, r_124.isL, r_112.isL, (by first | omega | (simp only [List.length_set, List.length_replicate, List.length_append, List.length_cons, List.length_nil, List.length_take, List.length_drop, marks_length]; done) | (simp only [List.length_set, List.length_replicate, List.length_append, List.length_cons, List.length_nil, List.length_take, List.length_drop, marks_length]; omega)), (by first | omega | (simp only [List.length_set, List.length_replicate, List.length_append, List.length_cons, List.length_nil, List.length_take, List.length_drop, marks_length]; done) | (simp only [List.length_set, List.length_replicate, List.length_append, List.length_cons, List.length_nil, List.length_take, List.length_drop, marks_length]; omega)), fun  H_10 g_129  => ?_⟩
        have l_130 := g_129.1
        have g_131 := g_115.trans g_129
        have l_132 := g_131.1
        have g_133 := g_117.trans g_129
        have l_134 := g_133.1
        have o_135 := o_119.grow g_129
        have w_136 := o_135.lt
        have o_137 := o_121.grow g_129
        have w_138 := o_137.lt
        have r_139 := r_123.grow g_129
        have r_140 := r_124.grow g_129
        have r_141 := r_125.grow g_129
        have r_142 := r_112.grow g_129
        refine Br.intro (fun c_143 => ?_) (fun c_143 => ?_)
        · have e := e.trans (cond_t c_143)
          have c_143n := nf_of_t c_143
          first | exact hk _ | (exfalso; cases e; done) | (rw [← e]; exact hk _)
        · have e := e.trans (cond_f c_143)
          have c_143n := nt_of_f c_143
          refine ⟨aP_Wide, aP_High, a_44, (l_aP_Lights).length, e_46, (o_137.rdN (Nat.le_of_ble_eq_true rfl)).trans rfl, ?_⟩
          refine T_laws_markPicture_i ⟨_, _, r_140, (by first | omega | (simp only [List.length_set, List.length_replicate, List.length_append, List.length_cons, List.length_nil, List.length_take, List.length_drop, marks_length]; done) | (simp only [List.length_set, List.length_replicate, List.length_append, List.length_cons, List.length_nil, List.length_take, List.length_drop, marks_length]; omega)), (fun H_11 k_144 o_145 => ?_)⟩
          have l_146 := k_144.1
          have g_147 := g_131.keepA (fun x hx => by have := u_58 x hx; omega) k_144
          have l_148 := g_147.1
          have g_149 := g_133.keepA (fun x hx => by have := u_58 x hx; omega) k_144
          have l_150 := g_149.1
          have o_151 := o_135.keepA (fun x hx => by have := u_58 x hx; have := u_57 x hx; omega) k_144
          have w_152 := o_151.lt
          have o_153 := o_137.keepA (fun x hx => by have := u_58 x hx; have := u_57 x hx; omega) k_144
          have w_154 := o_153.lt
          have r_155 := r_139.keepA (fun x y hx hy => by have := u_58 x hx; have := u_57 x hx; have := u_29 y hy; have := u_28 y hy; omega) k_144
          have r_156 := r_141.keepA (fun x y hx hy => by have := u_58 x hx; have := u_57 x hx; have := u_105 y hy; have := u_104 y hy; omega) k_144
          have r_157 := r_142.keepA (fun x y hx hy => by have := u_58 x hx; have := u_57 x hx; have := u_127 y hy; have := u_126 y hy; omega) k_144
          refine Br.intro (fun c_158 => ?_) (fun c_158 => ?_)
          · have e := e.trans (cond_t c_158)
            have c_158' := of_decide_eq_true c_158
            first | exact hk _ | (exfalso; cases e; done) | (rw [← e]; exact hk _)
          · have e := e.trans (cond_f c_158)
            have c_158' := of_decide_eq_false c_158
            refine T_laws_eqFloat32S_i ⟨_, _, r_156.isL, (r_34.grow g_149), (by first | omega | (simp only [List.length_set, List.length_replicate, List.length_append, List.length_cons, List.length_nil, List.length_take, List.length_drop, marks_length]; done) | (simp only [List.length_set, List.length_replicate, List.length_append, List.length_cons, List.length_nil, List.length_take, List.length_drop, marks_length]; omega)), (by first | omega | (simp only [List.length_set, List.length_replicate, List.length_append, List.length_cons, List.length_nil, List.length_take, List.length_drop, marks_length]; done) | (simp only [List.length_set, List.length_replicate, List.length_append, List.length_cons, List.length_nil, List.length_take, List.length_drop, marks_length]; omega)), ?_⟩
            refine Br.intro (fun c_159 => ?_) (fun c_159 => ?_)
            · have e := e.trans (cond_t c_159)
              have c_159n := nf_of_t c_159
              first | exact hk _ | (exfalso; cases e; done) | (rw [← e]; exact hk _)
            · have e := e.trans (cond_f c_159)
              have c_159n := nt_of_f c_159
              refine Br.intro (fun c_160 => ?_) (fun c_160 => ?_)
              · have e := e.trans (cond_t c_160)
                have c_160n := nf_of_t c_160
                first | exact hk _ | (exfalso; cases e; done) | (rw [← e]; exact hk _)
              · have e := e.trans (cond_f c_160)
                have c_160n := nt_of_f c_160
                refine T_laws_markFloat32S_i ⟨_, _, r_156, (by first | omega | (simp only [List.length_set, List.length_replicate, List.length_append, List.length_cons, List.length_nil, List.length_take, List.length_drop, marks_length]; done) | (simp only [List.length_set, List.length_replicate, List.length_append, List.length_cons, List.length_nil, List.length_take, List.length_drop, marks_length]; omega)), (fun H_12 k_161 o_162 => ?_)⟩
                have l_163 := k_161.1
                have g_164 := g_147.keepA (fun x hx => by have := u_105 x hx; omega) k_161
                have l_165 := g_164.1
                have g_166 := g_149.keepA (fun x hx => by have := u_105 x hx; omega) k_161
                have l_167 := g_166.1
                have o_168 := o_151.keepA (fun x hx => by have := u_105 x hx; have := u_104 x hx; omega) k_161
                have w_169 := o_168.lt
                have o_170 := o_153.keepA (fun x hx => by have := u_105 x hx; have := u_104 x hx; omega) k_161
                have w_171 := o_170.lt
                have r_172 := r_155.keepA (fun x y hx hy => by have := u_105 x hx; have := u_104 x hx; have := u_29 y hy; have := u_28 y hy; omega) k_161
                have r_173 := o_145.keepA (fun x y hx hy => by have := u_105 x hx; have := u_104 x hx; have := u_58 y hy; have := u_57 y hy; omega) k_161
                have r_174 := r_157.keepA (fun x y hx hy => by have := u_105 x hx; have := u_104 x hx; have := u_127 y hy; have := u_126 y hy; omega) k_161
                refine T_laws_heldFloat32S_i ⟨_, o_162.isL, (by first | omega | (simp only [List.length_set, List.length_replicate, List.length_append, List.length_cons, List.length_nil, List.length_take, List.length_drop, marks_length]; done) | (simp only [List.length_set, List.length_replicate, List.length_append, List.length_cons, List.length_nil, List.length_take, List.length_drop, marks_length]; omega)), ?_⟩
                refine Br.intro (fun c_175 => ?_) (fun c_175 => ?_)
                · have e := e.trans (cond_t c_175)
                  have c_175' := of_decide_eq_true c_175
                  first | exact hk _ | (exfalso; cases e; done) | (rw [← e]; exact hk _)
                · have e := e.trans (cond_f c_175)
                  have c_175' := of_decide_eq_false c_175
                  refine Br.intro (fun c_176 => ?_) (fun c_176 => ?_)
                  · have e := e.trans (cond_t c_176)
                    have c_176' := ine_t c_176
                    first | exact hk _ | (exfalso; cases e; done) | (rw [← e]; exact hk _)
                  · have e := e.trans (cond_f c_176)
                    have c_176' := ine_f c_176
                    refine ⟨aP_Wide, aP_High, aP_Lights_a, l_aP_Lights.length, aP_Lights_e, (o_168.rdN (Nat.le_of_ble_eq_true rfl)).trans rfl, ?_⟩
                    refine T_laws_toPicture_i ⟨_, (i_aP_Lights.grow g_164), (by first | omega | (simp only [List.length_set, List.length_replicate, List.length_append, List.length_cons, List.length_nil, List.length_take, List.length_drop, marks_length]; done) | (simp only [List.length_set, List.length_replicate, List.length_append, List.length_cons, List.length_nil, List.length_take, List.length_drop, marks_length]; omega)), fun a_177 n_178 e_179 H_13 g_181 r_180 => ?_⟩
                    have l_182 := g_181.1
                    have g_183 := g_164.trans g_181
                    have l_184 := g_183.1
                    have g_185 := g_166.trans g_181
                    have l_186 := g_185.1
                    have o_187 := o_168.grow g_181
                    have w_188 := o_187.lt
                    have o_189 := o_170.grow g_181
                    have w_190 := o_189.lt
                    have r_191 := r_172.grow g_181
                    have r_192 := r_173.grow g_181
                    have r_193 := o_162.grow g_181
                    have r_194 := r_174.grow g_181
                    obtain rfl := r_180.isL.eqn
                    have u_195 := r_180.up
                    have u_196 := r_180.lo
                    refine T_impl_EnergiesIn_i ⟨_, r_180.isL, (by first | omega | (simp only [List.length_set, List.length_replicate, List.length_append, List.length_cons, List.length_nil, List.length_take, List.length_drop, marks_length]; done) | (simp only [List.length_set, List.length_replicate, List.length_append, List.length_cons, List.length_nil, List.length_take, List.length_drop, marks_length]; omega)), fun a_198 n_199 e_200 H_14 g_203 r_201 => ?_⟩
                    have z_202 := impl_EnergiesIn_len aP_Wide aP_High l_aP_Lights aLevels
                    have l_204 := g_203.1
                    have g_205 := g_183.trans g_203
                    have l_206 := g_205.1
                    have g_207 := g_185.trans g_203
                    have l_208 := g_207.1
                    have o_209 := o_187.grow g_203
                    have w_210 := o_209.lt
                    have o_211 := o_189.grow g_203
                    have w_212 := o_211.lt
                    have r_213 := r_191.grow g_203
                    have r_214 := r_192.grow g_203
                    have r_215 := r_193.grow g_203
                    have r_216 := r_194.grow g_203
                    have r_217 := r_180.grow g_203
                    obtain rfl := r_201.isL.eqn
                    have u_218 := r_201.up
                    have u_219 := r_201.lo
                    refine T_laws_eqFloat32S_i ⟨_, _, r_201.isL, (r_34.grow g_207), (by first | omega | (simp only [List.length_set, List.length_replicate, List.length_append, List.length_cons, List.length_nil, List.length_take, List.length_drop, marks_length]; done) | (simp only [List.length_set, List.length_replicate, List.length_append, List.length_cons, List.length_nil, List.length_take, List.length_drop, marks_length]; omega)), (by first | omega | (simp only [List.length_set, List.length_replicate, List.length_append, List.length_cons, List.length_nil, List.length_take, List.length_drop, marks_length]; done) | (simp only [List.length_set, List.length_replicate, List.length_append, List.length_cons, List.length_nil, List.length_take, List.length_drop, marks_length]; omega)), ?_⟩
                    refine Br.intro (fun c_221 => ?_) (fun c_221 => ?_)
                    · have e := e.trans (cond_t c_221)
                      have c_221n := nf_of_t c_221
                      first | exact hk _ | (exfalso; cases e; done) | (rw [← e]; exact hk _)
                    · have e := e.trans (cond_f c_221)
                      have c_221n := nt_of_f c_221
                      refine Br.intro (fun c_222 => ?_) (fun c_222 => ?_)
                      · have e := e.trans (cond_t c_222)
                        have c_222n := nf_of_t c_222
                        first | exact hk _ | (exfalso; cases e; done) | (rw [← e]; exact hk _)
                      · have e := e.trans (cond_f c_222)
                        have c_222n := nt_of_f c_222
                        refine T_laws_heldFloat32S_i ⟨_, r_215.isL, (by first | omega | (simp only [List.length_set, List.length_replicate, List.length_append, List.length_cons, List.length_nil, List.length_take, List.length_drop, marks_length]; done) | (simp only [List.length_set, List.length_replicate, List.length_append, List.length_cons, List.length_nil, List.length_take, List.length_drop, marks_length]; omega)), ?_⟩
                        refine Br.intro (fun c_223 => ?_) (fun c_223 => ?_)
                        · have e := e.trans (cond_t c_223)
                          have c_223' := of_decide_eq_true c_223
                          first | exact hk _ | (exfalso; cases e; done) | (rw [← e]; exact hk _)
                        · have e := e.trans (cond_f c_223)
                          have c_223' := of_decide_eq_false c_223
                          refine Br.intro (fun c_224 => ?_) (fun c_224 => ?_)
                          · have e := e.trans (cond_t c_224)
                            have c_224' := ine_t c_224
                            first | exact hk _ | (exfalso; cases e; done) | (rw [← e]; exact hk _)
                          · have e := e.trans (cond_f c_224)
                            have c_224' := ine_f c_224
                            first | exact hk _ | (exfalso; cases e; done) | (rw [← e]; exact hk _)
theorem laws_FnExactEnergiesIn_ok : FnOk Try.prog 10 S_laws_FnExactEnergiesIn := by
  refine FnOk.body mix_ok E_laws_FnExactEnergiesIn_ok Try.func10 rfl (by kernel_rfl) (by kernel_rfl) ?_ ?_ ?_ ?_ ?_
  · intro args H K K' h hk
    simp only [S_laws_FnExactEnergiesIn] at *
    unfold F_laws_FnExactEnergiesIn at *
    split at hk
    · obtain ⟨l_aP_Lights, h_0, h_1, h_2, h_3, h_4, h_5, k⟩ := hk
      exact ⟨l_aP_Lights, h_0, h_1, h_2, h_3, h_4, h_5, (fun H' => h _ _ (k H'))⟩
    · exact hk.elim
  · intro hq; cases hq
  · intro args H K hk
    simp only [S_laws_FnExactEnergiesIn] at *
    unfold F_laws_FnExactEnergiesIn at *
    split at hk
    · obtain ⟨l_aP_Lights, h_0, h_1, h_2, h_3, h_4, h_5, k⟩ := hk
      exact ⟨_, _, k []⟩
    · exact hk.elim
  · intro hq; cases hq
  · have mm := @laws_FnExactEnergiesIn_main
    revert mm
    generalize bodyK Try.prog E_laws_FnExactEnergiesIn Try.f10 = Q
    intro mm args H K hk
    simp only [S_laws_FnExactEnergiesIn] at *
    unfold F_laws_FnExactEnergiesIn at *
    split at hk
    · exact mm _ _ _ _ _ _ H K hk
    · exact hk.elim
end Go.Proofs.Ytghkkclonabpkaa.Ai
