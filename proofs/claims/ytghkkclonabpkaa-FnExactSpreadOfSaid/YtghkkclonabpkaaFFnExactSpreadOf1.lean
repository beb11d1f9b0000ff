/- What functions of the program come to on the abstract machine, and that they do so; printed by a program of mine around proofs of mine. -/
import Derived.Test.YtghkkclonabpkaaFFnExactSpreadOf0
set_option linter.unusedVariables false
set_option linter.unusedSimpArgs false
set_option maxRecDepth 100000
namespace Go.Proofs.Ytghkkclonabpkaa.Ai
open Go
attribute [local irreducible] bodyK

def p_slices_insertionSortCmpFunc_float32_l2 (l_data : List Nat) (a : Int) (b : Int) (i : Int) (y1_1 : List Nat) (k2_2 : Int → (List Nat) → (List Nat)) : Nat → Int → (List Nat) → (List Nat)
  | 0, _, _ => []
  | μ2 + 1, j, y2_1 => (bif decide ((a : Int) < j) then (bif decide (((p_cmp_Compare_float32 (((y2_1).getD (j : Int).toNat 0)) (((y2_1).getD ((j - 1) : Int).toNat 0))) : Int) < 0) then (p_slices_insertionSortCmpFunc_float32_l2 l_data a b i y1_1 k2_2 μ2 (j - 1) (((((y2_1).set (j : Int).toNat ((((y2_1).getD ((j - 1) : Int).toNat 0))))).set ((j - 1) : Int).toNat ((((y2_1).getD (j : Int).toNat 0)))))) else (k2_2 j y2_1)) else (k2_2 j y2_1))
theorem p_slices_insertionSortCmpFunc_float32_l2_s (l_data : List Nat) (a : Int) (b : Int) (i : Int) (y1_1 : List Nat) (k2_2 : Int → (List Nat) → (List Nat)) (μ2 : Nat) (j : Int) (y2_1 : List Nat) : p_slices_insertionSortCmpFunc_float32_l2 l_data a b i y1_1 k2_2 (μ2 + 1) j y2_1 = (bif decide ((a : Int) < j) then (bif decide (((p_cmp_Compare_float32 (((y2_1).getD (j : Int).toNat 0)) (((y2_1).getD ((j - 1) : Int).toNat 0))) : Int) < 0) then (p_slices_insertionSortCmpFunc_float32_l2 l_data a b i y1_1 k2_2 μ2 (j - 1) (((((y2_1).set (j : Int).toNat ((((y2_1).getD ((j - 1) : Int).toNat 0))))).set ((j - 1) : Int).toNat ((((y2_1).getD (j : Int).toNat 0)))))) else (k2_2 j y2_1)) else (k2_2 j y2_1)) := rfl
def p_slices_insertionSortCmpFunc_float32_l1 (l_data : List Nat) (a : Int) (b : Int) : Nat → Int → (List Nat) → (List Nat)
  | 0, _, _ => []
  | μ + 1, i, y1_1 => (bif decide ((i : Int) < b) then (p_slices_insertionSortCmpFunc_float32_l2 l_data a b i y1_1 (fun (j : Int) (y2_1 : List Nat) => (p_slices_insertionSortCmpFunc_float32_l1 l_data a b μ (i + 1) y2_1)) (Int.toNat (i - a) + 1) i y1_1) else y1_1)
theorem p_slices_insertionSortCmpFunc_float32_l1_s (l_data : List Nat) (a : Int) (b : Int) (μ : Nat) (i : Int) (y1_1 : List Nat) : p_slices_insertionSortCmpFunc_float32_l1 l_data a b (μ + 1) i y1_1 = (bif decide ((i : Int) < b) then (p_slices_insertionSortCmpFunc_float32_l2 l_data a b i y1_1 (fun (j : Int) (y2_1 : List Nat) => (p_slices_insertionSortCmpFunc_float32_l1 l_data a b μ (i + 1) y2_1)) (Int.toNat (i - a) + 1) i y1_1) else y1_1) := rfl
def p_slices_insertionSortCmpFunc_float32 (l_data : List Nat) (a : Int) (b : Int) : (List Nat) := (p_slices_insertionSortCmpFunc_float32_l1 l_data a b (Int.toNat (b - (a + 1)) + 1) (a + 1) l_data)
theorem p_slices_insertionSortCmpFunc_float32_eq (l_data : List Nat) (a : Int) (b : Int) : p_slices_insertionSortCmpFunc_float32 l_data a b = (p_slices_insertionSortCmpFunc_float32_l1 l_data a b (Int.toNat (b - (a + 1)) + 1) (a + 1) l_data) := rfl
def T_slices_insertionSortCmpFunc_float32 (data_a : Option Addr) (data_n : Nat) (data_e : Nat) (a : Int) (b : Int) (H : AHeap) (K : AHeap → Prop) : Prop := ∃ lo : Nat, ∃ (l_data : List Nat), OwnS fF H lo data_a data_n data_e l_data ∧ l_data.length < 1073741824 ∧ 0 ≤ a ∧ a ≤ b ∧ b ≤ l_data.length ∧ ((∀ H' : AHeap, KeepA data_a H H' → OwnS fF H' lo data_a data_n data_e (p_slices_insertionSortCmpFunc_float32 l_data a b) → K  H'))
theorem T_slices_insertionSortCmpFunc_float32_i {data_a : Option Addr} {data_n : Nat} {data_e : Nat} {a : Int} {b : Int} {H : AHeap} {K : AHeap → Prop} (h : ∃ lo : Nat, ∃ (l_data : List Nat), OwnS fF H lo data_a data_n data_e l_data ∧ l_data.length < 1073741824 ∧ 0 ≤ a ∧ a ≤ b ∧ b ≤ l_data.length ∧ ((∀ H' : AHeap, KeepA data_a H H' → OwnS fF H' lo data_a data_n data_e (p_slices_insertionSortCmpFunc_float32 l_data a b) → K  H'))) : T_slices_insertionSortCmpFunc_float32 data_a data_n data_e a b H K := h
theorem slices_insertionSort_down (l : List Nat) (a b i : Int) (y1 : List Nat) (g : List Nat → List Nat) (ha : 0 ≤ a) : ∀ (μ : Nat) (j : Int) (y : List Nat), j - a ≤ μ → a ≤ j →
    p_slices_insertionSortCmpFunc_float32_l2 l a b i y1 (fun _ y => g y) (μ + 1) j y = g (So.insD kappa (j - a).toNat y a.toNat j.toNat) := by
  intro μ
  induction μ with
  | zero =>
    intro j y h1 h2
    rw [p_slices_insertionSortCmpFunc_float32_l2_s, decide_eq_false (by omega), cond_false, show (j - a).toNat = 0 by omega]; rfl
  | succ μ ih =>
    intro j y h1 h2
    rw [p_slices_insertionSortCmpFunc_float32_l2_s]
    by_cases h : a < j
    · rw [decide_eq_true h, cond_true, cmp_neg]
      obtain ⟨n, hn⟩ : ∃ n, (j - a).toNat = n + 1 := ⟨(j - a).toNat - 1, by omega⟩
      rw [hn]
      unfold So.insD
      have e : So.lt_ kappa (y.getD j.toNat 0) (y.getD (j - 1).toNat 0) = So.lt_ kappa (So.at_ y j.toNat) (So.at_ y (j.toNat - 1)) := by
        rw [show (j - 1).toNat = j.toNat - 1 by omega]; rfl
      rw [e]
      by_cases hc : So.lt_ kappa (So.at_ y j.toNat) (So.at_ y (j.toNat - 1)) = true
      · rw [hc, cond_true, if_pos ⟨by omega, rfl⟩]
        have := ih (j - 1) (So.sw y j.toNat (j.toNat - 1)) (by omega) (by omega)
        rw [show (j - 1 - a).toNat = n by omega, show (j - 1).toNat = j.toNat - 1 by omega] at this
        rw [← this, show (j - 1).toNat = j.toNat - 1 by omega]; rfl
      · rw [if_neg (fun h => hc h.2)]
        simp only [Bool.not_eq_true] at hc
        rw [hc, cond_false]
    · rw [decide_eq_false h, cond_false, show (j - a).toNat = 0 by omega]; rfl
theorem slices_insertionSort_loop (l : List Nat) (a b : Int) (ha : 0 ≤ a) : ∀ (μ : Nat) (i : Int) (y : List Nat), b - i ≤ μ → a < i →
    p_slices_insertionSortCmpFunc_float32_l1 l a b (μ + 1) i y = So.insS kappa (b - i).toNat y a.toNat i.toNat := by
  intro μ
  induction μ with
  | zero =>
    intro i y h1 h2
    rw [p_slices_insertionSortCmpFunc_float32_l1_s, decide_eq_false (by omega), cond_false, show (b - i).toNat = 0 by omega]; rfl
  | succ μ ih =>
    intro i y h1 h2
    rw [p_slices_insertionSortCmpFunc_float32_l1_s]
    by_cases h : i < b
    · obtain ⟨n, hn⟩ : ∃ n, (b - i).toNat = n + 1 := ⟨(b - i).toNat - 1, by omega⟩
      rw [decide_eq_true h, cond_true, hn, slices_insertionSort_down l a b i y (fun y => p_slices_insertionSortCmpFunc_float32_l1 l a b (μ + 1) (i + 1) y) ha _ _ _ (by omega) (by omega)]
      rw [ih (i + 1) _ (by omega) (by omega), show (b - (i + 1)).toNat = n by omega, show (i + 1).toNat = i.toNat + 1 by omega, show (i - a).toNat = i.toNat - a.toNat by omega]
      rfl
    · rw [decide_eq_false h, cond_false, show (b - i).toNat = 0 by omega]; rfl
theorem slices_insertionSort_eq (l : List Nat) (a b : Int) (ha : 0 ≤ a) : p_slices_insertionSortCmpFunc_float32 l a b = So.insS kappa (b - (a + 1)).toNat l a.toNat (a.toNat + 1) := by
  rw [p_slices_insertionSortCmpFunc_float32_eq, slices_insertionSort_loop l a b ha _ _ _ (by omega) (by omega), show (a + 1).toNat = a.toNat + 1 by omega]
theorem slices_insertionSort_len (l : List Nat) (a b : Int) (ha : 0 ≤ a) : (p_slices_insertionSortCmpFunc_float32 l a b).length = l.length := by
  rw [slices_insertionSort_eq l a b ha, So.insS_length]
/-! slices_insertionSortCmpFunc_float32: function 150 -/
def E_slices_insertionSortCmpFunc_float32 : Env := envOf [(999999, quietMark), (128, S_cmp_Compare_float32)]
def F_slices_insertionSortCmpFunc_float32 : List Value → AHeap → (Value → AHeap → Prop) → Prop
  | [.slice data_a data_n data_e, .int .i64 a, .int .i64 b, .func (.func 128) ⟨[]⟩ ⟨[]⟩], H, K => T_slices_insertionSortCmpFunc_float32 data_a data_n data_e a b H fun  (H' : AHeap) => K (.tuple #[]) H'
  | _, _, _ => False
def S_slices_insertionSortCmpFunc_float32 : FSpec := { F := F_slices_insertionSortCmpFunc_float32, quiet := false, tame := false }
theorem slices_insertionSortCmpFunc_float32_vc (data_a : Option Addr) (data_n : Nat) (data_e : Nat) (a : Int) (b : Int) (H : AHeap) (K : Value → AHeap → Prop) : bodyK Try.prog E_slices_insertionSortCmpFunc_float32 Try.f150 [.slice data_a data_n data_e, .int .i64 a, .int .i64 b, .func (.func 128) #[] #[]] H K =
  (loopK (exK Try.prog E_slices_insertionSortCmpFunc_float32 (cl (cl (cr (bodyC Try.f150))))) [.slice data_a data_n data_e, .int .i64 a, .int .i64 b, .func (.func 128) #[] #[], undef, undef, undef, undef, .int .i64 (IntKind.wrap .i64 (a + 1)), undef, .int .i64 a, .int .i64 (IntKind.wrap .i64 (a + 1)), undef, undef, undef, undef, undef, undef, undef, undef, undef, undef, undef, undef, undef, undef, undef, undef, undef, undef, undef, undef, undef, undef, undef, undef, undef, undef, undef, undef, undef, undef, undef, undef, undef, undef, undef, undef, undef, undef, undef, undef, undef] H (blockQ 0 (retK Try.prog Try.f150 K))) := by kernel_rfl
theorem slices_insertionSortCmpFunc_float32_r1 (a : Int) (b : Int) (data_a : Option Addr) (data_e : Nat) (data_n : Nat) (z1_11 : Int) (i : Int) (g9 g12 g13 g14 g15 g16 g17 g18 g19 g20 g21 g22 g23 g24 g25 g26 g27 g28 g29 g30 g31 g32 g33 g34 g35 g36 g37 g38 g39 g40 g41 g42 g43 g44 g45 g46 g47 g48 g49 g50 g51 g52 : Value) (H : AHeap) (R : Post) : exK Try.prog E_slices_insertionSortCmpFunc_float32 (cl (cl (cr (bodyC Try.f150)))) [.slice data_a data_n data_e, .int .i64 a, .int .i64 b, .func (.func 128) #[] #[], undef, undef, undef, undef, .int .i64 i, g9, .int .i64 a, .int .i64 z1_11, g12, g13, g14, g15, g16, g17, g18, g19, g20, g21, g22, g23, g24, g25, g26, g27, g28, g29, g30, g31, g32, g33, g34, g35, g36, g37, g38, g39, g40, g41, g42, g43, g44, g45, g46, g47, g48, g49, g50, g51, g52] H R =
  (Br (decide ((i : Int) < b)) (loopK (exK Try.prog E_slices_insertionSortCmpFunc_float32 (cl (cl (cr (cl (cl (cr (cl (cl (cr (bodyC Try.f150))))))))))) [.slice data_a data_n data_e, .int .i64 a, .int .i64 b, .func (.func 128) #[] #[], undef, undef, undef, undef, .int .i64 i, .int .i64 i, .int .i64 a, .int .i64 z1_11, .int .i64 i, .int .i64 b, .bool (decide ((i : Int) < b)), g15, g16, .int .i64 i, g18, g19, g20, g21, g22, g23, g24, g25, g26, g27, g28, g29, g30, g31, g32, g33, g34, g35, g36, g37, g38, g39, g40, g41, g42, g43, g44, g45, g46, g47, g48, g49, g50, g51, g52] H (blockQ 2 (blockQ 1 (seqQ (exK Try.prog E_slices_insertionSortCmpFunc_float32 (cr (cr (cl (cl (cr (bodyC Try.f150))))))) (R))))) (R (.exit 0) [.slice data_a data_n data_e, .int .i64 a, .int .i64 b, .func (.func 128) #[] #[], undef, undef, undef, undef, .int .i64 i, g9, .int .i64 a, .int .i64 z1_11, .int .i64 i, .int .i64 b, .bool (decide ((i : Int) < b)), g15, g16, g17, g18, g19, g20, g21, g22, g23, g24, g25, g26, g27, g28, g29, g30, g31, g32, g33, g34, g35, g36, g37, g38, g39, g40, g41, g42, g43, g44, g45, g46, g47, g48, g49, g50, g51, g52] H)) := by kernel_rfl
def slices_insertionSortCmpFunc_float32_I1 (a : Int) (b : Int) (data_a : Option Addr) (data_e : Nat) (data_n : Nat) (z1_11 : Int) (Inv : Nat → Int → AHeap → Prop) : Nat → List Value → AHeap → Prop := fun μ tm H => ∃ (i : Int), ∃ g9 g12 g13 g14 g15 g16 g17 g18 g19 g20 g21 g22 g23 g24 g25 g26 g27 g28 g29 g30 g31 g32 g33 g34 g35 g36 g37 g38 g39 g40 g41 g42 g43 g44 g45 g46 g47 g48 g49 g50 g51 g52, tm = [.slice data_a data_n data_e, .int .i64 a, .int .i64 b, .func (.func 128) #[] #[], undef, undef, undef, undef, .int .i64 i, g9, .int .i64 a, .int .i64 z1_11, g12, g13, g14, g15, g16, g17, g18, g19, g20, g21, g22, g23, g24, g25, g26, g27, g28, g29, g30, g31, g32, g33, g34, g35, g36, g37, g38, g39, g40, g41, g42, g43, g44, g45, g46, g47, g48, g49, g50, g51, g52] ∧ Inv μ i H
theorem slices_insertionSortCmpFunc_float32_L1 (a : Int) (b : Int) (data_a : Option Addr) (data_e : Nat) (data_n : Nat) (z1_11 : Int) {Q : Post} (Inv : Nat → Int → AHeap → Prop) (ν : Nat) (i : Int) (g9 g12 g13 g14 g15 g16 g17 g18 g19 g20 g21 g22 g23 g24 g25 g26 g27 g28 g29 g30 g31 g32 g33 g34 g35 g36 g37 g38 g39 g40 g41 g42 g43 g44 g45 g46 g47 g48 g49 g50 g51 g52 : Value) (H : AHeap) (h0 : Inv ν i H)
    (hs : ∀ (μ : Nat) (i : Int) (g9 g12 g13 g14 g15 g16 g17 g18 g19 g20 g21 g22 g23 g24 g25 g26 g27 g28 g29 g30 g31 g32 g33 g34 g35 g36 g37 g38 g39 g40 g41 g42 g43 g44 g45 g46 g47 g48 g49 g50 g51 g52 : Value) (H : AHeap), Inv μ i H → exK Try.prog E_slices_insertionSortCmpFunc_float32 (cl (cl (cr (bodyC Try.f150)))) [.slice data_a data_n data_e, .int .i64 a, .int .i64 b, .func (.func 128) #[] #[], undef, undef, undef, undef, .int .i64 i, g9, .int .i64 a, .int .i64 z1_11, g12, g13, g14, g15, g16, g17, g18, g19, g20, g21, g22, g23, g24, g25, g26, g27, g28, g29, g30, g31, g32, g33, g34, g35, g36, g37, g38, g39, g40, g41, g42, g43, g44, g45, g46, g47, g48, g49, g50, g51, g52] H (loopQ (slices_insertionSortCmpFunc_float32_I1 a b data_a data_e data_n z1_11 Inv) μ Q)) : loopK (exK Try.prog E_slices_insertionSortCmpFunc_float32 (cl (cl (cr (bodyC Try.f150))))) [.slice data_a data_n data_e, .int .i64 a, .int .i64 b, .func (.func 128) #[] #[], undef, undef, undef, undef, .int .i64 i, g9, .int .i64 a, .int .i64 z1_11, g12, g13, g14, g15, g16, g17, g18, g19, g20, g21, g22, g23, g24, g25, g26, g27, g28, g29, g30, g31, g32, g33, g34, g35, g36, g37, g38, g39, g40, g41, g42, g43, g44, g45, g46, g47, g48, g49, g50, g51, g52] H Q :=
  ⟨slices_insertionSortCmpFunc_float32_I1 a b data_a data_e data_n z1_11 Inv, ν, ⟨i, g9, g12, g13, g14, g15, g16, g17, g18, g19, g20, g21, g22, g23, g24, g25, g26, g27, g28, g29, g30, g31, g32, g33, g34, g35, g36, g37, g38, g39, g40, g41, g42, g43, g44, g45, g46, g47, g48, g49, g50, g51, g52, rfl, h0⟩, fun μ tm H h => by obtain ⟨i, g9, g12, g13, g14, g15, g16, g17, g18, g19, g20, g21, g22, g23, g24, g25, g26, g27, g28, g29, g30, g31, g32, g33, g34, g35, g36, g37, g38, g39, g40, g41, g42, g43, g44, g45, g46, g47, g48, g49, g50, g51, g52, rfl, hI⟩ := h; exact hs μ i g9 g12 g13 g14 g15 g16 g17 g18 g19 g20 g21 g22 g23 g24 g25 g26 g27 g28 g29 g30 g31 g32 g33 g34 g35 g36 g37 g38 g39 g40 g41 g42 g43 g44 g45 g46 g47 g48 g49 g50 g51 g52 H hI⟩
theorem slices_insertionSortCmpFunc_float32_n1 {a : Int} {b : Int} {data_a : Option Addr} {data_e : Nat} {data_n : Nat} {z1_11 : Int} {Q : Post} {Inv : Nat → Int → AHeap → Prop} {μ : Nat} (μ' : Nat) {i : Int} {g9 g12 g13 g14 g15 g16 g17 g18 g19 g20 g21 g22 g23 g24 g25 g26 g27 g28 g29 g30 g31 g32 g33 g34 g35 g36 g37 g38 g39 g40 g41 g42 g43 g44 g45 g46 g47 g48 g49 g50 g51 g52 : Value} {H : AHeap} (hm : μ' < μ) (hI : Inv μ' i H) : loopQ (slices_insertionSortCmpFunc_float32_I1 a b data_a data_e data_n z1_11 Inv) μ Q .normal [.slice data_a data_n data_e, .int .i64 a, .int .i64 b, .func (.func 128) #[] #[], undef, undef, undef, undef, .int .i64 i, g9, .int .i64 a, .int .i64 z1_11, g12, g13, g14, g15, g16, g17, g18, g19, g20, g21, g22, g23, g24, g25, g26, g27, g28, g29, g30, g31, g32, g33, g34, g35, g36, g37, g38, g39, g40, g41, g42, g43, g44, g45, g46, g47, g48, g49, g50, g51, g52] H := ⟨μ', hm, i, g9, g12, g13, g14, g15, g16, g17, g18, g19, g20, g21, g22, g23, g24, g25, g26, g27, g28, g29, g30, g31, g32, g33, g34, g35, g36, g37, g38, g39, g40, g41, g42, g43, g44, g45, g46, g47, g48, g49, g50, g51, g52, rfl, hI⟩
theorem slices_insertionSortCmpFunc_float32_x1_0 (a : Int) (b : Int) (data_a : Option Addr) (data_e : Nat) (data_n : Nat) (z1_11 : Int) (i : Int) (g9 g12 g13 g14 g15 g16 g17 g18 g19 g20 g21 g22 g23 g24 g25 g26 g27 g28 g29 g30 g31 g32 g33 g34 g35 g36 g37 g38 g39 g40 g41 g42 g43 g44 g45 g46 g47 g48 g49 g50 g51 g52 : Value) (H : AHeap) (K : Value → AHeap → Prop)  {I : Nat → List Value → AHeap → Prop} {μ : Nat} : loopQ I μ (blockQ 0 (retK Try.prog Try.f150 K)) (.exit 0) [.slice data_a data_n data_e, .int .i64 a, .int .i64 b, .func (.func 128) #[] #[], undef, undef, undef, undef, .int .i64 i, g9, .int .i64 a, .int .i64 z1_11, g12, g13, g14, g15, g16, g17, g18, g19, g20, g21, g22, g23, g24, g25, g26, g27, g28, g29, g30, g31, g32, g33, g34, g35, g36, g37, g38, g39, g40, g41, g42, g43, g44, g45, g46, g47, g48, g49, g50, g51, g52] H =
  (K (.tuple #[]) H) := by kernel_rfl
theorem slices_insertionSortCmpFunc_float32_r2 (a : Int) (b : Int) (data_a : Option Addr) (data_e : Nat) (data_n : Nat) (g15 : Value) (g16 : Value) (i : Int) (z1_11 : Int) (j : Int) (g18 g19 g20 g21 g22 g23 g24 g25 g26 g27 g28 g29 g30 g31 g32 g33 g34 g35 g36 g37 g38 g39 g40 g41 g42 g43 g44 g45 g46 g47 g48 g49 g50 g51 g52 : Value) (H : AHeap) (R : Post) : exK Try.prog E_slices_insertionSortCmpFunc_float32 (cl (cl (cr (cl (cl (cr (cl (cl (cr (bodyC Try.f150)))))))))) [.slice data_a data_n data_e, .int .i64 a, .int .i64 b, .func (.func 128) #[] #[], undef, undef, undef, undef, .int .i64 i, .int .i64 j, .int .i64 a, .int .i64 z1_11, .int .i64 i, .int .i64 b, .bool (decide ((i : Int) < b)), g15, g16, .int .i64 i, g18, g19, g20, g21, g22, g23, g24, g25, g26, g27, g28, g29, g30, g31, g32, g33, g34, g35, g36, g37, g38, g39, g40, g41, g42, g43, g44, g45, g46, g47, g48, g49, g50, g51, g52] H R =
  (Br (decide ((a : Int) < j)) ((0 : Int) ≤ j ∧ j < (data_n : Int) ∧ ∃ b1 f1, (data_a : Option Addr) = some ⟨b1, f1, none⟩ ∧ ∃ x1 : Nat,  rdC H b1 (f1 + (j : Int).toNat * 1) = some (.float .f32 x1) ∧ (0 : Int) ≤ IntKind.wrap .i64 (j - 1) ∧ IntKind.wrap .i64 (j - 1) < (data_n : Int) ∧ ∃ b2 f2, (data_a : Option Addr) = some ⟨b2, f2, none⟩ ∧ ∃ x2 : Nat,  rdC H b2 (f2 + (IntKind.wrap .i64 (j - 1) : Int).toNat * 1) = some (.float .f32 x2) ∧ T_cmp_Compare_float32 x1 x2 H fun (r1 : Int) (H1 : AHeap) => Br (decide ((r1 : Int) < 0)) ((0 : Int) ≤ IntKind.wrap .i64 (j - 1) ∧ IntKind.wrap .i64 (j - 1) < (data_n : Int) ∧ ∃ b3 f3, (data_a : Option Addr) = some ⟨b3, f3, none⟩ ∧ ∃ x3 : Nat,  rdC H1 b3 (f3 + (IntKind.wrap .i64 (j - 1) : Int).toNat * 1) = some (.float .f32 x3) ∧ (0 : Int) ≤ j ∧ j < (data_n : Int) ∧ ∃ b4 f4, (data_a : Option Addr) = some ⟨b4, f4, none⟩ ∧ ∃ x4 : Nat,  rdC H1 b4 (f4 + (j : Int).toNat * 1) = some (.float .f32 x4) ∧ (0 : Int) ≤ j ∧ j < (data_n : Int) ∧ ∃ b5 f5, (data_a : Option Addr) = some ⟨b5, f5, none⟩ ∧ isOwn H1 b5 ∧ (∃ l, rdN H1 b5 (f5 + (j : Int).toNat * 1) 1 = some l) ∧ Lt (setC H1 b5 (f5 + (j : Int).toNat * 1) (.float .f32 x3)) fun H2 => (0 : Int) ≤ IntKind.wrap .i64 (j - 1) ∧ IntKind.wrap .i64 (j - 1) < (data_n : Int) ∧ ∃ b6 f6, (data_a : Option Addr) = some ⟨b6, f6, none⟩ ∧ isOwn H2 b6 ∧ (∃ l, rdN H2 b6 (f6 + (IntKind.wrap .i64 (j - 1) : Int).toNat * 1) 1 = some l) ∧ Lt (setC H2 b6 (f6 + (IntKind.wrap .i64 (j - 1) : Int).toNat * 1) (.float .f32 x4)) fun H3 => R .normal [.slice data_a data_n data_e, .int .i64 a, .int .i64 b, .func (.func 128) #[] #[], undef, undef, undef, undef, .int .i64 i, .int .i64 (IntKind.wrap .i64 (j - 1)), .int .i64 a, .int .i64 z1_11, .int .i64 i, .int .i64 b, .bool (decide ((i : Int) < b)), g15, g16, .int .i64 i, .int .i64 j, .int .i64 a, .bool (decide ((a : Int) < j)), .bool true, .func (.func 128) #[] #[], .slice data_a data_n data_e, .int .i64 j, .pointer (some ⟨b1, f1 + (j : Int).toNat * 1, none⟩), .float .f32 x1, .slice data_a data_n data_e, .int .i64 j, .int .i64 (IntKind.wrap .i64 (j - 1)), .pointer (some ⟨b2, f2 + (IntKind.wrap .i64 (j - 1) : Int).toNat * 1, none⟩), .float .f32 x2, .int .i64 r1, .bool (decide ((r1 : Int) < 0)), .bool (decide ((r1 : Int) < 0)), .int .i64 j, .int .i64 (IntKind.wrap .i64 (j - 1)), .slice data_a data_n data_e, .int .i64 j, .slice data_a data_n data_e, .int .i64 j, .int .i64 (IntKind.wrap .i64 (j - 1)), .slice data_a data_n data_e, .int .i64 j, .int .i64 (IntKind.wrap .i64 (j - 1)), .pointer (some ⟨b3, f3 + (IntKind.wrap .i64 (j - 1) : Int).toNat * 1, none⟩), .float .f32 x3, .slice data_a data_n data_e, .int .i64 j, .pointer (some ⟨b4, f4 + (j : Int).toNat * 1, none⟩), .float .f32 x4, .pointer (some ⟨b5, f5 + (j : Int).toNat * 1, none⟩), .pointer (some ⟨b6, f6 + (IntKind.wrap .i64 (j - 1) : Int).toNat * 1, none⟩)] H3) (R (.exit 2) [.slice data_a data_n data_e, .int .i64 a, .int .i64 b, .func (.func 128) #[] #[], undef, undef, undef, undef, .int .i64 i, .int .i64 j, .int .i64 a, .int .i64 z1_11, .int .i64 i, .int .i64 b, .bool (decide ((i : Int) < b)), g15, g16, .int .i64 i, .int .i64 j, .int .i64 a, .bool (decide ((a : Int) < j)), .bool true, .func (.func 128) #[] #[], .slice data_a data_n data_e, .int .i64 j, .pointer (some ⟨b1, f1 + (j : Int).toNat * 1, none⟩), .float .f32 x1, .slice data_a data_n data_e, .int .i64 j, .int .i64 (IntKind.wrap .i64 (j - 1)), .pointer (some ⟨b2, f2 + (IntKind.wrap .i64 (j - 1) : Int).toNat * 1, none⟩), .float .f32 x2, .int .i64 r1, .bool (decide ((r1 : Int) < 0)), .bool (decide ((r1 : Int) < 0)), g35, g36, g37, g38, g39, g40, g41, g42, g43, g44, g45, g46, g47, g48, g49, g50, g51, g52] H1)) (R (.exit 2) [.slice data_a data_n data_e, .int .i64 a, .int .i64 b, .func (.func 128) #[] #[], undef, undef, undef, undef, .int .i64 i, .int .i64 j, .int .i64 a, .int .i64 z1_11, .int .i64 i, .int .i64 b, .bool (decide ((i : Int) < b)), g15, g16, .int .i64 i, .int .i64 j, .int .i64 a, .bool (decide ((a : Int) < j)), .bool false, undef, undef, undef, undef, undef, undef, undef, undef, undef, undef, undef, undef, .bool false, g35, g36, g37, g38, g39, g40, g41, g42, g43, g44, g45, g46, g47, g48, g49, g50, g51, g52] H)) := by kernel_rfl
def slices_insertionSortCmpFunc_float32_I2 (a : Int) (b : Int) (data_a : Option Addr) (data_e : Nat) (data_n : Nat) (g15 : Value) (g16 : Value) (i : Int) (z1_11 : Int) (Inv : Nat → Int → AHeap → Prop) : Nat → List Value → AHeap → Prop := fun μ tm H => ∃ (j : Int), ∃ g18 g19 g20 g21 g22 g23 g24 g25 g26 g27 g28 g29 g30 g31 g32 g33 g34 g35 g36 g37 g38 g39 g40 g41 g42 g43 g44 g45 g46 g47 g48 g49 g50 g51 g52, tm = [.slice data_a data_n data_e, .int .i64 a, .int .i64 b, .func (.func 128) #[] #[], undef, undef, undef, undef, .int .i64 i, .int .i64 j, .int .i64 a, .int .i64 z1_11, .int .i64 i, .int .i64 b, .bool (decide ((i : Int) < b)), g15, g16, .int .i64 i, g18, g19, g20, g21, g22, g23, g24, g25, g26, g27, g28, g29, g30, g31, g32, g33, g34, g35, g36, g37, g38, g39, g40, g41, g42, g43, g44, g45, g46, g47, g48, g49, g50, g51, g52] ∧ Inv μ j H
theorem slices_insertionSortCmpFunc_float32_L2 (a : Int) (b : Int) (data_a : Option Addr) (data_e : Nat) (data_n : Nat) (g15 : Value) (g16 : Value) (i : Int) (z1_11 : Int) {Q : Post} (Inv : Nat → Int → AHeap → Prop) (ν : Nat) (j : Int) (g18 g19 g20 g21 g22 g23 g24 g25 g26 g27 g28 g29 g30 g31 g32 g33 g34 g35 g36 g37 g38 g39 g40 g41 g42 g43 g44 g45 g46 g47 g48 g49 g50 g51 g52 : Value) (H : AHeap) (h0 : Inv ν j H)
    (hs : ∀ (μ : Nat) (j : Int) (g18 g19 g20 g21 g22 g23 g24 g25 g26 g27 g28 g29 g30 g31 g32 g33 g34 g35 g36 g37 g38 g39 g40 g41 g42 g43 g44 g45 g46 g47 g48 g49 g50 g51 g52 : Value) (H : AHeap), Inv μ j H → exK Try.prog E_slices_insertionSortCmpFunc_float32 (cl (cl (cr (cl (cl (cr (cl (cl (cr (bodyC Try.f150)))))))))) [.slice data_a data_n data_e, .int .i64 a, .int .i64 b, .func (.func 128) #[] #[], undef, undef, undef, undef, .int .i64 i, .int .i64 j, .int .i64 a, .int .i64 z1_11, .int .i64 i, .int .i64 b, .bool (decide ((i : Int) < b)), g15, g16, .int .i64 i, g18, g19, g20, g21, g22, g23, g24, g25, g26, g27, g28, g29, g30, g31, g32, g33, g34, g35, g36, g37, g38, g39, g40, g41, g42, g43, g44, g45, g46, g47, g48, g49, g50, g51, g52] H (loopQ (slices_insertionSortCmpFunc_float32_I2 a b data_a data_e data_n g15 g16 i z1_11 Inv) μ Q)) : loopK (exK Try.prog E_slices_insertionSortCmpFunc_float32 (cl (cl (cr (cl (cl (cr (cl (cl (cr (bodyC Try.f150))))))))))) [.slice data_a data_n data_e, .int .i64 a, .int .i64 b, .func (.func 128) #[] #[], undef, undef, undef, undef, .int .i64 i, .int .i64 j, .int .i64 a, .int .i64 z1_11, .int .i64 i, .int .i64 b, .bool (decide ((i : Int) < b)), g15, g16, .int .i64 i, g18, g19, g20, g21, g22, g23, g24, g25, g26, g27, g28, g29, g30, g31, g32, g33, g34, g35, g36, g37, g38, g39, g40, g41, g42, g43, g44, g45, g46, g47, g48, g49, g50, g51, g52] H Q :=
  ⟨slices_insertionSortCmpFunc_float32_I2 a b data_a data_e data_n g15 g16 i z1_11 Inv, ν, ⟨j, g18, g19, g20, g21, g22, g23, g24, g25, g26, g27, g28, g29, g30, g31, g32, g33, g34, g35, g36, g37, g38, g39, g40, g41, g42, g43, g44, g45, g46, g47, g48, g49, g50, g51, g52, rfl, h0⟩, fun μ tm H h => by obtain ⟨j, g18, g19, g20, g21, g22, g23, g24, g25, g26, g27, g28, g29, g30, g31, g32, g33, g34, g35, g36, g37, g38, g39, g40, g41, g42, g43, g44, g45, g46, g47, g48, g49, g50, g51, g52, rfl, hI⟩ := h; exact hs μ j g18 g19 g20 g21 g22 g23 g24 g25 g26 g27 g28 g29 g30 g31 g32 g33 g34 g35 g36 g37 g38 g39 g40 g41 g42 g43 g44 g45 g46 g47 g48 g49 g50 g51 g52 H hI⟩
theorem slices_insertionSortCmpFunc_float32_n2 {a : Int} {b : Int} {data_a : Option Addr} {data_e : Nat} {data_n : Nat} {g15 : Value} {g16 : Value} {i : Int} {z1_11 : Int} {Q : Post} {Inv : Nat → Int → AHeap → Prop} {μ : Nat} (μ' : Nat) {j : Int} {g18 g19 g20 g21 g22 g23 g24 g25 g26 g27 g28 g29 g30 g31 g32 g33 g34 g35 g36 g37 g38 g39 g40 g41 g42 g43 g44 g45 g46 g47 g48 g49 g50 g51 g52 : Value} {H : AHeap} (hm : μ' < μ) (hI : Inv μ' j H) : loopQ (slices_insertionSortCmpFunc_float32_I2 a b data_a data_e data_n g15 g16 i z1_11 Inv) μ Q .normal [.slice data_a data_n data_e, .int .i64 a, .int .i64 b, .func (.func 128) #[] #[], undef, undef, undef, undef, .int .i64 i, .int .i64 j, .int .i64 a, .int .i64 z1_11, .int .i64 i, .int .i64 b, .bool (decide ((i : Int) < b)), g15, g16, .int .i64 i, g18, g19, g20, g21, g22, g23, g24, g25, g26, g27, g28, g29, g30, g31, g32, g33, g34, g35, g36, g37, g38, g39, g40, g41, g42, g43, g44, g45, g46, g47, g48, g49, g50, g51, g52] H := ⟨μ', hm, j, g18, g19, g20, g21, g22, g23, g24, g25, g26, g27, g28, g29, g30, g31, g32, g33, g34, g35, g36, g37, g38, g39, g40, g41, g42, g43, g44, g45, g46, g47, g48, g49, g50, g51, g52, rfl, hI⟩
theorem slices_insertionSortCmpFunc_float32_x2_2 (a : Int) (b : Int) (data_a : Option Addr) (data_e : Nat) (data_n : Nat) (g15 : Value) (g16 : Value) (i : Int) (z1_11 : Int) (j : Int) (g18 g19 g20 g21 g22 g23 g24 g25 g26 g27 g28 g29 g30 g31 g32 g33 g34 g35 g36 g37 g38 g39 g40 g41 g42 g43 g44 g45 g46 g47 g48 g49 g50 g51 g52 : Value) (H : AHeap)  (R : Post) {I : Nat → List Value → AHeap → Prop} {μ : Nat} : loopQ I μ (blockQ 2 (blockQ 1 (seqQ (exK Try.prog E_slices_insertionSortCmpFunc_float32 (cr (cr (cl (cl (cr (bodyC Try.f150))))))) (R)))) (.exit 2) [.slice data_a data_n data_e, .int .i64 a, .int .i64 b, .func (.func 128) #[] #[], undef, undef, undef, undef, .int .i64 i, .int .i64 j, .int .i64 a, .int .i64 z1_11, .int .i64 i, .int .i64 b, .bool (decide ((i : Int) < b)), g15, g16, .int .i64 i, g18, g19, g20, g21, g22, g23, g24, g25, g26, g27, g28, g29, g30, g31, g32, g33, g34, g35, g36, g37, g38, g39, g40, g41, g42, g43, g44, g45, g46, g47, g48, g49, g50, g51, g52] H =
  (R .normal [.slice data_a data_n data_e, .int .i64 a, .int .i64 b, .func (.func 128) #[] #[], undef, undef, undef, undef, .int .i64 (IntKind.wrap .i64 (i + 1)), .int .i64 j, .int .i64 a, .int .i64 z1_11, .int .i64 i, .int .i64 b, .bool (decide ((i : Int) < b)), .int .i64 i, .int .i64 (IntKind.wrap .i64 (i + 1)), .int .i64 i, g18, g19, g20, g21, g22, g23, g24, g25, g26, g27, g28, g29, g30, g31, g32, g33, g34, g35, g36, g37, g38, g39, g40, g41, g42, g43, g44, g45, g46, g47, g48, g49, g50, g51, g52] H) := by kernel_rfl
theorem E_slices_insertionSortCmpFunc_float32_ok : ∀ g, FnOk Try.prog g (E_slices_insertionSortCmpFunc_float32 g) := FnOk.envOf (by
  intro x hx
  simp only [List.mem_cons, List.not_mem_nil, or_false] at hx
  rcases hx with rfl | rfl
  · exact quietMark_ok _
  · exact cmp_Compare_float32_ok)
set_option maxHeartbeats 1000000 in
theorem slices_insertionSortCmpFunc_float32_main (data_a : Option Addr) (data_n : Nat) (data_e : Nat) (a : Int) (b : Int) (H : AHeap) (K : Value → AHeap → Prop) (h : T_slices_insertionSortCmpFunc_float32 data_a data_n data_e a b H fun  (H' : AHeap) => K (.tuple #[]) H') : bodyK Try.prog E_slices_insertionSortCmpFunc_float32 Try.f150 [.slice data_a data_n data_e, .int .i64 a, .int .i64 b, .func (.func 128) #[] #[]] H K := by
  rw [slices_insertionSortCmpFunc_float32_vc]
  obtain ⟨lo, l_data, i_data, bd_48, pr0, pr1, pr2, hk⟩ := h
  obtain rfl := i_data.len
  have up_m := i_data.up
  have lo_m := i_data.lo
  have e : (p_slices_insertionSortCmpFunc_float32 l_data a b) = _ := rfl
  have e := e.trans (p_slices_insertionSortCmpFunc_float32_eq l_data a b)
  have g0 := KeepA.refl data_a H
  rw [show IntKind.wrap .i64 (a + 1) = (a + 1) from wrap64 (by omega) (by omega)]
  refine slices_insertionSortCmpFunc_float32_L1 _ _ _ _ _ _ (fun (μ : Nat) (i : Int) (H_1 : AHeap) => ∃ (y1_1 : List Nat), OwnS fF H_1 lo data_a l_data.length data_e y1_1 ∧ y1_1.length = (l_data).length ∧ H.length ≤ H_1.length ∧ KeepA data_a H H_1 ∧ (a + 1) ≤ i ∧ ((i ≤ b ∨ i ≤ (a + 1))) ∧ b - i ≤ (μ : Int) ∧ p_slices_insertionSortCmpFunc_float32 l_data a b = p_slices_insertionSortCmpFunc_float32_l1 l_data a b (μ + 1) i y1_1) (Int.toNat (b - (a + 1))) _ _ _ _ _ _ _ _ _ _ _ _ _ _ _ _ _ _ _ _ _ _ _ _ _ _ _ _ _ _ _ _ _ _ _ _ _ _ _ _ _ _ _ H ?_ ?_
  · exact ⟨_, i_data, (by first | rfl | assumption | omega | (simp; done)), (by omega), g0, (by first | omega | (simp; done) | (simp; omega)), (by first | omega | (simp; done) | (simp; omega)), (by omega), e⟩
  · intro μ i g9 g12 g13 g14 g15 g16 g17 g18 g19 g20 g21 g22 g23 g24 g25 g26 g27 g28 g29 g30 g31 g32 g33 g34 g35 g36 g37 g38 g39 g40 g41 g42 g43 g44 g45 g46 g47 g48 g49 g50 g51 g52 H_1 hI
    obtain ⟨y1_1, r_1, y_2, n_3, g_4, v_5, v_6, hμ, e⟩ := hI
    rw [slices_insertionSortCmpFunc_float32_r1]
    have e := e.trans (p_slices_insertionSortCmpFunc_float32_l1_s l_data a b μ i y1_1)
    have l_7 := g_4.1
    refine Br.intro (fun c_8 => ?_) (fun c_8 => ?_)
    · have e := e.trans (cond_t c_8)
      have c_8' := of_decide_eq_true c_8
      refine slices_insertionSortCmpFunc_float32_L2 _ _ _ _ _ _ _ _ _ (fun (μ2 : Nat) (j : Int) (H_2 : AHeap) => ∃ (y2_1 : List Nat), OwnS fF H_2 lo data_a l_data.length data_e y2_1 ∧ y2_1.length = (l_data).length ∧ H.length ≤ H_2.length ∧ KeepA data_a H H_2 ∧ a ≤ j ∧ j ≤ i ∧ j - a ≤ (μ2 : Int) ∧ p_slices_insertionSortCmpFunc_float32 l_data a b = p_slices_insertionSortCmpFunc_float32_l2 l_data a b i y1_1 (fun (j : Int) (y2_1 : List Nat) => (p_slices_insertionSortCmpFunc_float32_l1 l_data a b μ (i + 1) y2_1)) (μ2 + 1) j y2_1) (Int.toNat (i - a)) _ _ _ _ _ _ _ _ _ _ _ _ _ _ _ _ _ _ _ _ _ _ _ _ _ _ _ _ _ _ _ _ _ _ _ _ H_1 ?_ ?_
      · exact ⟨_, r_1, (by first | rfl | assumption | omega | (simp; done)), (by omega), g_4, (by first | omega | (simp; done) | (simp; omega)), (by first | omega | (simp; done) | (simp; omega)), (by omega), e⟩
      · intro μ2 j g18 g19 g20 g21 g22 g23 g24 g25 g26 g27 g28 g29 g30 g31 g32 g33 g34 g35 g36 g37 g38 g39 g40 g41 g42 g43 g44 g45 g46 g47 g48 g49 g50 g51 g52 H_2 hI
        obtain ⟨y2_1, r_9, y_10, n_11, g_12, v_13, v_14, hμ, e⟩ := hI
        rw [slices_insertionSortCmpFunc_float32_r2]
        have e := e.trans (p_slices_insertionSortCmpFunc_float32_l2_s l_data a b i y1_1 (fun (j : Int) (y2_1 : List Nat) => (p_slices_insertionSortCmpFunc_float32_l1 l_data a b μ (i + 1) y2_1)) μ2 j y2_1)
        have l_15 := g_12.1
        refine Br.intro (fun c_16 => ?_) (fun c_16 => ?_)
        · have e := e.trans (cond_t c_16)
          have c_16' := of_decide_eq_true c_16
          obtain ⟨b_17, f_18, q_19⟩ := (r_9.isL).pos (by first | omega | (simp only [List.length_set, List.length_replicate, List.length_append, List.length_cons, List.length_nil, List.length_take, List.length_drop, marks_length]; done) | (simp only [List.length_set, List.length_replicate, List.length_append, List.length_cons, List.length_nil, List.length_take, List.length_drop, marks_length]; omega))
          refine ⟨by omega, by omega, b_17, f_18, q_19, ?_⟩
          refine ⟨((y2_1).getD (j : Int).toNat 0), (r_9.isL).rd (Grow.refl _) q_19 (by omega) _, ?_⟩
          rw [show IntKind.wrap .i64 (j - 1) = (j - 1) from wrap64 (by omega) (by omega)]
          obtain ⟨b_20, f_21, q_22⟩ := (r_9.isL).pos (by first | omega | (simp only [List.length_set, List.length_replicate, List.length_append, List.length_cons, List.length_nil, List.length_take, List.length_drop, marks_length]; done) | (simp only [List.length_set, List.length_replicate, List.length_append, List.length_cons, List.length_nil, List.length_take, List.length_drop, marks_length]; omega))
          refine ⟨by omega, by omega, b_20, f_21, q_22, ?_⟩
          refine ⟨((y2_1).getD ((j - 1) : Int).toNat 0), (r_9.isL).rd (Grow.refl _) q_22 (by omega) _, ?_⟩
          refine T_cmp_Compare_float32_i ?_
          refine Br.intro (fun c_23 => ?_) (fun c_23 => ?_)
          · have e := e.trans (cond_t c_23)
            have c_23' := of_decide_eq_true c_23
            obtain ⟨b_24, f_25, q_26⟩ := (r_9.isL).pos (by first | omega | (simp only [List.length_set, List.length_replicate, List.length_append, List.length_cons, List.length_nil, List.length_take, List.length_drop, marks_length]; done) | (simp only [List.length_set, List.length_replicate, List.length_append, List.length_cons, List.length_nil, List.length_take, List.length_drop, marks_length]; omega))
            refine ⟨by omega, by omega, b_24, f_25, q_26, ?_⟩
            refine ⟨((y2_1).getD ((j - 1) : Int).toNat 0), (r_9.isL).rd (Grow.refl _) q_26 (by omega) _, ?_⟩
            obtain ⟨b_27, f_28, q_29⟩ := (r_9.isL).pos (by first | omega | (simp only [List.length_set, List.length_replicate, List.length_append, List.length_cons, List.length_nil, List.length_take, List.length_drop, marks_length]; done) | (simp only [List.length_set, List.length_replicate, List.length_append, List.length_cons, List.length_nil, List.length_take, List.length_drop, marks_length]; omega))
            refine ⟨by omega, by omega, b_27, f_28, q_29, ?_⟩
            refine ⟨((y2_1).getD (j : Int).toNat 0), (r_9.isL).rd (Grow.refl _) q_29 (by omega) _, ?_⟩
            obtain ⟨b_30, f_31, q_32⟩ := (r_9.isL).pos (by first | omega | (simp only [List.length_set, List.length_replicate, List.length_append, List.length_cons, List.length_nil, List.length_take, List.length_drop, marks_length]; done) | (simp only [List.length_set, List.length_replicate, List.length_append, List.length_cons, List.length_nil, List.length_take, List.length_drop, marks_length]; omega))
            refine ⟨by omega, by omega, b_30, f_31, q_32, ?_⟩
            refine Lt.setS r_9 q_32 (by first | omega | (simp only [List.length_set]; (first | omega | (simp only [List.length_set, List.length_replicate, List.length_append, List.length_cons, List.length_nil, List.length_take, List.length_drop, marks_length]; done) | (simp only [List.length_set, List.length_replicate, List.length_append, List.length_cons, List.length_nil, List.length_take, List.length_drop, marks_length]; omega)))) (fun H_3 hl_33 o_35 k_34 => ?_)
            have l_36 := k_34.1
            have g_37 := g_12.transA k_34
            have l_38 := g_37.1
            obtain ⟨b_39, f_40, q_41⟩ := (o_35.isL).pos (by first | omega | (simp only [List.length_set, List.length_replicate, List.length_append, List.length_cons, List.length_nil, List.length_take, List.length_drop, marks_length]; done) | (simp only [List.length_set, List.length_replicate, List.length_append, List.length_cons, List.length_nil, List.length_take, List.length_drop, marks_length]; omega))
            refine ⟨by omega, by omega, b_39, f_40, q_41, ?_⟩
            refine Lt.setS o_35 q_41 (by first | omega | (simp only [List.length_set]; (first | omega | (simp only [List.length_set, List.length_replicate, List.length_append, List.length_cons, List.length_nil, List.length_take, List.length_drop, marks_length]; done) | (simp only [List.length_set, List.length_replicate, List.length_append, List.length_cons, List.length_nil, List.length_take, List.length_drop, marks_length]; omega)))) (fun H_4 hl_42 o_44 k_43 => ?_)
            have l_45 := k_43.1
            have g_46 := g_37.transA k_43
            have l_47 := g_46.1
            refine slices_insertionSortCmpFunc_float32_n2 (μ2 - 1) (by first | omega) ⟨_, o_44, (by first | assumption | omega | (simp only [List.length_set]; first | rfl | assumption | omega)), (by omega), g_46, (by first | omega | (simp only [List.length_append, List.length_cons, List.length_nil, List.length_set]; done) | (simp only [List.length_append, List.length_cons, List.length_nil, List.length_set]; omega)), (by first | omega | (simp only [List.length_append, List.length_cons, List.length_nil, List.length_set]; done) | (simp only [List.length_append, List.length_cons, List.length_nil, List.length_set]; omega)), (by first | omega), (by rw [show μ2 - 1 + 1 = μ2 from by first | omega]; exact e)⟩
          · have e := e.trans (cond_f c_23)
            have c_23' := of_decide_eq_false c_23
            rw [slices_insertionSortCmpFunc_float32_x2_2]
            rw [show IntKind.wrap .i64 (i + 1) = (i + 1) from wrap64 (by omega) (by omega)]
            refine slices_insertionSortCmpFunc_float32_n1 (μ - 1) (by first | omega) ⟨_, r_9, (by first | assumption | omega | (simp only [List.length_set]; first | rfl | assumption | omega)), (by omega), g_12, (by first | omega | (simp only [List.length_append, List.length_cons, List.length_nil, List.length_set]; done) | (simp only [List.length_append, List.length_cons, List.length_nil, List.length_set]; omega)), (by first | omega | (simp only [List.length_append, List.length_cons, List.length_nil, List.length_set]; done) | (simp only [List.length_append, List.length_cons, List.length_nil, List.length_set]; omega)), (by first | omega), (by rw [show μ - 1 + 1 = μ from by first | omega]; exact e)⟩
        · have e := e.trans (cond_f c_16)
          have c_16' := of_decide_eq_false c_16
          rw [slices_insertionSortCmpFunc_float32_x2_2]
          rw [show IntKind.wrap .i64 (i + 1) = (i + 1) from wrap64 (by omega) (by omega)]
          refine slices_insertionSortCmpFunc_float32_n1 (μ - 1) (by first | omega) ⟨_, r_9, (by first | assumption | omega | (simp only [List.length_set]; first | rfl | assumption | omega)), (by omega), g_12, (by first | omega | (simp only [List.length_append, List.length_cons, List.length_nil, List.length_set]; done) | (simp only [List.length_append, List.length_cons, List.length_nil, List.length_set]; omega)), (by first | omega | (simp only [List.length_append, List.length_cons, List.length_nil, List.length_set]; done) | (simp only [List.length_append, List.length_cons, List.length_nil, List.length_set]; omega)), (by first | omega), (by rw [show μ - 1 + 1 = μ from by first | omega]; exact e)⟩
    · have e := e.trans (cond_f c_8)
      have c_8' := of_decide_eq_false c_8
      rw [slices_insertionSortCmpFunc_float32_x1_0]
      rw [e] at hk
      exact hk H_1 g_4 r_1
theorem slices_insertionSortCmpFunc_float32_ok : FnOk Try.prog 150 S_slices_insertionSortCmpFunc_float32 := by
  refine FnOk.body mix_ok E_slices_insertionSortCmpFunc_float32_ok Try.func150 rfl (by kernel_rfl) (by kernel_rfl) ?_ ?_ ?_ ?_ ?_
  · intro args H K K' h hk
    simp only [S_slices_insertionSortCmpFunc_float32] at *
    unfold F_slices_insertionSortCmpFunc_float32 at *
    split at hk
    · obtain ⟨lo, l_data, i_data, bd_48, pr0, pr1, pr2, k⟩ := hk
      exact ⟨lo, l_data, i_data, bd_48, pr0, pr1, pr2, (fun H' gg ow => h _ _ (k H' gg ow))⟩
    · exact hk.elim
  · intro hq; cases hq
  · intro args H K hk
    simp only [S_slices_insertionSortCmpFunc_float32] at *
    unfold F_slices_insertionSortCmpFunc_float32 at *
    split at hk
    · obtain ⟨lo, l_data, i_data, bd_48, pr0, pr1, pr2, k⟩ := hk
      exact (OwnS.put i_data _ (by exact slices_insertionSort_len _ _ _ (by omega))).elim fun H1 h => ⟨_, _, k H1 h.1 h.2⟩
    · exact hk.elim
  · intro hq; cases hq
  · have mm := @slices_insertionSortCmpFunc_float32_main
    revert mm
    generalize bodyK Try.prog E_slices_insertionSortCmpFunc_float32 Try.f150 = Q
    intro mm args H K hk
    simp only [S_slices_insertionSortCmpFunc_float32] at *
    unfold F_slices_insertionSortCmpFunc_float32 at *
    split at hk
    · exact mm _ _ _ _ _ H K hk
    · exact hk.elim

def p_slices_swapRangeCmpFunc_float32_l1 (l_data : List Nat) (a : Int) (b : Int) (n : Int) : Nat → Int → (List Nat) → (List Nat)
  | 0, _, _ => []
  | μ + 1, i, y1_1 => (bif decide ((i : Int) < n) then (p_slices_swapRangeCmpFunc_float32_l1 l_data a b n μ (i + 1) (((((y1_1).set ((a + i) : Int).toNat ((((y1_1).getD ((b + i) : Int).toNat 0))))).set ((b + i) : Int).toNat ((((y1_1).getD ((a + i) : Int).toNat 0)))))) else y1_1)
theorem p_slices_swapRangeCmpFunc_float32_l1_s (l_data : List Nat) (a : Int) (b : Int) (n : Int) (μ : Nat) (i : Int) (y1_1 : List Nat) : p_slices_swapRangeCmpFunc_float32_l1 l_data a b n (μ + 1) i y1_1 = (bif decide ((i : Int) < n) then (p_slices_swapRangeCmpFunc_float32_l1 l_data a b n μ (i + 1) (((((y1_1).set ((a + i) : Int).toNat ((((y1_1).getD ((b + i) : Int).toNat 0))))).set ((b + i) : Int).toNat ((((y1_1).getD ((a + i) : Int).toNat 0)))))) else y1_1) := rfl
def p_slices_swapRangeCmpFunc_float32 (l_data : List Nat) (a : Int) (b : Int) (n : Int) : (List Nat) := (p_slices_swapRangeCmpFunc_float32_l1 l_data a b n (Int.toNat (n - (0 : Int)) + 1) (0 : Int) l_data)
theorem p_slices_swapRangeCmpFunc_float32_eq (l_data : List Nat) (a : Int) (b : Int) (n : Int) : p_slices_swapRangeCmpFunc_float32 l_data a b n = (p_slices_swapRangeCmpFunc_float32_l1 l_data a b n (Int.toNat (n - (0 : Int)) + 1) (0 : Int) l_data) := rfl
def T_slices_swapRangeCmpFunc_float32 (data_a : Option Addr) (data_n : Nat) (data_e : Nat) (a : Int) (b : Int) (n : Int) (H : AHeap) (K : AHeap → Prop) : Prop := ∃ lo : Nat, ∃ (l_data : List Nat), OwnS fF H lo data_a data_n data_e l_data ∧ l_data.length < 1073741824 ∧ 0 ≤ a ∧ a + n ≤ l_data.length ∧ 0 ≤ b ∧ b + n ≤ l_data.length ∧ n < 1073741824 ∧ ((∀ H' : AHeap, KeepA data_a H H' → OwnS fF H' lo data_a data_n data_e (p_slices_swapRangeCmpFunc_float32 l_data a b n) → K  H'))
theorem T_slices_swapRangeCmpFunc_float32_i {data_a : Option Addr} {data_n : Nat} {data_e : Nat} {a : Int} {b : Int} {n : Int} {H : AHeap} {K : AHeap → Prop} (h : ∃ lo : Nat, ∃ (l_data : List Nat), OwnS fF H lo data_a data_n data_e l_data ∧ l_data.length < 1073741824 ∧ 0 ≤ a ∧ a + n ≤ l_data.length ∧ 0 ≤ b ∧ b + n ≤ l_data.length ∧ n < 1073741824 ∧ ((∀ H' : AHeap, KeepA data_a H H' → OwnS fF H' lo data_a data_n data_e (p_slices_swapRangeCmpFunc_float32 l_data a b n) → K  H'))) : T_slices_swapRangeCmpFunc_float32 data_a data_n data_e a b n H K := h
theorem slices_swapRange_loop (l : List Nat) (a b n : Int) : ∀ (μ : Nat) (k : Nat) (i : Int) (y : List Nat), n - i ≤ μ → 0 ≤ a → 0 ≤ b → 0 ≤ i → i ≤ n → (k : Int) = n - i →
    p_slices_swapRangeCmpFunc_float32_l1 l a b n (μ + 1) i y = So.swR k y (a + i).toNat (b + i).toNat := by
  intro μ
  induction μ with
  | zero =>
    intro k i y h1 h2 h3 h4 h5 hk
    rw [p_slices_swapRangeCmpFunc_float32_l1_s, decide_eq_false (by omega), cond_false, show k = 0 by omega]; rfl
  | succ μ ih =>
    intro k i y h1 h2 h3 h4 h5 hk
    rw [p_slices_swapRangeCmpFunc_float32_l1_s]
    by_cases h : i < n
    · rw [decide_eq_true h, cond_true]
      obtain ⟨k, rfl⟩ : ∃ k', k = k' + 1 := ⟨k - 1, by omega⟩
      have := ih k (i + 1) (So.sw y (a + i).toNat (b + i).toNat) (by omega) h2 h3 (by omega) (by omega) (by omega)
      rw [show (a + (i + 1)).toNat = (a + i).toNat + 1 by omega, show (b + (i + 1)).toNat = (b + i).toNat + 1 by omega] at this
      exact this
    · rw [decide_eq_false h, cond_false, show k = 0 by omega]; rfl
theorem slices_swapRange_eq (l : List Nat) (a b n : Int) (ha : 0 ≤ a) (hb : 0 ≤ b) : p_slices_swapRangeCmpFunc_float32 l a b n = So.swR n.toNat l a.toNat b.toNat := by
  rw [p_slices_swapRangeCmpFunc_float32_eq]
  by_cases hn : 0 ≤ n
  · have := slices_swapRange_loop l a b n (Int.toNat (n - 0)) n.toNat 0 l (by omega) ha hb (by omega) hn (by omega)
    rw [show (a + 0).toNat = a.toNat by omega, show (b + 0).toNat = b.toNat by omega] at this
    exact this
  · rw [p_slices_swapRangeCmpFunc_float32_l1_s, decide_eq_false (by omega), cond_false, show n.toNat = 0 by omega]; rfl
theorem slices_swapRange_len (l : List Nat) (a b n : Int) (ha : 0 ≤ a) (hb : 0 ≤ b) : (p_slices_swapRangeCmpFunc_float32 l a b n).length = l.length := by
  rw [slices_swapRange_eq l a b n ha hb, So.swR_length]
/-! slices_swapRangeCmpFunc_float32: function 159 -/
def E_slices_swapRangeCmpFunc_float32 : Env := envOf []
def F_slices_swapRangeCmpFunc_float32 : List Value → AHeap → (Value → AHeap → Prop) → Prop
  | [.slice data_a data_n data_e, .int .i64 a, .int .i64 b, .int .i64 n, .func (.func 128) ⟨[]⟩ ⟨[]⟩], H, K => T_slices_swapRangeCmpFunc_float32 data_a data_n data_e a b n H fun  (H' : AHeap) => K (.tuple #[]) H'
  | _, _, _ => False
def S_slices_swapRangeCmpFunc_float32 : FSpec := { F := F_slices_swapRangeCmpFunc_float32, quiet := false, tame := false }
theorem slices_swapRangeCmpFunc_float32_vc (data_a : Option Addr) (data_n : Nat) (data_e : Nat) (a : Int) (b : Int) (n : Int) (H : AHeap) (K : Value → AHeap → Prop) : bodyK Try.prog E_slices_swapRangeCmpFunc_float32 Try.f159 [.slice data_a data_n data_e, .int .i64 a, .int .i64 b, .int .i64 n, .func (.func 128) #[] #[]] H K =
  (loopK (exK Try.prog E_slices_swapRangeCmpFunc_float32 (cl (cl (cr (bodyC Try.f159))))) [.slice data_a data_n data_e, .int .i64 a, .int .i64 b, .int .i64 n, .func (.func 128) #[] #[], undef, undef, undef, undef, undef, .int .i64 0, undef, undef, undef, undef, undef, undef, undef, undef, undef, undef, undef, undef, undef, undef, undef, undef, undef, undef, undef, undef, undef, undef, undef, undef, undef, undef, undef] H (blockQ 0 (retK Try.prog Try.f159 K))) := by kernel_rfl
theorem slices_swapRangeCmpFunc_float32_r1 (a : Int) (b : Int) (data_a : Option Addr) (data_e : Nat) (data_n : Nat) (n : Int) (i : Int) (g11 g12 g13 g14 g15 g16 g17 g18 g19 g20 g21 g22 g23 g24 g25 g26 g27 g28 g29 g30 g31 g32 g33 g34 g35 g36 g37 : Value) (H : AHeap) (R : Post) : exK Try.prog E_slices_swapRangeCmpFunc_float32 (cl (cl (cr (bodyC Try.f159)))) [.slice data_a data_n data_e, .int .i64 a, .int .i64 b, .int .i64 n, .func (.func 128) #[] #[], undef, undef, undef, undef, undef, .int .i64 i, g11, g12, g13, g14, g15, g16, g17, g18, g19, g20, g21, g22, g23, g24, g25, g26, g27, g28, g29, g30, g31, g32, g33, g34, g35, g36, g37] H R =
  (Br (decide ((i : Int) < n)) ((0 : Int) ≤ IntKind.wrap .i64 (b + i) ∧ IntKind.wrap .i64 (b + i) < (data_n : Int) ∧ ∃ b1 f1, (data_a : Option Addr) = some ⟨b1, f1, none⟩ ∧ ∃ x1 : Nat,  rdC H b1 (f1 + (IntKind.wrap .i64 (b + i) : Int).toNat * 1) = some (.float .f32 x1) ∧ (0 : Int) ≤ IntKind.wrap .i64 (a + i) ∧ IntKind.wrap .i64 (a + i) < (data_n : Int) ∧ ∃ b2 f2, (data_a : Option Addr) = some ⟨b2, f2, none⟩ ∧ ∃ x2 : Nat,  rdC H b2 (f2 + (IntKind.wrap .i64 (a + i) : Int).toNat * 1) = some (.float .f32 x2) ∧ (0 : Int) ≤ IntKind.wrap .i64 (a + i) ∧ IntKind.wrap .i64 (a + i) < (data_n : Int) ∧ ∃ b3 f3, (data_a : Option Addr) = some ⟨b3, f3, none⟩ ∧ isOwn H b3 ∧ (∃ l, rdN H b3 (f3 + (IntKind.wrap .i64 (a + i) : Int).toNat * 1) 1 = some l) ∧ Lt (setC H b3 (f3 + (IntKind.wrap .i64 (a + i) : Int).toNat * 1) (.float .f32 x1)) fun H1 => (0 : Int) ≤ IntKind.wrap .i64 (b + i) ∧ IntKind.wrap .i64 (b + i) < (data_n : Int) ∧ ∃ b4 f4, (data_a : Option Addr) = some ⟨b4, f4, none⟩ ∧ isOwn H1 b4 ∧ (∃ l, rdN H1 b4 (f4 + (IntKind.wrap .i64 (b + i) : Int).toNat * 1) 1 = some l) ∧ Lt (setC H1 b4 (f4 + (IntKind.wrap .i64 (b + i) : Int).toNat * 1) (.float .f32 x2)) fun H2 => R .normal [.slice data_a data_n data_e, .int .i64 a, .int .i64 b, .int .i64 n, .func (.func 128) #[] #[], undef, undef, undef, undef, undef, .int .i64 (IntKind.wrap .i64 (i + 1)), .int .i64 i, .int .i64 n, .bool (decide ((i : Int) < n)), .int .i64 i, .int .i64 (IntKind.wrap .i64 (i + 1)), .slice data_a data_n data_e, .int .i64 a, .int .i64 i, .int .i64 (IntKind.wrap .i64 (a + i)), .slice data_a data_n data_e, .int .i64 b, .int .i64 i, .int .i64 (IntKind.wrap .i64 (b + i)), .slice data_a data_n data_e, .int .i64 b, .int .i64 i, .int .i64 (IntKind.wrap .i64 (b + i)), .pointer (some ⟨b1, f1 + (IntKind.wrap .i64 (b + i) : Int).toNat * 1, none⟩), .float .f32 x1, .slice data_a data_n data_e, .int .i64 a, .int .i64 i, .int .i64 (IntKind.wrap .i64 (a + i)), .pointer (some ⟨b2, f2 + (IntKind.wrap .i64 (a + i) : Int).toNat * 1, none⟩), .float .f32 x2, .pointer (some ⟨b3, f3 + (IntKind.wrap .i64 (a + i) : Int).toNat * 1, none⟩), .pointer (some ⟨b4, f4 + (IntKind.wrap .i64 (b + i) : Int).toNat * 1, none⟩)] H2) (R (.exit 0) [.slice data_a data_n data_e, .int .i64 a, .int .i64 b, .int .i64 n, .func (.func 128) #[] #[], undef, undef, undef, undef, undef, .int .i64 i, .int .i64 i, .int .i64 n, .bool (decide ((i : Int) < n)), g14, g15, g16, g17, g18, g19, g20, g21, g22, g23, g24, g25, g26, g27, g28, g29, g30, g31, g32, g33, g34, g35, g36, g37] H)) := by kernel_rfl
def slices_swapRangeCmpFunc_float32_I1 (a : Int) (b : Int) (data_a : Option Addr) (data_e : Nat) (data_n : Nat) (n : Int) (Inv : Nat → Int → AHeap → Prop) : Nat → List Value → AHeap → Prop := fun μ tm H => ∃ (i : Int), ∃ g11 g12 g13 g14 g15 g16 g17 g18 g19 g20 g21 g22 g23 g24 g25 g26 g27 g28 g29 g30 g31 g32 g33 g34 g35 g36 g37, tm = [.slice data_a data_n data_e, .int .i64 a, .int .i64 b, .int .i64 n, .func (.func 128) #[] #[], undef, undef, undef, undef, undef, .int .i64 i, g11, g12, g13, g14, g15, g16, g17, g18, g19, g20, g21, g22, g23, g24, g25, g26, g27, g28, g29, g30, g31, g32, g33, g34, g35, g36, g37] ∧ Inv μ i H
theorem slices_swapRangeCmpFunc_float32_L1 (a : Int) (b : Int) (data_a : Option Addr) (data_e : Nat) (data_n : Nat) (n : Int) {Q : Post} (Inv : Nat → Int → AHeap → Prop) (ν : Nat) (i : Int) (g11 g12 g13 g14 g15 g16 g17 g18 g19 g20 g21 g22 g23 g24 g25 g26 g27 g28 g29 g30 g31 g32 g33 g34 g35 g36 g37 : Value) (H : AHeap) (h0 : Inv ν i H)
    (hs : ∀ (μ : Nat) (i : Int) (g11 g12 g13 g14 g15 g16 g17 g18 g19 g20 g21 g22 g23 g24 g25 g26 g27 g28 g29 g30 g31 g32 g33 g34 g35 g36 g37 : Value) (H : AHeap), Inv μ i H → exK Try.prog E_slices_swapRangeCmpFunc_float32 (cl (cl (cr (bodyC Try.f159)))) [.slice data_a data_n data_e, .int .i64 a, .int .i64 b, .int .i64 n, .func (.func 128) #[] #[], undef, undef, undef, undef, undef, .int .i64 i, g11, g12, g13, g14, g15, g16, g17, g18, g19, g20, g21, g22, g23, g24, g25, g26, g27, g28, g29, g30, g31, g32, g33, g34, g35, g36, g37] H (loopQ (slices_swapRangeCmpFunc_float32_I1 a b data_a data_e data_n n Inv) μ Q)) : loopK (exK Try.prog E_slices_swapRangeCmpFunc_float32 (cl (cl (cr (bodyC Try.f159))))) [.slice data_a data_n data_e, .int .i64 a, .int .i64 b, .int .i64 n, .func (.func 128) #[] #[], undef, undef, undef, undef, undef, .int .i64 i, g11, g12, g13, g14, g15, g16, g17, g18, g19, g20, g21, g22, g23, g24, g25, g26, g27, g28, g29, g30, g31, g32, g33, g34, g35, g36, g37] H Q :=
  ⟨slices_swapRangeCmpFunc_float32_I1 a b data_a data_e data_n n Inv, ν, ⟨i, g11, g12, g13, g14, g15, g16, g17, g18, g19, g20, g21, g22, g23, g24, g25, g26, g27, g28, g29, g30, g31, g32, g33, g34, g35, g36, g37, rfl, h0⟩, fun μ tm H h => by obtain ⟨i, g11, g12, g13, g14, g15, g16, g17, g18, g19, g20, g21, g22, g23, g24, g25, g26, g27, g28, g29, g30, g31, g32, g33, g34, g35, g36, g37, rfl, hI⟩ := h; exact hs μ i g11 g12 g13 g14 g15 g16 g17 g18 g19 g20 g21 g22 g23 g24 g25 g26 g27 g28 g29 g30 g31 g32 g33 g34 g35 g36 g37 H hI⟩
theorem slices_swapRangeCmpFunc_float32_n1 {a : Int} {b : Int} {data_a : Option Addr} {data_e : Nat} {data_n : Nat} {n : Int} {Q : Post} {Inv : Nat → Int → AHeap → Prop} {μ : Nat} (μ' : Nat) {i : Int} {g11 g12 g13 g14 g15 g16 g17 g18 g19 g20 g21 g22 g23 g24 g25 g26 g27 g28 g29 g30 g31 g32 g33 g34 g35 g36 g37 : Value} {H : AHeap} (hm : μ' < μ) (hI : Inv μ' i H) : loopQ (slices_swapRangeCmpFunc_float32_I1 a b data_a data_e data_n n Inv) μ Q .normal [.slice data_a data_n data_e, .int .i64 a, .int .i64 b, .int .i64 n, .func (.func 128) #[] #[], undef, undef, undef, undef, undef, .int .i64 i, g11, g12, g13, g14, g15, g16, g17, g18, g19, g20, g21, g22, g23, g24, g25, g26, g27, g28, g29, g30, g31, g32, g33, g34, g35, g36, g37] H := ⟨μ', hm, i, g11, g12, g13, g14, g15, g16, g17, g18, g19, g20, g21, g22, g23, g24, g25, g26, g27, g28, g29, g30, g31, g32, g33, g34, g35, g36, g37, rfl, hI⟩
theorem slices_swapRangeCmpFunc_float32_x1_0 (a : Int) (b : Int) (data_a : Option Addr) (data_e : Nat) (data_n : Nat) (n : Int) (i : Int) (g11 g12 g13 g14 g15 g16 g17 g18 g19 g20 g21 g22 g23 g24 g25 g26 g27 g28 g29 g30 g31 g32 g33 g34 g35 g36 g37 : Value) (H : AHeap) (K : Value → AHeap → Prop)  {I : Nat → List Value → AHeap → Prop} {μ : Nat} : loopQ I μ (blockQ 0 (retK Try.prog Try.f159 K)) (.exit 0) [.slice data_a data_n data_e, .int .i64 a, .int .i64 b, .int .i64 n, .func (.func 128) #[] #[], undef, undef, undef, undef, undef, .int .i64 i, g11, g12, g13, g14, g15, g16, g17, g18, g19, g20, g21, g22, g23, g24, g25, g26, g27, g28, g29, g30, g31, g32, g33, g34, g35, g36, g37] H =
  (K (.tuple #[]) H) := by kernel_rfl
theorem E_slices_swapRangeCmpFunc_float32_ok : ∀ g, FnOk Try.prog g (E_slices_swapRangeCmpFunc_float32 g) := FnOk.envOf (by
  intro x hx; cases hx)
set_option maxHeartbeats 1000000 in
theorem slices_swapRangeCmpFunc_float32_main (data_a : Option Addr) (data_n : Nat) (data_e : Nat) (a : Int) (b : Int) (n : Int) (H : AHeap) (K : Value → AHeap → Prop) (h : T_slices_swapRangeCmpFunc_float32 data_a data_n data_e a b n H fun  (H' : AHeap) => K (.tuple #[]) H') : bodyK Try.prog E_slices_swapRangeCmpFunc_float32 Try.f159 [.slice data_a data_n data_e, .int .i64 a, .int .i64 b, .int .i64 n, .func (.func 128) #[] #[]] H K := by
  rw [slices_swapRangeCmpFunc_float32_vc]
  obtain ⟨lo, l_data, i_data, bd_33, pr0, pr1, pr2, pr3, pr4, hk⟩ := h
  obtain rfl := i_data.len
  have up_m := i_data.up
  have lo_m := i_data.lo
  have e : (p_slices_swapRangeCmpFunc_float32 l_data a b n) = _ := rfl
  have e := e.trans (p_slices_swapRangeCmpFunc_float32_eq l_data a b n)
  have g0 := KeepA.refl data_a H
  refine slices_swapRangeCmpFunc_float32_L1 _ _ _ _ _ _ (fun (μ : Nat) (i : Int) (H_1 : AHeap) => ∃ (y1_1 : List Nat), OwnS fF H_1 lo data_a l_data.length data_e y1_1 ∧ y1_1.length = (l_data).length ∧ H.length ≤ H_1.length ∧ KeepA data_a H H_1 ∧ (0 : Int) ≤ i ∧ ((i ≤ n ∨ i ≤ (0 : Int))) ∧ n - i ≤ (μ : Int) ∧ p_slices_swapRangeCmpFunc_float32 l_data a b n = p_slices_swapRangeCmpFunc_float32_l1 l_data a b n (μ + 1) i y1_1) (Int.toNat (n - (0 : Int))) _ _ _ _ _ _ _ _ _ _ _ _ _ _ _ _ _ _ _ _ _ _ _ _ _ _ _ _ H ?_ ?_
  · exact ⟨_, i_data, (by first | rfl | assumption | omega | (simp; done)), (by omega), g0, (by first | omega | (simp; done) | (simp; omega)), (by first | omega | (simp; done) | (simp; omega)), (by omega), e⟩
  · intro μ i g11 g12 g13 g14 g15 g16 g17 g18 g19 g20 g21 g22 g23 g24 g25 g26 g27 g28 g29 g30 g31 g32 g33 g34 g35 g36 g37 H_1 hI
    obtain ⟨y1_1, r_1, y_2, n_3, g_4, v_5, v_6, hμ, e⟩ := hI
    rw [slices_swapRangeCmpFunc_float32_r1]
    have e := e.trans (p_slices_swapRangeCmpFunc_float32_l1_s l_data a b n μ i y1_1)
    have l_7 := g_4.1
    refine Br.intro (fun c_8 => ?_) (fun c_8 => ?_)
    · have e := e.trans (cond_t c_8)
      have c_8' := of_decide_eq_true c_8
      rw [show IntKind.wrap .i64 (a + i) = (a + i) from wrap64 (by omega) (by omega)]
      rw [show IntKind.wrap .i64 (b + i) = (b + i) from wrap64 (by omega) (by omega)]
      obtain ⟨b_9, f_10, q_11⟩ := (r_1.isL).pos (by first | omega | (simp only [List.length_set, List.length_replicate, List.length_append, List.length_cons, List.length_nil, List.length_take, List.length_drop, marks_length]; done) | (simp only [List.length_set, List.length_replicate, List.length_append, List.length_cons, List.length_nil, List.length_take, List.length_drop, marks_length]; omega))
      refine ⟨by omega, by omega, b_9, f_10, q_11, ?_⟩
      refine ⟨((y1_1).getD ((b + i) : Int).toNat 0), (r_1.isL).rd (Grow.refl _) q_11 (by omega) _, ?_⟩
      obtain ⟨b_12, f_13, q_14⟩ := (r_1.isL).pos (by first | omega | (simp only [List.length_set, List.length_replicate, List.length_append, List.length_cons, List.length_nil, List.length_take, List.length_drop, marks_length]; done) | (simp only [List.length_set, List.length_replicate, List.length_append, List.length_cons, List.length_nil, List.length_take, List.length_drop, marks_length]; omega))
      refine ⟨by omega, by omega, b_12, f_13, q_14, ?_⟩
      refine ⟨((y1_1).getD ((a + i) : Int).toNat 0), (r_1.isL).rd (Grow.refl _) q_14 (by omega) _, ?_⟩
      obtain ⟨b_15, f_16, q_17⟩ := (r_1.isL).pos (by first | omega | (simp only [List.length_set, List.length_replicate, List.length_append, List.length_cons, List.length_nil, List.length_take, List.length_drop, marks_length]; done) | (simp only [List.length_set, List.length_replicate, List.length_append, List.length_cons, List.length_nil, List.length_take, List.length_drop, marks_length]; omega))
      refine ⟨by omega, by omega, b_15, f_16, q_17, ?_⟩
      refine Lt.setS r_1 q_17 (by first | omega | (simp only [List.length_set]; (first | omega | (simp only [List.length_set, List.length_replicate, List.length_append, List.length_cons, List.length_nil, List.length_take, List.length_drop, marks_length]; done) | (simp only [List.length_set, List.length_replicate, List.length_append, List.length_cons, List.length_nil, List.length_take, List.length_drop, marks_length]; omega)))) (fun H_2 hl_18 o_20 k_19 => ?_)
      have l_21 := k_19.1
      have g_22 := g_4.transA k_19
      have l_23 := g_22.1
      obtain ⟨b_24, f_25, q_26⟩ := (o_20.isL).pos (by first | omega | (simp only [List.length_set, List.length_replicate, List.length_append, List.length_cons, List.length_nil, List.length_take, List.length_drop, marks_length]; done) | (simp only [List.length_set, List.length_replicate, List.length_append, List.length_cons, List.length_nil, List.length_take, List.length_drop, marks_length]; omega))
      refine ⟨by omega, by omega, b_24, f_25, q_26, ?_⟩
      refine Lt.setS o_20 q_26 (by first | omega | (simp only [List.length_set]; (first | omega | (simp only [List.length_set, List.length_replicate, List.length_append, List.length_cons, List.length_nil, List.length_take, List.length_drop, marks_length]; done) | (simp only [List.length_set, List.length_replicate, List.length_append, List.length_cons, List.length_nil, List.length_take, List.length_drop, marks_length]; omega)))) (fun H_3 hl_27 o_29 k_28 => ?_)
      have l_30 := k_28.1
      have g_31 := g_22.transA k_28
      have l_32 := g_31.1
      rw [show IntKind.wrap .i64 (i + 1) = (i + 1) from wrap64 (by omega) (by omega)]
      refine slices_swapRangeCmpFunc_float32_n1 (μ - 1) (by first | omega) ⟨_, o_29, (by first | assumption | omega | (simp only [List.length_set]; first | rfl | assumption | omega)), (by omega), g_31, (by first | omega | (simp only [List.length_append, List.length_cons, List.length_nil, List.length_set]; done) | (simp only [List.length_append, List.length_cons, List.length_nil, List.length_set]; omega)), (by first | omega | (simp only [List.length_append, List.length_cons, List.length_nil, List.length_set]; done) | (simp only [List.length_append, List.length_cons, List.length_nil, List.length_set]; omega)), (by first | omega), (by rw [show μ - 1 + 1 = μ from by first | omega]; exact e)⟩
    · have e := e.trans (cond_f c_8)
      have c_8' := of_decide_eq_false c_8
      rw [slices_swapRangeCmpFunc_float32_x1_0]
      rw [e] at hk
      exact hk H_1 g_4 r_1
theorem slices_swapRangeCmpFunc_float32_ok : FnOk Try.prog 159 S_slices_swapRangeCmpFunc_float32 := by
  refine FnOk.body mix_ok E_slices_swapRangeCmpFunc_float32_ok Try.func159 rfl (by kernel_rfl) (by kernel_rfl) ?_ ?_ ?_ ?_ ?_
  · intro args H K K' h hk
    simp only [S_slices_swapRangeCmpFunc_float32] at *
    unfold F_slices_swapRangeCmpFunc_float32 at *
    split at hk
    · obtain ⟨lo, l_data, i_data, bd_33, pr0, pr1, pr2, pr3, pr4, k⟩ := hk
      exact ⟨lo, l_data, i_data, bd_33, pr0, pr1, pr2, pr3, pr4, (fun H' gg ow => h _ _ (k H' gg ow))⟩
    · exact hk.elim
  · intro hq; cases hq
  · intro args H K hk
    simp only [S_slices_swapRangeCmpFunc_float32] at *
    unfold F_slices_swapRangeCmpFunc_float32 at *
    split at hk
    · obtain ⟨lo, l_data, i_data, bd_33, pr0, pr1, pr2, pr3, pr4, k⟩ := hk
      exact (OwnS.put i_data _ (by exact slices_swapRange_len _ _ _ _ (by omega) (by omega))).elim fun H1 h => ⟨_, _, k H1 h.1 h.2⟩
    · exact hk.elim
  · intro hq; cases hq
  · have mm := @slices_swapRangeCmpFunc_float32_main
    revert mm
    generalize bodyK Try.prog E_slices_swapRangeCmpFunc_float32 Try.f159 = Q
    intro mm args H K hk
    simp only [S_slices_swapRangeCmpFunc_float32] at *
    unfold F_slices_swapRangeCmpFunc_float32 at *
    split at hk
    · exact mm _ _ _ _ _ _ H K hk
    · exact hk.elim

def p_slices_rotateCmpFunc_float32_l1 (l_data : List Nat) (a : Int) (m : Int) (b : Int) : Nat → Int → Int → (List Nat) → (List Nat)
  | 0, _, _, _ => []
  | μ + 1, i, j, y1_1 => (bif (i : Int) != j then (bif decide ((j : Int) < i) then (p_slices_rotateCmpFunc_float32_l1 l_data a m b μ (i - j) j ((p_slices_swapRangeCmpFunc_float32 y1_1 (m - i) m j))) else (p_slices_rotateCmpFunc_float32_l1 l_data a m b μ i (j - i) ((p_slices_swapRangeCmpFunc_float32 y1_1 (m - i) (((m + j) - i)) i)))) else (p_slices_swapRangeCmpFunc_float32 y1_1 (m - i) m i))
theorem p_slices_rotateCmpFunc_float32_l1_s (l_data : List Nat) (a : Int) (m : Int) (b : Int) (μ : Nat) (i : Int) (j : Int) (y1_1 : List Nat) : p_slices_rotateCmpFunc_float32_l1 l_data a m b (μ + 1) i j y1_1 = (bif (i : Int) != j then (bif decide ((j : Int) < i) then (p_slices_rotateCmpFunc_float32_l1 l_data a m b μ (i - j) j ((p_slices_swapRangeCmpFunc_float32 y1_1 (m - i) m j))) else (p_slices_rotateCmpFunc_float32_l1 l_data a m b μ i (j - i) ((p_slices_swapRangeCmpFunc_float32 y1_1 (m - i) (((m + j) - i)) i)))) else (p_slices_swapRangeCmpFunc_float32 y1_1 (m - i) m i)) := rfl
def p_slices_rotateCmpFunc_float32 (l_data : List Nat) (a : Int) (m : Int) (b : Int) : (List Nat) := (p_slices_rotateCmpFunc_float32_l1 l_data a m b (Int.toNat ((m - a) + (b - m)) + 1) (m - a) (b - m) l_data)
theorem p_slices_rotateCmpFunc_float32_eq (l_data : List Nat) (a : Int) (m : Int) (b : Int) : p_slices_rotateCmpFunc_float32 l_data a m b = (p_slices_rotateCmpFunc_float32_l1 l_data a m b (Int.toNat ((m - a) + (b - m)) + 1) (m - a) (b - m) l_data) := rfl
def T_slices_rotateCmpFunc_float32 (data_a : Option Addr) (data_n : Nat) (data_e : Nat) (a : Int) (m : Int) (b : Int) (H : AHeap) (K : AHeap → Prop) : Prop := ∃ lo : Nat, ∃ (l_data : List Nat), OwnS fF H lo data_a data_n data_e l_data ∧ l_data.length < 1073741824 ∧ 0 ≤ a ∧ a < m ∧ m < b ∧ b ≤ l_data.length ∧ ((∀ H' : AHeap, KeepA data_a H H' → OwnS fF H' lo data_a data_n data_e (p_slices_rotateCmpFunc_float32 l_data a m b) → K  H'))
theorem T_slices_rotateCmpFunc_float32_i {data_a : Option Addr} {data_n : Nat} {data_e : Nat} {a : Int} {m : Int} {b : Int} {H : AHeap} {K : AHeap → Prop} (h : ∃ lo : Nat, ∃ (l_data : List Nat), OwnS fF H lo data_a data_n data_e l_data ∧ l_data.length < 1073741824 ∧ 0 ≤ a ∧ a < m ∧ m < b ∧ b ≤ l_data.length ∧ ((∀ H' : AHeap, KeepA data_a H H' → OwnS fF H' lo data_a data_n data_e (p_slices_rotateCmpFunc_float32 l_data a m b) → K  H'))) : T_slices_rotateCmpFunc_float32 data_a data_n data_e a m b H K := h
theorem slices_rotate_loop (l : List Nat) (a m b : Int) (ha : 0 ≤ a) : ∀ (μ : Nat) (i j : Int) (y : List Nat), i + j ≤ μ → 0 < i → 0 < j → i ≤ m - a →
    p_slices_rotateCmpFunc_float32_l1 l a m b (μ + 1) i j y = So.rot (μ + 1) y m.toNat i.toNat j.toNat := by
  intro μ
  induction μ with
  | zero => intro i j y h1 h2 h3; omega
  | succ μ ih =>
    intro i j y h1 h2 h3 h4
    rw [p_slices_rotateCmpFunc_float32_l1_s]
    unfold So.rot
    by_cases hij : i = j
    · subst hij
      rw [if_pos rfl, show ((i : Int) != i) = false by simp, cond_false, slices_swapRange_eq _ _ _ _ (by omega) (by omega)]
      rw [show (m - i).toNat = m.toNat - i.toNat by omega]
    · have hne : ((i : Int) != j) = true := by simpa using hij
      rw [hne, cond_true, if_neg (by omega)]
      by_cases hlt : j < i
      · rw [decide_eq_true hlt, cond_true, if_pos (by omega), slices_swapRange_eq _ _ _ _ (by omega) (by omega), ih _ _ _ (by omega) (by omega) h3 (by omega)]
        rw [show (m - i).toNat = m.toNat - i.toNat by omega, show (i - j).toNat = i.toNat - j.toNat by omega]
      · rw [decide_eq_false hlt, cond_false, if_neg (by omega), slices_swapRange_eq _ _ _ _ (by omega) (by omega), ih _ _ _ (by omega) h2 (by omega) h4]
        rw [show (m - i).toNat = m.toNat - i.toNat by omega, show (j - i).toNat = j.toNat - i.toNat by omega, show (m + j - i).toNat = m.toNat + j.toNat - i.toNat by omega]
theorem slices_rotate_eq (l : List Nat) (a m b : Int) (ha : 0 ≤ a) (h1 : a < m) (h2 : m < b) : p_slices_rotateCmpFunc_float32 l a m b = So.rot ((b - a).toNat + 1) l m.toNat (m - a).toNat (b - m).toNat := by
  rw [p_slices_rotateCmpFunc_float32_eq, slices_rotate_loop l a m b ha _ _ _ _ (by omega) (by omega) (by omega) (by omega), show (m - a + (b - m)).toNat = (b - a).toNat by omega]
theorem slices_rotate_len (l : List Nat) (a m b : Int) (ha : 0 ≤ a) (h1 : a < m) (h2 : m < b) : (p_slices_rotateCmpFunc_float32 l a m b).length = l.length := by
  rw [slices_rotate_eq l a m b ha h1 h2, So.rot_length]
/-! slices_rotateCmpFunc_float32: function 157 -/
def E_slices_rotateCmpFunc_float32 : Env := envOf [(159, S_slices_swapRangeCmpFunc_float32)]
def F_slices_rotateCmpFunc_float32 : List Value → AHeap → (Value → AHeap → Prop) → Prop
  | [.slice data_a data_n data_e, .int .i64 a, .int .i64 m, .int .i64 b, .func (.func 128) ⟨[]⟩ ⟨[]⟩], H, K => T_slices_rotateCmpFunc_float32 data_a data_n data_e a m b H fun  (H' : AHeap) => K (.tuple #[]) H'
  | _, _, _ => False
def S_slices_rotateCmpFunc_float32 : FSpec := { F := F_slices_rotateCmpFunc_float32, quiet := false, tame := false }
theorem slices_rotateCmpFunc_float32_vc (data_a : Option Addr) (data_n : Nat) (data_e : Nat) (a : Int) (m : Int) (b : Int) (H : AHeap) (K : Value → AHeap → Prop) : bodyK Try.prog E_slices_rotateCmpFunc_float32 Try.f157 [.slice data_a data_n data_e, .int .i64 a, .int .i64 m, .int .i64 b, .func (.func 128) #[] #[]] H K =
  (loopK (exK Try.prog E_slices_rotateCmpFunc_float32 (cl (cl (cl (cr (cr (bodyC Try.f157))))))) [.slice data_a data_n data_e, .int .i64 a, .int .i64 m, .int .i64 b, .func (.func 128) #[] #[], undef, undef, undef, undef, undef, .int .i64 (IntKind.wrap .i64 (m - a)), .int .i64 (IntKind.wrap .i64 (b - m)), .int .i64 m, .int .i64 a, .int .i64 (IntKind.wrap .i64 (m - a)), .int .i64 b, .int .i64 m, .int .i64 (IntKind.wrap .i64 (b - m)), undef, undef, undef, undef, undef, undef, undef, undef, undef, undef, undef, undef, undef, undef, undef, undef, undef, undef, undef, undef, undef, undef, undef, undef, undef, undef, undef, undef, undef, undef, undef, undef, undef, undef, undef, undef, undef, undef, undef, undef] H (blockQ 0 (seqQ (exK Try.prog E_slices_rotateCmpFunc_float32 (cr (cr (cr (bodyC Try.f157))))) (retK Try.prog Try.f157 K)))) := by kernel_rfl
theorem slices_rotateCmpFunc_float32_r1 (a : Int) (b : Int) (data_a : Option Addr) (data_e : Nat) (data_n : Nat) (m : Int) (z1_14 : Int) (z1_17 : Int) (i : Int) (j : Int) (g18 g19 g20 g21 g22 g23 g24 g25 g26 g27 g28 g29 g30 g31 g32 g33 g34 g35 g36 g37 g38 g39 g40 g41 g42 g43 g44 g45 g46 g47 g48 g49 : Value) (H : AHeap) (R : Post) : exK Try.prog E_slices_rotateCmpFunc_float32 (cl (cl (cl (cr (cr (bodyC Try.f157)))))) [.slice data_a data_n data_e, .int .i64 a, .int .i64 m, .int .i64 b, .func (.func 128) #[] #[], undef, undef, undef, undef, undef, .int .i64 i, .int .i64 j, .int .i64 m, .int .i64 a, .int .i64 z1_14, .int .i64 b, .int .i64 m, .int .i64 z1_17, g18, g19, g20, g21, g22, g23, g24, g25, g26, g27, g28, g29, g30, g31, g32, g33, g34, g35, g36, g37, g38, g39, g40, g41, g42, g43, g44, g45, g46, g47, g48, g49, undef, undef, undef, undef, undef, undef, undef, undef] H R =
  (Br ((i : Int) != j) (Br (decide ((j : Int) < i)) (T_slices_swapRangeCmpFunc_float32 data_a data_n data_e (IntKind.wrap .i64 (m - i)) m j H fun  (H1 : AHeap) => R .normal [.slice data_a data_n data_e, .int .i64 a, .int .i64 m, .int .i64 b, .func (.func 128) #[] #[], undef, undef, undef, undef, undef, .int .i64 (IntKind.wrap .i64 (i - j)), .int .i64 j, .int .i64 m, .int .i64 a, .int .i64 z1_14, .int .i64 b, .int .i64 m, .int .i64 z1_17, .int .i64 i, .int .i64 j, .bool ((i : Int) != j), .int .i64 i, .int .i64 j, .bool (decide ((j : Int) < i)), .slice data_a data_n data_e, .int .i64 m, .int .i64 i, .int .i64 (IntKind.wrap .i64 (m - i)), .int .i64 m, .int .i64 j, .func (.func 128) #[] #[], .tuple #[], .int .i64 i, .int .i64 j, .int .i64 (IntKind.wrap .i64 (i - j)), g35, g36, g37, g38, g39, g40, g41, g42, g43, g44, g45, g46, g47, g48, g49, undef, undef, undef, undef, undef, undef, undef, undef] H1) (T_slices_swapRangeCmpFunc_float32 data_a data_n data_e (IntKind.wrap .i64 (m - i)) (IntKind.wrap .i64 ((IntKind.wrap .i64 (m + j)) - i)) i H fun  (H2 : AHeap) => R .normal [.slice data_a data_n data_e, .int .i64 a, .int .i64 m, .int .i64 b, .func (.func 128) #[] #[], undef, undef, undef, undef, undef, .int .i64 i, .int .i64 (IntKind.wrap .i64 (j - i)), .int .i64 m, .int .i64 a, .int .i64 z1_14, .int .i64 b, .int .i64 m, .int .i64 z1_17, .int .i64 i, .int .i64 j, .bool ((i : Int) != j), .int .i64 i, .int .i64 j, .bool (decide ((j : Int) < i)), g24, g25, g26, g27, g28, g29, g30, g31, g32, g33, g34, .slice data_a data_n data_e, .int .i64 m, .int .i64 i, .int .i64 (IntKind.wrap .i64 (m - i)), .int .i64 m, .int .i64 j, .int .i64 (IntKind.wrap .i64 (m + j)), .int .i64 i, .int .i64 (IntKind.wrap .i64 ((IntKind.wrap .i64 (m + j)) - i)), .int .i64 i, .func (.func 128) #[] #[], .tuple #[], .int .i64 j, .int .i64 i, .int .i64 (IntKind.wrap .i64 (j - i)), undef, undef, undef, undef, undef, undef, undef, undef] H2)) (R (.exit 0) [.slice data_a data_n data_e, .int .i64 a, .int .i64 m, .int .i64 b, .func (.func 128) #[] #[], undef, undef, undef, undef, undef, .int .i64 i, .int .i64 j, .int .i64 m, .int .i64 a, .int .i64 z1_14, .int .i64 b, .int .i64 m, .int .i64 z1_17, .int .i64 i, .int .i64 j, .bool ((i : Int) != j), g21, g22, g23, g24, g25, g26, g27, g28, g29, g30, g31, g32, g33, g34, g35, g36, g37, g38, g39, g40, g41, g42, g43, g44, g45, g46, g47, g48, g49, undef, undef, undef, undef, undef, undef, undef, undef] H)) := by kernel_rfl
def slices_rotateCmpFunc_float32_I1 (a : Int) (b : Int) (data_a : Option Addr) (data_e : Nat) (data_n : Nat) (m : Int) (z1_14 : Int) (z1_17 : Int) (Inv : Nat → Int → Int → AHeap → Prop) : Nat → List Value → AHeap → Prop := fun μ tm H => ∃ (i : Int), ∃ (j : Int), ∃ g18 g19 g20 g21 g22 g23 g24 g25 g26 g27 g28 g29 g30 g31 g32 g33 g34 g35 g36 g37 g38 g39 g40 g41 g42 g43 g44 g45 g46 g47 g48 g49, tm = [.slice data_a data_n data_e, .int .i64 a, .int .i64 m, .int .i64 b, .func (.func 128) #[] #[], undef, undef, undef, undef, undef, .int .i64 i, .int .i64 j, .int .i64 m, .int .i64 a, .int .i64 z1_14, .int .i64 b, .int .i64 m, .int .i64 z1_17, g18, g19, g20, g21, g22, g23, g24, g25, g26, g27, g28, g29, g30, g31, g32, g33, g34, g35, g36, g37, g38, g39, g40, g41, g42, g43, g44, g45, g46, g47, g48, g49, undef, undef, undef, undef, undef, undef, undef, undef] ∧ Inv μ i j H
theorem slices_rotateCmpFunc_float32_L1 (a : Int) (b : Int) (data_a : Option Addr) (data_e : Nat) (data_n : Nat) (m : Int) (z1_14 : Int) (z1_17 : Int) {Q : Post} (Inv : Nat → Int → Int → AHeap → Prop) (ν : Nat) (i : Int) (j : Int) (g18 g19 g20 g21 g22 g23 g24 g25 g26 g27 g28 g29 g30 g31 g32 g33 g34 g35 g36 g37 g38 g39 g40 g41 g42 g43 g44 g45 g46 g47 g48 g49 : Value) (H : AHeap) (h0 : Inv ν i j H)
    (hs : ∀ (μ : Nat) (i : Int) (j : Int) (g18 g19 g20 g21 g22 g23 g24 g25 g26 g27 g28 g29 g30 g31 g32 g33 g34 g35 g36 g37 g38 g39 g40 g41 g42 g43 g44 g45 g46 g47 g48 g49 : Value) (H : AHeap), Inv μ i j H → exK Try.prog E_slices_rotateCmpFunc_float32 (cl (cl (cl (cr (cr (bodyC Try.f157)))))) [.slice data_a data_n data_e, .int .i64 a, .int .i64 m, .int .i64 b, .func (.func 128) #[] #[], undef, undef, undef, undef, undef, .int .i64 i, .int .i64 j, .int .i64 m, .int .i64 a, .int .i64 z1_14, .int .i64 b, .int .i64 m, .int .i64 z1_17, g18, g19, g20, g21, g22, g23, g24, g25, g26, g27, g28, g29, g30, g31, g32, g33, g34, g35, g36, g37, g38, g39, g40, g41, g42, g43, g44, g45, g46, g47, g48, g49, undef, undef, undef, undef, undef, undef, undef, undef] H (loopQ (slices_rotateCmpFunc_float32_I1 a b data_a data_e data_n m z1_14 z1_17 Inv) μ Q)) : loopK (exK Try.prog E_slices_rotateCmpFunc_float32 (cl (cl (cl (cr (cr (bodyC Try.f157))))))) [.slice data_a data_n data_e, .int .i64 a, .int .i64 m, .int .i64 b, .func (.func 128) #[] #[], undef, undef, undef, undef, undef, .int .i64 i, .int .i64 j, .int .i64 m, .int .i64 a, .int .i64 z1_14, .int .i64 b, .int .i64 m, .int .i64 z1_17, g18, g19, g20, g21, g22, g23, g24, g25, g26, g27, g28, g29, g30, g31, g32, g33, g34, g35, g36, g37, g38, g39, g40, g41, g42, g43, g44, g45, g46, g47, g48, g49, undef, undef, undef, undef, undef, undef, undef, undef] H Q :=
  ⟨slices_rotateCmpFunc_float32_I1 a b data_a data_e data_n m z1_14 z1_17 Inv, ν, ⟨i, j, g18, g19, g20, g21, g22, g23, g24, g25, g26, g27, g28, g29, g30, g31, g32, g33, g34, g35, g36, g37, g38, g39, g40, g41, g42, g43, g44, g45, g46, g47, g48, g49, rfl, h0⟩, fun μ tm H h => by obtain ⟨i, j, g18, g19, g20, g21, g22, g23, g24, g25, g26, g27, g28, g29, g30, g31, g32, g33, g34, g35, g36, g37, g38, g39, g40, g41, g42, g43, g44, g45, g46, g47, g48, g49, rfl, hI⟩ := h; exact hs μ i j g18 g19 g20 g21 g22 g23 g24 g25 g26 g27 g28 g29 g30 g31 g32 g33 g34 g35 g36 g37 g38 g39 g40 g41 g42 g43 g44 g45 g46 g47 g48 g49 H hI⟩
theorem slices_rotateCmpFunc_float32_n1 {a : Int} {b : Int} {data_a : Option Addr} {data_e : Nat} {data_n : Nat} {m : Int} {z1_14 : Int} {z1_17 : Int} {Q : Post} {Inv : Nat → Int → Int → AHeap → Prop} {μ : Nat} (μ' : Nat) {i : Int} {j : Int} {g18 g19 g20 g21 g22 g23 g24 g25 g26 g27 g28 g29 g30 g31 g32 g33 g34 g35 g36 g37 g38 g39 g40 g41 g42 g43 g44 g45 g46 g47 g48 g49 : Value} {H : AHeap} (hm : μ' < μ) (hI : Inv μ' i j H) : loopQ (slices_rotateCmpFunc_float32_I1 a b data_a data_e data_n m z1_14 z1_17 Inv) μ Q .normal [.slice data_a data_n data_e, .int .i64 a, .int .i64 m, .int .i64 b, .func (.func 128) #[] #[], undef, undef, undef, undef, undef, .int .i64 i, .int .i64 j, .int .i64 m, .int .i64 a, .int .i64 z1_14, .int .i64 b, .int .i64 m, .int .i64 z1_17, g18, g19, g20, g21, g22, g23, g24, g25, g26, g27, g28, g29, g30, g31, g32, g33, g34, g35, g36, g37, g38, g39, g40, g41, g42, g43, g44, g45, g46, g47, g48, g49, undef, undef, undef, undef, undef, undef, undef, undef] H := ⟨μ', hm, i, j, g18, g19, g20, g21, g22, g23, g24, g25, g26, g27, g28, g29, g30, g31, g32, g33, g34, g35, g36, g37, g38, g39, g40, g41, g42, g43, g44, g45, g46, g47, g48, g49, rfl, hI⟩
theorem slices_rotateCmpFunc_float32_x1_0 (a : Int) (b : Int) (data_a : Option Addr) (data_e : Nat) (data_n : Nat) (m : Int) (z1_14 : Int) (z1_17 : Int) (i : Int) (j : Int) (g18 g19 g20 g21 g22 g23 g24 g25 g26 g27 g28 g29 g30 g31 g32 g33 g34 g35 g36 g37 g38 g39 g40 g41 g42 g43 g44 g45 g46 g47 g48 g49 : Value) (H : AHeap) (K : Value → AHeap → Prop)  {I : Nat → List Value → AHeap → Prop} {μ : Nat} : loopQ I μ (blockQ 0 (seqQ (exK Try.prog E_slices_rotateCmpFunc_float32 (cr (cr (cr (bodyC Try.f157))))) (retK Try.prog Try.f157 K))) (.exit 0) [.slice data_a data_n data_e, .int .i64 a, .int .i64 m, .int .i64 b, .func (.func 128) #[] #[], undef, undef, undef, undef, undef, .int .i64 i, .int .i64 j, .int .i64 m, .int .i64 a, .int .i64 z1_14, .int .i64 b, .int .i64 m, .int .i64 z1_17, g18, g19, g20, g21, g22, g23, g24, g25, g26, g27, g28, g29, g30, g31, g32, g33, g34, g35, g36, g37, g38, g39, g40, g41, g42, g43, g44, g45, g46, g47, g48, g49, undef, undef, undef, undef, undef, undef, undef, undef] H =
  (T_slices_swapRangeCmpFunc_float32 data_a data_n data_e (IntKind.wrap .i64 (m - i)) m i H fun  (H3 : AHeap) => K (.tuple #[]) H3) := by kernel_rfl
theorem E_slices_rotateCmpFunc_float32_ok : ∀ g, FnOk Try.prog g (E_slices_rotateCmpFunc_float32 g) := FnOk.envOf (by
  intro x hx
  simp only [List.mem_cons, List.not_mem_nil, or_false] at hx
  subst hx; exact slices_swapRangeCmpFunc_float32_ok)
set_option maxHeartbeats 1000000 in
theorem slices_rotateCmpFunc_float32_main (data_a : Option Addr) (data_n : Nat) (data_e : Nat) (a : Int) (m : Int) (b : Int) (H : AHeap) (K : Value → AHeap → Prop) (h : T_slices_rotateCmpFunc_float32 data_a data_n data_e a m b H fun  (H' : AHeap) => K (.tuple #[]) H') : bodyK Try.prog E_slices_rotateCmpFunc_float32 Try.f157 [.slice data_a data_n data_e, .int .i64 a, .int .i64 m, .int .i64 b, .func (.func 128) #[] #[]] H K := by
  rw [slices_rotateCmpFunc_float32_vc]
  obtain ⟨lo, l_data, i_data, bd_30, pr0, pr1, pr2, pr3, hk⟩ := h
  obtain rfl := i_data.len
  have up_m := i_data.up
  have lo_m := i_data.lo
  have e : (p_slices_rotateCmpFunc_float32 l_data a m b) = _ := rfl
  have e := e.trans (p_slices_rotateCmpFunc_float32_eq l_data a m b)
  have g0 := KeepA.refl data_a H
  rw [show IntKind.wrap .i64 (m - a) = (m - a) from wrap64 (by omega) (by omega)]
  rw [show IntKind.wrap .i64 (b - m) = (b - m) from wrap64 (by omega) (by omega)]
  refine slices_rotateCmpFunc_float32_L1 _ _ _ _ _ _ _ _ (fun (μ : Nat) (i : Int) (j : Int) (H_1 : AHeap) => ∃ (y1_1 : List Nat), OwnS fF H_1 lo data_a l_data.length data_e y1_1 ∧ y1_1.length = (l_data).length ∧ H.length ≤ H_1.length ∧ KeepA data_a H H_1 ∧ 0 < i ∧ 0 < j ∧ i ≤ m - a ∧ j ≤ b - m ∧ i + j ≤ (μ : Int) ∧ p_slices_rotateCmpFunc_float32 l_data a m b = p_slices_rotateCmpFunc_float32_l1 l_data a m b (μ + 1) i j y1_1) (Int.toNat ((m - a) + (b - m))) _ _ _ _ _ _ _ _ _ _ _ _ _ _ _ _ _ _ _ _ _ _ _ _ _ _ _ _ _ _ _ _ _ _ H ?_ ?_
  · exact ⟨_, i_data, (by first | rfl | assumption | omega | (simp; done)), (by omega), g0, (by first | omega | (simp; done) | (simp; omega)), (by first | omega | (simp; done) | (simp; omega)), (by first | omega | (simp; done) | (simp; omega)), (by first | omega | (simp; done) | (simp; omega)), (by omega), e⟩
  · intro μ i j g18 g19 g20 g21 g22 g23 g24 g25 g26 g27 g28 g29 g30 g31 g32 g33 g34 g35 g36 g37 g38 g39 g40 g41 g42 g43 g44 g45 g46 g47 g48 g49 H_1 hI
    obtain ⟨y1_1, r_1, y_2, n_3, g_4, v_5, v_6, v_7, v_8, hμ, e⟩ := hI
    rw [slices_rotateCmpFunc_float32_r1]
    have e := e.trans (p_slices_rotateCmpFunc_float32_l1_s l_data a m b μ i j y1_1)
    have l_9 := g_4.1
    refine Br.intro (fun c_10 => ?_) (fun c_10 => ?_)
    · have e := e.trans (cond_t c_10)
      have c_10' := ine_t c_10
      refine Br.intro (fun c_11 => ?_) (fun c_11 => ?_)
      · have e := e.trans (cond_t c_11)
        have c_11' := of_decide_eq_true c_11
        rw [show IntKind.wrap .i64 (m - i) = (m - i) from wrap64 (by omega) (by omega)]
        refine T_slices_swapRangeCmpFunc_float32_i ⟨_, _, r_1, (by first | omega | (simp only [List.length_set, List.length_replicate, List.length_append, List.length_cons, List.length_nil, List.length_take, List.length_drop, marks_length]; done) | (simp only [List.length_set, List.length_replicate, List.length_append, List.length_cons, List.length_nil, List.length_take, List.length_drop, marks_length]; omega)), (by first | assumption | omega | (simp; omega)), (by first | assumption | omega | (simp; omega)), (by first | assumption | omega | (simp; omega)), (by first | assumption | omega | (simp; omega)), (by first | assumption | omega | (simp; omega)), (fun H_2 k_13 o_14 => ?_)⟩
        have z_12 := slices_swapRange_len y1_1 (m - i) m j (by omega) (by omega)
        have l_15 := k_13.1
        have g_16 := g_4.transA k_13
        have l_17 := g_16.1
        rw [show IntKind.wrap .i64 (i - j) = (i - j) from wrap64 (by omega) (by omega)]
        refine slices_rotateCmpFunc_float32_n1 (μ - 1) (by first | omega) ⟨_, o_14, (by first | assumption | omega | (simp only [List.length_set]; first | rfl | assumption | omega)), (by omega), g_16, (by first | omega | (simp only [List.length_append, List.length_cons, List.length_nil, List.length_set]; done) | (simp only [List.length_append, List.length_cons, List.length_nil, List.length_set]; omega)), (by first | omega | (simp only [List.length_append, List.length_cons, List.length_nil, List.length_set]; done) | (simp only [List.length_append, List.length_cons, List.length_nil, List.length_set]; omega)), (by first | omega | (simp only [List.length_append, List.length_cons, List.length_nil, List.length_set]; done) | (simp only [List.length_append, List.length_cons, List.length_nil, List.length_set]; omega)), (by first | omega | (simp only [List.length_append, List.length_cons, List.length_nil, List.length_set]; done) | (simp only [List.length_append, List.length_cons, List.length_nil, List.length_set]; omega)), (by first | omega), (by rw [show μ - 1 + 1 = μ from by first | omega]; exact e)⟩
      · have e := e.trans (cond_f c_11)
        have c_11' := of_decide_eq_false c_11
        rw [show IntKind.wrap .i64 (m - i) = (m - i) from wrap64 (by omega) (by omega)]
        rw [show IntKind.wrap .i64 (m + j) = (m + j) from wrap64 (by omega) (by omega)]
        rw [show IntKind.wrap .i64 ((m + j) - i) = ((m + j) - i) from wrap64 (by omega) (by omega)]
        refine T_slices_swapRangeCmpFunc_float32_i ⟨_, _, r_1, (by first | omega | (simp only [List.length_set, List.length_replicate, List.length_append, List.length_cons, List.length_nil, List.length_take, List.length_drop, marks_length]; done) | (simp only [List.length_set, List.length_replicate, List.length_append, List.length_cons, List.length_nil, List.length_take, List.length_drop, marks_length]; omega)), (by first | assumption | omega | (simp; omega)), (by first | assumption | omega | (simp; omega)), (by first | assumption | omega | (simp; omega)), (by first | assumption | omega | (simp; omega)), (by first | assumption | omega | (simp; omega)), (fun H_3 k_19 o_20 => ?_)⟩
        have z_18 := slices_swapRange_len y1_1 (m - i) (((m + j) - i)) i (by omega) (by omega)
        have l_21 := k_19.1
        have g_22 := g_4.transA k_19
        have l_23 := g_22.1
        rw [show IntKind.wrap .i64 (j - i) = (j - i) from wrap64 (by omega) (by omega)]
        refine slices_rotateCmpFunc_float32_n1 (μ - 1) (by first | omega) ⟨_, o_20, (by first | assumption | omega | (simp only [List.length_set]; first | rfl | assumption | omega)), (by omega), g_22, (by first | omega | (simp only [List.length_append, List.length_cons, List.length_nil, List.length_set]; done) | (simp only [List.length_append, List.length_cons, List.length_nil, List.length_set]; omega)), (by first | omega | (simp only [List.length_append, List.length_cons, List.length_nil, List.length_set]; done) | (simp only [List.length_append, List.length_cons, List.length_nil, List.length_set]; omega)), (by first | omega | (simp only [List.length_append, List.length_cons, List.length_nil, List.length_set]; done) | (simp only [List.length_append, List.length_cons, List.length_nil, List.length_set]; omega)), (by first | omega | (simp only [List.length_append, List.length_cons, List.length_nil, List.length_set]; done) | (simp only [List.length_append, List.length_cons, List.length_nil, List.length_set]; omega)), (by first | omega), (by rw [show μ - 1 + 1 = μ from by first | omega]; exact e)⟩
    · have e := e.trans (cond_f c_10)
      have c_10' := ine_f c_10
      rw [slices_rotateCmpFunc_float32_x1_0]
      rw [show IntKind.wrap .i64 (m - i) = (m - i) from wrap64 (by omega) (by omega)]
      refine T_slices_swapRangeCmpFunc_float32_i ⟨_, _, r_1, (by first | omega | (simp only [List.length_set, List.length_replicate, List.length_append, List.length_cons, List.length_nil, List.length_take, List.length_drop, marks_length]; done) | (simp only [List.length_set, List.length_replicate, List.length_append, List.length_cons, List.length_nil, List.length_take, List.length_drop, marks_length]; omega)), (by first | assumption | omega | (simp; omega)), (by first | assumption | omega | (simp; omega)), (by first | assumption | omega | (simp; omega)), (by first | assumption | omega | (simp; omega)), (by first | assumption | omega | (simp; omega)), (fun H_4 k_25 o_26 => ?_)⟩
      have z_24 := slices_swapRange_len y1_1 (m - i) m i (by omega) (by omega)
      have l_27 := k_25.1
      have g_28 := g_4.transA k_25
      have l_29 := g_28.1
      rw [e] at hk
      exact hk H_4 g_28 o_26
theorem slices_rotateCmpFunc_float32_ok : FnOk Try.prog 157 S_slices_rotateCmpFunc_float32 := by
  refine FnOk.body mix_ok E_slices_rotateCmpFunc_float32_ok Try.func157 rfl (by kernel_rfl) (by kernel_rfl) ?_ ?_ ?_ ?_ ?_
  · intro args H K K' h hk
    simp only [S_slices_rotateCmpFunc_float32] at *
    unfold F_slices_rotateCmpFunc_float32 at *
    split at hk
    · obtain ⟨lo, l_data, i_data, bd_30, pr0, pr1, pr2, pr3, k⟩ := hk
      exact ⟨lo, l_data, i_data, bd_30, pr0, pr1, pr2, pr3, (fun H' gg ow => h _ _ (k H' gg ow))⟩
    · exact hk.elim
  · intro hq; cases hq
  · intro args H K hk
    simp only [S_slices_rotateCmpFunc_float32] at *
    unfold F_slices_rotateCmpFunc_float32 at *
    split at hk
    · obtain ⟨lo, l_data, i_data, bd_30, pr0, pr1, pr2, pr3, k⟩ := hk
      exact (OwnS.put i_data _ (by exact slices_rotate_len _ _ _ _ (by omega) (by omega) (by omega))).elim fun H1 h => ⟨_, _, k H1 h.1 h.2⟩
    · exact hk.elim
  · intro hq; cases hq
  · have mm := @slices_rotateCmpFunc_float32_main
    revert mm
    generalize bodyK Try.prog E_slices_rotateCmpFunc_float32 Try.f157 = Q
    intro mm args H K hk
    simp only [S_slices_rotateCmpFunc_float32] at *
    unfold F_slices_rotateCmpFunc_float32 at *
    split at hk
    · exact mm _ _ _ _ _ _ H K hk
    · exact hk.elim
end Go.Proofs.Ytghkkclonabpkaa.Ai
