/- What functions of the program come to on the abstract machine, and that they do so; printed by a program of mine around proofs of mine. -/
import Derived.Test.YtbnplefohfamnaaFFnLimits0
set_option linter.unusedVariables false
set_option linter.unusedSimpArgs false
set_option linter.defProp false
set_option maxRecDepth 100000
namespace Go.Proofs.Ytbnplefohfamnaa.Ai
open Go
attribute [local irreducible] bodyK bodyL
def rsymM (ν : Nat) (l : List Nat) (a m b : Int) : List Nat := So.symM kappa ν l a.toNat m.toNat b.toNat
theorem rsymM_len (ν : Nat) (l : List Nat) (a m b : Int) : (rsymM ν l a m b).length = l.length := So.symM_length _ _ _ _ _ _
def p_slices_symMergeCmpFunc_float32_l2 (ν0 : Nat) (l_data : List Nat) (a : Int) (m : Int) (b : Int) (i : Int) (j : Int) (y1_1 : List Nat) (k2_2 : Int → (List Nat) → (List Nat)) : Nat → Int → (List Nat) → (List Nat)
  | 0, _, _ => []
  | μ2 + 1, k, y2_1 => (bif decide ((k : Int) < (i - 1)) then (p_slices_symMergeCmpFunc_float32_l2 ν0 l_data a m b i j y1_1 k2_2 μ2 (k + 1) (((((y2_1).set (k : Int).toNat ((((y2_1).getD ((k + 1) : Int).toNat 0))))).set ((k + 1) : Int).toNat ((((y2_1).getD (k : Int).toNat 0)))))) else (k2_2 k y2_1))
def p_slices_symMergeCmpFunc_float32_l2_s := fun ν0 l_data a m b i j y1_1 k2_2 μ2 k y2_1 => @p_slices_symMergeCmpFunc_float32_l2.eq_2 ν0 l_data a m b i j y1_1 k2_2 k y2_1 μ2
def p_slices_symMergeCmpFunc_float32_l1 (ν0 : Nat) (l_data : List Nat) (a : Int) (m : Int) (b : Int) : Nat → Int → Int → (List Nat) → (List Nat)
  | 0, _, _, _ => []
  | μ + 1, i, j, y1_1 => (bif decide ((i : Int) < j) then (bif decide (((p_cmp_Compare_float32 (((y1_1).getD (((i + j) / 2) : Int).toNat 0)) (((y1_1).getD (a : Int).toNat 0))) : Int) < 0) then (p_slices_symMergeCmpFunc_float32_l1 ν0 l_data a m b μ (((((i + j) / 2)) + 1)) j y1_1) else (p_slices_symMergeCmpFunc_float32_l1 ν0 l_data a m b μ i (((i + j) / 2)) y1_1)) else (p_slices_symMergeCmpFunc_float32_l2 ν0 l_data a m b i j y1_1 (fun (k : Int) (y2_1 : List Nat) => y2_1) (Int.toNat (i - a) + 1) a y1_1))
def p_slices_symMergeCmpFunc_float32_l1_s := fun ν0 l_data a m b μ i j y1_1 => @p_slices_symMergeCmpFunc_float32_l1.eq_2 ν0 l_data a m b i j y1_1 μ
def p_slices_symMergeCmpFunc_float32_l4 (ν0 : Nat) (l_data : List Nat) (a : Int) (m : Int) (b : Int) (i_14 : Int) (j_15 : Int) (y3_1 : List Nat) (k4_6 : Int → (List Nat) → (List Nat)) : Nat → Int → (List Nat) → (List Nat)
  | 0, _, _ => []
  | μ4 + 1, k_17, y4_1 => (bif decide ((i_14 : Int) < k_17) then (p_slices_symMergeCmpFunc_float32_l4 ν0 l_data a m b i_14 j_15 y3_1 k4_6 μ4 (k_17 - 1) (((((y4_1).set (k_17 : Int).toNat ((((y4_1).getD ((k_17 - 1) : Int).toNat 0))))).set ((k_17 - 1) : Int).toNat ((((y4_1).getD (k_17 : Int).toNat 0)))))) else (k4_6 k_17 y4_1))
def p_slices_symMergeCmpFunc_float32_l4_s := fun ν0 l_data a m b i_14 j_15 y3_1 k4_6 μ4 k_17 y4_1 => @p_slices_symMergeCmpFunc_float32_l4.eq_2 ν0 l_data a m b i_14 j_15 y3_1 k4_6 k_17 y4_1 μ4
def p_slices_symMergeCmpFunc_float32_l3 (ν0 : Nat) (l_data : List Nat) (a : Int) (m : Int) (b : Int) : Nat → Int → Int → (List Nat) → (List Nat)
  | 0, _, _, _ => []
  | μ + 1, i_14, j_15, y3_1 => (bif decide ((i_14 : Int) < j_15) then (bif !(decide (((p_cmp_Compare_float32 (((y3_1).getD (m : Int).toNat 0)) (((y3_1).getD (((i_14 + j_15) / 2) : Int).toNat 0))) : Int) < 0)) then (p_slices_symMergeCmpFunc_float32_l3 ν0 l_data a m b μ (((((i_14 + j_15) / 2)) + 1)) j_15 y3_1) else (p_slices_symMergeCmpFunc_float32_l3 ν0 l_data a m b μ i_14 (((i_14 + j_15) / 2)) y3_1)) else (p_slices_symMergeCmpFunc_float32_l4 ν0 l_data a m b i_14 j_15 y3_1 (fun (k_17 : Int) (y4_1 : List Nat) => y4_1) (Int.toNat (m - i_14) + 1) m y3_1))
def p_slices_symMergeCmpFunc_float32_l3_s := fun ν0 l_data a m b μ i_14 j_15 y3_1 => @p_slices_symMergeCmpFunc_float32_l3.eq_2 ν0 l_data a m b i_14 j_15 y3_1 μ
def p_slices_symMergeCmpFunc_float32_l5 (ν0 : Nat) (l_data : List Nat) (a : Int) (m : Int) (b : Int) : Nat → Int → Int → (List Nat) → (List Nat)
  | 0, _, _, _ => []
  | μ + 1, start, r, y5_1 => (bif decide ((start : Int) < r) then (bif !(decide (((p_cmp_Compare_float32 (((y5_1).getD (((((((((a + b) / 2)) + m)) - 1)) - (((start + r) / 2))) : Int).toNat 0)) (((y5_1).getD (((start + r) / 2) : Int).toNat 0))) : Int) < 0)) then (p_slices_symMergeCmpFunc_float32_l5 ν0 l_data a m b μ (((((start + r) / 2)) + 1)) r y5_1) else (p_slices_symMergeCmpFunc_float32_l5 ν0 l_data a m b μ start (((start + r) / 2)) y5_1)) else (bif decide ((start : Int) < m) then (bif decide ((m : Int) < ((((((a + b) / 2)) + m)) - start)) then (bif decide ((a : Int) < start) then (bif decide ((start : Int) < ((a + b) / 2)) then (bif decide ((((a + b) / 2) : Int) < ((((((a + b) / 2)) + m)) - start)) then (bif decide ((((((((a + b) / 2)) + m)) - start) : Int) < b) then (rsymM ν0 ((rsymM ν0 ((p_slices_rotateCmpFunc_float32 y5_1 start m (((((((a + b) / 2)) + m)) - start)))) a start (((a + b) / 2)))) (((a + b) / 2)) (((((((a + b) / 2)) + m)) - start)) b) else (rsymM ν0 ((p_slices_rotateCmpFunc_float32 y5_1 start m (((((((a + b) / 2)) + m)) - start)))) a start (((a + b) / 2)))) else (rsymM ν0 ((p_slices_rotateCmpFunc_float32 y5_1 start m (((((((a + b) / 2)) + m)) - start)))) a start (((a + b) / 2)))) else (bif decide ((((a + b) / 2) : Int) < ((((((a + b) / 2)) + m)) - start)) then (bif decide ((((((((a + b) / 2)) + m)) - start) : Int) < b) then (rsymM ν0 ((p_slices_rotateCmpFunc_float32 y5_1 start m (((((((a + b) / 2)) + m)) - start)))) (((a + b) / 2)) (((((((a + b) / 2)) + m)) - start)) b) else (p_slices_rotateCmpFunc_float32 y5_1 start m (((((((a + b) / 2)) + m)) - start)))) else (p_slices_rotateCmpFunc_float32 y5_1 start m (((((((a + b) / 2)) + m)) - start))))) else (bif decide ((((a + b) / 2) : Int) < ((((((a + b) / 2)) + m)) - start)) then (bif decide ((((((((a + b) / 2)) + m)) - start) : Int) < b) then (rsymM ν0 ((p_slices_rotateCmpFunc_float32 y5_1 start m (((((((a + b) / 2)) + m)) - start)))) (((a + b) / 2)) (((((((a + b) / 2)) + m)) - start)) b) else (p_slices_rotateCmpFunc_float32 y5_1 start m (((((((a + b) / 2)) + m)) - start)))) else (p_slices_rotateCmpFunc_float32 y5_1 start m (((((((a + b) / 2)) + m)) - start))))) else (bif decide ((a : Int) < start) then (bif decide ((start : Int) < ((a + b) / 2)) then (bif decide ((((a + b) / 2) : Int) < ((((((a + b) / 2)) + m)) - start)) then (bif decide ((((((((a + b) / 2)) + m)) - start) : Int) < b) then (rsymM ν0 ((rsymM ν0 y5_1 a start (((a + b) / 2)))) (((a + b) / 2)) (((((((a + b) / 2)) + m)) - start)) b) else (rsymM ν0 y5_1 a start (((a + b) / 2)))) else (rsymM ν0 y5_1 a start (((a + b) / 2)))) else (bif decide ((((a + b) / 2) : Int) < ((((((a + b) / 2)) + m)) - start)) then (bif decide ((((((((a + b) / 2)) + m)) - start) : Int) < b) then (rsymM ν0 y5_1 (((a + b) / 2)) (((((((a + b) / 2)) + m)) - start)) b) else y5_1) else y5_1)) else (bif decide ((((a + b) / 2) : Int) < ((((((a + b) / 2)) + m)) - start)) then (bif decide ((((((((a + b) / 2)) + m)) - start) : Int) < b) then (rsymM ν0 y5_1 (((a + b) / 2)) (((((((a + b) / 2)) + m)) - start)) b) else y5_1) else y5_1))) else (bif decide ((a : Int) < start) then (bif decide ((start : Int) < ((a + b) / 2)) then (bif decide ((((a + b) / 2) : Int) < ((((((a + b) / 2)) + m)) - start)) then (bif decide ((((((((a + b) / 2)) + m)) - start) : Int) < b) then (rsymM ν0 ((rsymM ν0 y5_1 a start (((a + b) / 2)))) (((a + b) / 2)) (((((((a + b) / 2)) + m)) - start)) b) else (rsymM ν0 y5_1 a start (((a + b) / 2)))) else (rsymM ν0 y5_1 a start (((a + b) / 2)))) else (bif decide ((((a + b) / 2) : Int) < ((((((a + b) / 2)) + m)) - start)) then (bif decide ((((((((a + b) / 2)) + m)) - start) : Int) < b) then (rsymM ν0 y5_1 (((a + b) / 2)) (((((((a + b) / 2)) + m)) - start)) b) else y5_1) else y5_1)) else (bif decide ((((a + b) / 2) : Int) < ((((((a + b) / 2)) + m)) - start)) then (bif decide ((((((((a + b) / 2)) + m)) - start) : Int) < b) then (rsymM ν0 y5_1 (((a + b) / 2)) (((((((a + b) / 2)) + m)) - start)) b) else y5_1) else y5_1))))
def p_slices_symMergeCmpFunc_float32_l5_s := fun ν0 l_data a m b μ start r y5_1 => @p_slices_symMergeCmpFunc_float32_l5.eq_2 ν0 l_data a m b start r y5_1 μ
def p_slices_symMergeCmpFunc_float32 (ν0 : Nat) (l_data : List Nat) (a : Int) (m : Int) (b : Int) : (List Nat) := ((bif ((m - a) : Int) == 1 then (p_slices_symMergeCmpFunc_float32_l1 ν0 l_data a m b (Int.toNat (b - m) + 1) m b l_data) else (bif ((b - m) : Int) == 1 then (p_slices_symMergeCmpFunc_float32_l3 ν0 l_data a m b (Int.toNat (m - a) + 1) a m l_data) else (bif decide ((((a + b) / 2) : Int) < m) then (p_slices_symMergeCmpFunc_float32_l5 ν0 l_data a m b (Int.toNat (((((a + b) / 2))) - ((((((((a + b) / 2)) + m)) - b)))) + 1) ((((((((a + b) / 2)) + m)) - b))) ((((a + b) / 2))) l_data) else (p_slices_symMergeCmpFunc_float32_l5 ν0 l_data a m b (Int.toNat (m - a) + 1) a m l_data)))))
def p_slices_symMergeCmpFunc_float32_eq := @p_slices_symMergeCmpFunc_float32.eq_1
def T_slices_symMergeCmpFunc_float32_n (ν : Nat) (data_a : Option Addr) (data_n : Nat) (data_e : Nat) (a : Int) (m : Int) (b : Int) (H : AHeap) (K : AHeap → Prop) : Prop := ∃ lo : Nat, ∃ (l_data : List Nat), OwnS fF H lo data_a data_n data_e l_data ∧ l_data.length < 1073741824 ∧ 0 ≤ a ∧ a < m ∧ m < b ∧ b ≤ l_data.length ∧ b - a ≤ ν ∧ ((∀ H' : AHeap, KeepA data_a H H' → OwnS fF H' lo data_a data_n data_e (rsymM ν l_data a m b) → K  H'))
def T_slices_symMergeCmpFunc_float32 (data_a : Option Addr) (data_n : Nat) (data_e : Nat) (a : Int) (m : Int) (b : Int) (H : AHeap) (K : AHeap → Prop) : Prop := T_slices_symMergeCmpFunc_float32_n (b - a).toNat data_a data_n data_e a m b H K
theorem T_slices_symMergeCmpFunc_float32_n_i {ν : Nat} {data_a : Option Addr} {data_n : Nat} {data_e : Nat} {a : Int} {m : Int} {b : Int} {H : AHeap} {K : AHeap → Prop} (h : ∃ lo : Nat, ∃ (l_data : List Nat), OwnS fF H lo data_a data_n data_e l_data ∧ l_data.length < 1073741824 ∧ 0 ≤ a ∧ a < m ∧ m < b ∧ b ≤ l_data.length ∧ b - a ≤ ν ∧ ((∀ H' : AHeap, KeepA data_a H H' → OwnS fF H' lo data_a data_n data_e (rsymM ν l_data a m b) → K  H'))) : T_slices_symMergeCmpFunc_float32_n ν data_a data_n data_e a m b H K := h
theorem T_slices_symMergeCmpFunc_float32_i {data_a : Option Addr} {data_n : Nat} {data_e : Nat} {a : Int} {m : Int} {b : Int} {H : AHeap} {K : AHeap → Prop} (h : ∃ lo : Nat, ∃ (l_data : List Nat), OwnS fF H lo data_a data_n data_e l_data ∧ l_data.length < 1073741824 ∧ 0 ≤ a ∧ a < m ∧ m < b ∧ b ≤ l_data.length ∧ b - a ≤ ((b - a).toNat) ∧ ((∀ H' : AHeap, KeepA data_a H H' → OwnS fF H' lo data_a data_n data_e (rsymM ((b - a).toNat) l_data a m b) → K  H'))) : T_slices_symMergeCmpFunc_float32 data_a data_n data_e a m b H K := h
theorem sym_l2 (ν : Nat) (l : List Nat) (a m b i j : Int) (y1 : List Nat) : ∀ (μ : Nat) (k : Int) (y : List Nat), i - k ≤ μ → 0 ≤ k →
    p_slices_symMergeCmpFunc_float32_l2 ν l a m b i j y1 (fun _ y => y) (μ + 1) k y = So.upTo (i - 1 - k).toNat y k.toNat := by
  intro μ
  induction μ with
  | zero =>
    intro k y h1 h2
    rw [p_slices_symMergeCmpFunc_float32_l2_s, decide_eq_false ω3, cond_false, show (i - 1 - k).toNat = 0 by omega]; rfl
  | succ μ ih =>
    intro k y h1 h2
    rw [p_slices_symMergeCmpFunc_float32_l2_s]
    by_cases h : k < i - 1
    · obtain ⟨n, hn⟩ : ∃ n, (i - 1 - k).toNat = n + 1 := ⟨(i - 1 - k).toNat - 1, by omega⟩
      rw [decide_eq_true h, cond_true, ih _ _ ω3 ω3, hn, show (i - 1 - (k + 1)).toNat = n by omega, show (k + 1).toNat = k.toNat + 1 by omega]; rfl
    · rw [decide_eq_false h, cond_false, show (i - 1 - k).toNat = 0 by omega]; rfl
theorem sym_l1 (ν : Nat) (l : List Nat) (a m b : Int) (y : List Nat) (ha : 0 ≤ a) : ∀ (μ : Nat) (i j : Int), j - i ≤ μ → 0 ≤ i → i ≤ j →
    p_slices_symMergeCmpFunc_float32_l1 ν l a m b (μ + 1) i j y = So.upTo (So.bs (fun h => So.lt_ kappa (So.at_ y h) (So.at_ y a.toNat)) μ i.toNat j.toNat - 1 - a.toNat) y a.toNat := by
  intro μ
  induction μ with
  | zero =>
    intro i j h1 h2 h3
    rw [p_slices_symMergeCmpFunc_float32_l1_s, decide_eq_false ω3, cond_false, sym_l2 _ _ _ _ _ _ _ _ _ _ _ ω3 ha]
    unfold So.bs
    rw [show (i - 1 - a).toNat = i.toNat - 1 - a.toNat by omega]
  | succ μ ih =>
    intro i j h1 h2 h3
    rw [p_slices_symMergeCmpFunc_float32_l1_s]
    unfold So.bs
    by_cases h : i < j
    · rw [decide_eq_true h, cond_true, cmp_neg, if_pos ω3]
      have e : So.lt_ kappa (y.getD ((i + j) / 2).toNat 0) (y.getD a.toNat 0) = So.lt_ kappa (So.at_ y ((i.toNat + j.toNat) / 2)) (So.at_ y a.toNat) := by
        rw [show ((i + j) / 2).toNat = (i.toNat + j.toNat) / 2 by omega]; rfl
      rw [e]
      cases hc : So.lt_ kappa (So.at_ y ((i.toNat + j.toNat) / 2)) (So.at_ y a.toNat)
      · rw [cond_false, ih _ _ ω3 h2 ω3, show ((i + j) / 2).toNat = (i.toNat + j.toNat) / 2 by omega]; simp
      · rw [cond_true, ih _ _ ω3 ω3 ω3, show ((i + j) / 2 + 1).toNat = (i.toNat + j.toNat) / 2 + 1 by omega]; simp
    · rw [decide_eq_false h, cond_false, sym_l2 _ _ _ _ _ _ _ _ _ _ _ ω3 ha, if_neg ω3, show (i - 1 - a).toNat = i.toNat - 1 - a.toNat by omega]
theorem sym_l4 (ν : Nat) (l : List Nat) (a m b i j : Int) (y1 : List Nat) : ∀ (μ : Nat) (k : Int) (y : List Nat), k - i ≤ μ → 0 ≤ i →
    p_slices_symMergeCmpFunc_float32_l4 ν l a m b i j y1 (fun _ y => y) (μ + 1) k y = So.downTo (k - i).toNat y k.toNat := by
  intro μ
  induction μ with
  | zero =>
    intro k y h1 h2
    rw [p_slices_symMergeCmpFunc_float32_l4_s, decide_eq_false ω3, cond_false, show (k - i).toNat = 0 by omega]; rfl
  | succ μ ih =>
    intro k y h1 h2
    rw [p_slices_symMergeCmpFunc_float32_l4_s]
    by_cases h : i < k
    · obtain ⟨n, hn⟩ : ∃ n, (k - i).toNat = n + 1 := ⟨(k - i).toNat - 1, by omega⟩
      rw [decide_eq_true h, cond_true, ih _ _ ω3 ω3, hn, show (k - 1 - i).toNat = n by omega, show (k - 1).toNat = k.toNat - 1 by omega]; rfl
    · rw [decide_eq_false h, cond_false, show (k - i).toNat = 0 by omega]; rfl
theorem sym_l3 (ν : Nat) (l : List Nat) (a m b : Int) (y : List Nat) : ∀ (μ : Nat) (i j : Int), j - i ≤ μ → 0 ≤ i → i ≤ j →
    p_slices_symMergeCmpFunc_float32_l3 ν l a m b (μ + 1) i j y = So.downTo (m.toNat - So.bs (fun h => !(So.lt_ kappa (So.at_ y m.toNat) (So.at_ y h))) μ i.toNat j.toNat) y m.toNat := by
  intro μ
  induction μ with
  | zero =>
    intro i j h1 h2 h3
    rw [p_slices_symMergeCmpFunc_float32_l3_s, decide_eq_false ω3, cond_false, sym_l4 _ _ _ _ _ _ _ _ _ _ _ ω3 h2]
    unfold So.bs
    rw [show (m - i).toNat = m.toNat - i.toNat by omega]
  | succ μ ih =>
    intro i j h1 h2 h3
    rw [p_slices_symMergeCmpFunc_float32_l3_s]
    unfold So.bs
    by_cases h : i < j
    · rw [decide_eq_true h, cond_true, cmp_neg, if_pos ω3]
      have e : So.lt_ kappa (y.getD m.toNat 0) (y.getD ((i + j) / 2).toNat 0) = So.lt_ kappa (So.at_ y m.toNat) (So.at_ y ((i.toNat + j.toNat) / 2)) := by
        rw [show ((i + j) / 2).toNat = (i.toNat + j.toNat) / 2 by omega]; rfl
      rw [e]
      cases hc : So.lt_ kappa (So.at_ y m.toNat) (So.at_ y ((i.toNat + j.toNat) / 2))
      · rw [Bool.not_false, cond_true, ih _ _ ω3 ω3 ω3, show ((i + j) / 2 + 1).toNat = (i.toNat + j.toNat) / 2 + 1 by omega]; simp
      · rw [Bool.not_true, cond_false, ih _ _ ω3 h2 ω3, show ((i + j) / 2).toNat = (i.toNat + j.toNat) / 2 by omega]; simp
    · rw [decide_eq_false h, cond_false, sym_l4 _ _ _ _ _ _ _ _ _ _ _ ω3 h2, if_neg ω3, show (m - i).toNat = m.toNat - i.toNat by omega]
def symT (ν : Nat) (y : List Nat) (a m b s e mid : Nat) : List Nat :=
  let l1 := if s < m ∧ m < e then So.rot (e - s + 1) y m (m - s) (e - m) else y
  let l2 := if a < s ∧ s < mid then So.symM kappa ν l1 a s mid else l1
  if mid < e ∧ e < b then So.symM kappa ν l2 mid e b else l2
theorem sym_l5 (ν : Nat) (l : List Nat) (a m b : Int) (y : List Nat) (ha : 0 ≤ a) (ham : a < m) (hmb : m < b) : ∀ (μ : Nat) (s r : Int), r - s ≤ μ → a ≤ s → s ≤ r → r ≤ m → r ≤ (a + b) / 2 → (a + b) / 2 + m - b ≤ s →
    p_slices_symMergeCmpFunc_float32_l5 ν l a m b (μ + 1) s r y =
      symT ν y a.toNat m.toNat b.toNat (So.bs (fun c => !(So.lt_ kappa (So.at_ y ((a.toNat + b.toNat) / 2 + m.toNat - 1 - c)) (So.at_ y c))) μ s.toNat r.toNat)
        ((a.toNat + b.toNat) / 2 + m.toNat - So.bs (fun c => !(So.lt_ kappa (So.at_ y ((a.toNat + b.toNat) / 2 + m.toNat - 1 - c)) (So.at_ y c))) μ s.toNat r.toNat) ((a.toNat + b.toNat) / 2) := by
  have base : ∀ (μ : Nat) (s r : Int), a ≤ s → s ≤ m → s ≤ (a + b) / 2 → (a + b) / 2 + m - b ≤ s → ¬ s < r → p_slices_symMergeCmpFunc_float32_l5 ν l a m b (μ + 1) s r y =
      symT ν y a.toNat m.toNat b.toNat s.toNat ((a.toNat + b.toNat) / 2 + m.toNat - s.toNat) ((a.toNat + b.toNat) / 2) := by
    intro μ s r h1 h2 h3 h4 h
    rw [p_slices_symMergeCmpFunc_float32_l5_s, decide_eq_false h, cond_false]
    generalize hmid : (a + b) / 2 = mid
    rw [show (a.toNat + b.toNat) / 2 = mid.toNat by omega, show mid.toNat + m.toNat - s.toNat = (mid + m - s).toNat by omega]
    generalize he : mid + m - s = e
    have eR : s < m → m < e → p_slices_rotateCmpFunc_float32 y s m e = So.rot (e.toNat - s.toNat + 1) y m.toNat (m.toNat - s.toNat) (e.toNat - m.toNat) := fun g1 g2 => by
      rw [slices_rotate_eq y s m e ω3 g1 g2, show (e - s).toNat = e.toNat - s.toNat by omega, show (m - s).toNat = m.toNat - s.toNat by omega, show (e - m).toNat = e.toNat - m.toNat by omega]
    have fin5 : ∀ X Y : List Nat, (bif decide ((mid : Int) < e) then (bif decide ((e : Int) < b) then X else Y) else Y) = if mid.toNat < e.toNat ∧ e.toNat < b.toNat then X else Y := fun X Y => by
      by_cases c5 : mid < e
      · by_cases c6 : e < b
        · rw [decide_eq_true c5, decide_eq_true c6, cond_true, cond_true, if_pos ⟨by omega, by omega⟩]
        · rw [decide_eq_true c5, decide_eq_false c6, cond_true, cond_false, if_neg ω3]
      · rw [decide_eq_false c5, cond_false, if_neg ω3]
    have mid5 : ∀ L : List Nat, (bif decide ((a : Int) < s) then (bif decide ((s : Int) < mid) then (bif decide ((mid : Int) < e) then (bif decide ((e : Int) < b) then So.symM kappa ν (So.symM kappa ν L a.toNat s.toNat mid.toNat) mid.toNat e.toNat b.toNat else So.symM kappa ν L a.toNat s.toNat mid.toNat) else So.symM kappa ν L a.toNat s.toNat mid.toNat)
          else (bif decide ((mid : Int) < e) then (bif decide ((e : Int) < b) then So.symM kappa ν L mid.toNat e.toNat b.toNat else L) else L)) else (bif decide ((mid : Int) < e) then (bif decide ((e : Int) < b) then So.symM kappa ν L mid.toNat e.toNat b.toNat else L) else L)) =
        (let l2 := if a.toNat < s.toNat ∧ s.toNat < mid.toNat then So.symM kappa ν L a.toNat s.toNat mid.toNat else L
         if mid.toNat < e.toNat ∧ e.toNat < b.toNat then So.symM kappa ν l2 mid.toNat e.toNat b.toNat else l2) := fun L => by
      simp only [fin5]
      by_cases c3 : a < s
      · by_cases c4 : s < mid
        · rw [decide_eq_true c3, decide_eq_true c4, cond_true, cond_true, if_pos (c := a.toNat < s.toNat ∧ s.toNat < mid.toNat) ⟨by omega, by omega⟩]
        · rw [decide_eq_true c3, decide_eq_false c4, cond_true, cond_false, if_neg (c := a.toNat < s.toNat ∧ s.toNat < mid.toNat) ω3]
      · rw [decide_eq_false c3, cond_false, if_neg (c := a.toNat < s.toNat ∧ s.toNat < mid.toNat) ω3]
    unfold symT
    simp only [rsymM, mid5]
    by_cases c1 : s < m
    · by_cases c2 : m < e
      · rw [decide_eq_true c1, decide_eq_true c2, cond_true, cond_true, if_pos (c := s.toNat < m.toNat ∧ m.toNat < e.toNat) ⟨by omega, by omega⟩, eR c1 c2]
      · rw [decide_eq_true c1, decide_eq_false c2, cond_true, cond_false, if_neg (c := s.toNat < m.toNat ∧ m.toNat < e.toNat) ω3]
    · rw [decide_eq_false c1, cond_false, if_neg (c := s.toNat < m.toNat ∧ m.toNat < e.toNat) ω3]
  intro μ
  induction μ with
  | zero =>
    intro s r h1 h2 h3 h4 h5 h6
    rw [base 0 s r h2 ω3 ω3 h6 ω3]
    rfl
  | succ μ ih =>
    intro s r h1 h2 h3 h4 h5 h6
    by_cases h : s < r
    · rw [p_slices_symMergeCmpFunc_float32_l5_s, decide_eq_true h, cond_true, cmp_neg]
      unfold So.bs
      rw [if_pos (show s.toNat < r.toNat by omega)]
      have e : So.lt_ kappa (y.getD ((a + b) / 2 + m - 1 - (s + r) / 2).toNat 0) (y.getD ((s + r) / 2).toNat 0) = So.lt_ kappa (So.at_ y ((a.toNat + b.toNat) / 2 + m.toNat - 1 - (s.toNat + r.toNat) / 2)) (So.at_ y ((s.toNat + r.toNat) / 2)) := by
        rw [show ((a + b) / 2 + m - 1 - (s + r) / 2).toNat = (a.toNat + b.toNat) / 2 + m.toNat - 1 - (s.toNat + r.toNat) / 2 by omega, show ((s + r) / 2).toNat = (s.toNat + r.toNat) / 2 by omega]; rfl
      rw [e]
      cases hc : So.lt_ kappa (So.at_ y ((a.toNat + b.toNat) / 2 + m.toNat - 1 - (s.toNat + r.toNat) / 2)) (So.at_ y ((s.toNat + r.toNat) / 2))
      · rw [Bool.not_false, cond_true, ih _ _ ω3 ω3 ω3 h4 h5 ω3, show ((s + r) / 2 + 1).toNat = (s.toNat + r.toNat) / 2 + 1 by omega]; simp
      · rw [Bool.not_true, cond_false, ih _ _ ω3 h2 ω3 ω3 ω3 h6, show ((s + r) / 2).toNat = (s.toNat + r.toNat) / 2 by omega]; simp
    · rw [base _ s r h2 ω3 ω3 h6 h]
      unfold So.bs
      rw [if_neg ω3]
theorem rot_more : ∀ (f : Nat) (l : List Nat) (m i j : Nat), i + j ≤ f → 0 < i → 0 < j → So.rot (f + 1) l m i j = So.rot f l m i j := by
  intro f
  induction f with
  | zero => intro l m i j h1 h2; omega
  | succ f ih =>
    intro l m i j h1 h2 h3
    conv => lhs; rw [So.rot]
    conv => rhs; rw [So.rot]
    split
    · rfl
    · split
      · exact ih _ _ _ _ ω3 ω3 h3
      · exact ih _ _ _ _ ω3 h2 ω3
theorem rsymM_eq (ν : Nat) (l : List Nat) (a m b : Int) (ha : 0 ≤ a) (ham : a < m) (hmb : m < b) : rsymM (ν + 1) l a m b = p_slices_symMergeCmpFunc_float32 ν l a m b := by
  rw [p_slices_symMergeCmpFunc_float32_eq]
  unfold rsymM So.symM
  by_cases c1 : m - a = 1
  · rw [show ((m - a : Int) == 1) = true by simpa using c1, cond_true, if_pos ω3, sym_l1 _ _ _ _ _ _ ha _ _ _ ω3 ω3 ω3]
    rw [show (b - m).toNat = b.toNat - m.toNat by omega]
  · rw [show ((m - a : Int) == 1) = false by simpa using c1, cond_false, if_neg ω3]
    by_cases c2 : b - m = 1
    · rw [show ((b - m : Int) == 1) = true by simpa using c2, cond_true, if_pos ω3, sym_l3 _ _ _ _ _ _ _ _ _ ω3 ω3 ω3]
      rw [show (m - a).toNat = m.toNat - a.toNat by omega]
    · rw [show ((b - m : Int) == 1) = false by simpa using c2, cond_false, if_neg ω3]
      have tl : ∀ (y : List Nat) (s e mid : Nat), symT ν y a.toNat m.toNat b.toNat s e mid =
          (let l1 := if s < m.toNat ∧ m.toNat < e then So.rot (e - s) y m.toNat (m.toNat - s) (e - m.toNat) else y
           let l2 := if a.toNat < s ∧ s < mid then So.symM kappa ν l1 a.toNat s mid else l1
           if mid < e ∧ e < b.toNat then So.symM kappa ν l2 mid e b.toNat else l2) := by
        intro y s e mid
        unfold symT
        have : (if s < m.toNat ∧ m.toNat < e then So.rot (e - s + 1) y m.toNat (m.toNat - s) (e - m.toNat) else y) = (if s < m.toNat ∧ m.toNat < e then So.rot (e - s) y m.toNat (m.toNat - s) (e - m.toNat) else y) := by
          split
          · exact rot_more _ _ _ _ _ ω3 ω3 ω3
          · rfl
        simp only [this]
      by_cases c3 : (a + b) / 2 < m
      · rw [decide_eq_true c3, cond_true, sym_l5 ν l a m b l ha ham hmb _ _ _ ω3 ω3 ω3 ω3 ω3 ω3, tl]
        simp only [if_pos (show (a.toNat + b.toNat) / 2 < m.toNat by omega)]
        rw [show ((a + b) / 2 - ((a + b) / 2 + m - b)).toNat = (a.toNat + b.toNat) / 2 - ((a.toNat + b.toNat) / 2 + m.toNat - b.toNat) by omega,
          show ((a + b) / 2 + m - b).toNat = (a.toNat + b.toNat) / 2 + m.toNat - b.toNat by omega, show ((a + b) / 2).toNat = (a.toNat + b.toNat) / 2 by omega]
      · rw [decide_eq_false c3, cond_false, sym_l5 ν l a m b l ha ham hmb _ _ _ ω3 ω3 ω3 ω3 ω3 ω3, tl]
        simp only [if_neg (show ¬ (a.toNat + b.toNat) / 2 < m.toNat by omega)]
        rw [show (m - a).toNat = m.toNat - a.toNat by omega]
/-! slices_symMergeCmpFunc_float32: function 227 -/
def F_slices_symMergeCmpFunc_float32_n (ν : Nat) : List Value → AHeap → (Value → AHeap → Prop) → Prop
  | [.slice data_a data_n data_e, .int .i64 a, .int .i64 m, .int .i64 b, .func (.func 174) ⟨[]⟩ ⟨[]⟩], H, K => T_slices_symMergeCmpFunc_float32_n ν data_a data_n data_e a m b H fun  (H' : AHeap) => K (.tuple #[]) H'
  | _, _, _ => False
def S_slices_symMergeCmpFunc_float32_n (ν : Nat) : FSpec := { F := F_slices_symMergeCmpFunc_float32_n ν, quiet := false, tame := false }
def F_slices_symMergeCmpFunc_float32 : List Value → AHeap → (Value → AHeap → Prop) → Prop
  | [.slice data_a data_n data_e, .int .i64 a, .int .i64 m, .int .i64 b, .func (.func 174) ⟨[]⟩ ⟨[]⟩], H, K => T_slices_symMergeCmpFunc_float32 data_a data_n data_e a m b H fun  (H' : AHeap) => K (.tuple #[]) H'
  | _, _, _ => False
def S_slices_symMergeCmpFunc_float32 : FSpec := { F := F_slices_symMergeCmpFunc_float32, quiet := false, tame := false }
def E_slices_symMergeCmpFunc_float32 (ν : Nat) : Env := envOf [(999999, quietMark), (174, S_cmp_Compare_float32), (241, S_slices_rotateCmpFunc_float32), (227, S_slices_symMergeCmpFunc_float32_n ν)]
theorem slices_symMergeCmpFunc_float32_vc {ν0 : Nat} (data_a : Option Addr) (data_n : Nat) (data_e : Nat) (a : Int) (m : Int) (b : Int) (H : AHeap) (K : Value → AHeap → Prop) : bodyL Try.prog (E_slices_symMergeCmpFunc_float32 ν0) Try.f227 [.slice data_a data_n data_e, .int .i64 a, .int .i64 m, .int .i64 b, .func (.func 174) #[] #[]] H K =
  (Br ((IntKind.wrap .i64 (m - a) : Int) == 1) (loopK (exL Try.prog (E_slices_symMergeCmpFunc_float32 ν0) (cl (cl (cl (cr (cr (cl (cr (cl (bodyC Try.f227))))))))) 3091 0 [(0, 1027)]) [.slice data_a data_n data_e, .int .i64 a, ud, ud, .func (.func 174) #[] #[], ud, ud, ud, ud, ud, .int .i64 m, .int .i64 b, ud, ud, ud, ud, ud, ud, ud, ud, ud, ud, ud, ud, ud, ud, ud, ud, ud, ud, ud, ud, ud, ud, ud, ud, ud, ud, ud, ud, ud, ud, ud, ud, ud, ud, ud, ud, ud, ud, ud, ud, ud, ud, ud, ud, ud, ud, ud, ud, ud, ud, ud, ud, ud, ud, ud, ud, ud, ud, ud, ud, ud, ud, ud, ud, ud, ud, ud, ud, ud, ud, ud, ud, ud, ud, ud, ud, ud, ud, ud, ud, ud, ud, ud, ud, ud, ud, ud, ud, ud, ud, ud, ud, ud, ud, ud, ud, ud, ud, ud, ud, ud, ud, ud, ud, ud, ud, ud, ud, ud, ud, ud, ud, ud, ud, ud, ud, ud, ud, ud, ud, ud, ud, ud, ud, ud, ud, ud, ud, ud, ud, ud, ud, ud, ud, ud, ud, ud, ud, ud, ud, ud, ud, ud, ud, ud, ud, ud, ud, ud, ud, ud, ud, ud, ud, ud, ud, ud, ud, ud, ud, ud, ud, ud, ud, ud, ud, ud, ud, ud, ud, ud, ud, ud, ud, ud, ud, ud, ud, ud, ud, ud, ud, ud, ud, ud, ud, ud, ud, ud, ud, ud, ud, ud, ud, ud, ud, ud, ud, ud, ud, ud, ud, ud, ud, ud, ud, ud, ud] H (blockQ 0 (seqQ (exL Try.prog (E_slices_symMergeCmpFunc_float32 ν0) (cr (cr (cr (cl (cr (cl (bodyC Try.f227))))))) 31 0 []) (seqQ (exL Try.prog (E_slices_symMergeCmpFunc_float32 ν0) (cr (bodyC Try.f227)) 0 0 []) (retK Try.prog Try.f227 K))))) (Br ((IntKind.wrap .i64 (b - m) : Int) == 1) (loopK (exL Try.prog (E_slices_symMergeCmpFunc_float32 ν0) (cl (cl (cl (cr (cr (cl (cr (cl (cr (bodyC Try.f227)))))))))) 49173 0 [(4, 16389)]) [.slice data_a data_n data_e, ud, .int .i64 m, ud, .func (.func 174) #[] #[], ud, ud, ud, ud, ud, ud, ud, ud, ud, .int .i64 a, .int .i64 m, ud, ud, ud, ud, ud, ud, ud, ud, ud, ud, ud, ud, ud, ud, ud, ud, ud, ud, ud, ud, ud, ud, ud, ud, ud, ud, ud, ud, ud, ud, ud, ud, ud, ud, ud, ud, ud, ud, ud, ud, ud, ud, ud, ud, ud, ud, ud, ud, ud, ud, ud, ud, ud, ud, ud, ud, ud, ud, ud, ud, ud, ud, ud, ud, ud, ud, ud, ud, ud, ud, ud, ud, ud, ud, ud, ud, ud, ud, ud, ud, ud, ud, ud, ud, ud, ud, ud, ud, ud, ud, ud, ud, ud, ud, ud, ud, ud, ud, ud, ud, ud, ud, ud, ud, ud, ud, ud, ud, ud, ud, ud, ud, ud, ud, ud, ud, ud, ud, ud, ud, ud, ud, ud, ud, ud, ud, ud, ud, ud, ud, ud, ud, ud, ud, ud, ud, ud, ud, ud, ud, ud, ud, ud, ud, ud, ud, ud, ud, ud, ud, ud, ud, ud, ud, ud, ud, ud, ud, ud, ud, ud, ud, ud, ud, ud, ud, ud, ud, ud, ud, ud, ud, ud, ud, ud, ud, ud, ud, ud, ud, ud, ud, ud, ud, ud, ud, ud, ud, ud, ud, ud, ud, ud, ud, ud, ud, ud, ud, ud, ud, ud, ud, ud, ud] H (blockQ 4 (seqQ (exL Try.prog (E_slices_symMergeCmpFunc_float32 ν0) (cr (cr (cr (cl (cr (cl (cr (bodyC Try.f227)))))))) 31 0 []) (seqQ (exL Try.prog (E_slices_symMergeCmpFunc_float32 ν0) (cr (cr (bodyC Try.f227))) 0 0 []) (retK Try.prog Try.f227 K))))) ((0 : Int) ≤ 1 ∧ Br (decide ((IntKind.wrap .i64 (Int.fdiv (IntKind.wrap .u64 (IntKind.wrap .i64 (a + b))) (2 ^ (min (1 : Int).toNat (IntKind.bits .u64)))) : Int) < m)) (loopK (exL Try.prog (E_slices_symMergeCmpFunc_float32 ν0) (cl (cl (cl (cr (cr (cr (cr (cr (cr (cr (bodyC Try.f227))))))))))) 8126495 0 [(8, 1835039)]) [.slice data_a data_n data_e, .int .i64 a, .int .i64 m, .int .i64 b, .func (.func 174) #[] #[], ud, ud, ud, ud, ud, ud, ud, ud, ud, ud, ud, ud, ud, .int .i64 (IntKind.wrap .i64 (Int.fdiv (IntKind.wrap .u64 (IntKind.wrap .i64 (a + b))) (2 ^ (min (1 : Int).toNat (IntKind.bits .u64))))), .int .i64 (IntKind.wrap .i64 ((IntKind.wrap .i64 (Int.fdiv (IntKind.wrap .u64 (IntKind.wrap .i64 (a + b))) (2 ^ (min (1 : Int).toNat (IntKind.bits .u64))))) + m)), .int .i64 (IntKind.wrap .i64 ((IntKind.wrap .i64 ((IntKind.wrap .i64 (Int.fdiv (IntKind.wrap .u64 (IntKind.wrap .i64 (a + b))) (2 ^ (min (1 : Int).toNat (IntKind.bits .u64))))) + m)) - b)), .int .i64 (IntKind.wrap .i64 (Int.fdiv (IntKind.wrap .u64 (IntKind.wrap .i64 (a + b))) (2 ^ (min (1 : Int).toNat (IntKind.bits .u64))))), .int .i64 (IntKind.wrap .i64 ((IntKind.wrap .i64 ((IntKind.wrap .i64 (Int.fdiv (IntKind.wrap .u64 (IntKind.wrap .i64 (a + b))) (2 ^ (min (1 : Int).toNat (IntKind.bits .u64))))) + m)) - 1)), ud, ud, ud, ud, ud, ud, ud, ud, ud, ud, ud, ud, ud, ud, ud, ud, ud, ud, ud, ud, ud, ud, ud, ud, ud, ud, ud, ud, ud, ud, ud, ud, ud, ud, ud, ud, ud, ud, ud, ud, ud, ud, ud, ud, ud, ud, ud, ud, ud, ud, ud, ud, ud, ud, ud, ud, ud, ud, ud, ud, ud, ud, ud, ud, ud, ud, ud, ud, ud, ud, ud, ud, ud, ud, ud, ud, ud, ud, ud, ud, ud, ud, ud, ud, ud, ud, ud, ud, ud, ud, ud, ud, ud, ud, ud, ud, ud, ud, ud, ud, ud, ud, ud, ud, ud, ud, ud, ud, ud, ud, ud, ud, ud, ud, ud, ud, ud, ud, ud, ud, ud, ud, ud, ud, ud, ud, ud, ud, ud, ud, ud, ud, ud, ud, ud, ud, ud, ud, ud, ud, ud, ud, ud, ud, ud, ud, ud, ud, ud, ud, ud, ud, ud, ud, ud, ud, ud, ud, ud, ud, ud, ud, ud, ud, ud, ud, ud, ud, ud, ud, ud, ud, ud, ud, ud, ud, ud, ud, ud, ud, ud, ud, ud, ud, ud, ud, ud, ud, ud, ud, ud, ud, ud, ud, ud, ud, ud] H (blockQ 8 (seqQ (exL Try.prog (E_slices_symMergeCmpFunc_float32 ν0) (cr (cr (cr (cr (cr (cr (cr (cr (bodyC Try.f227))))))))) 0 0 []) (retK Try.prog Try.f227 K)))) (loopK (exL Try.prog (E_slices_symMergeCmpFunc_float32 ν0) (cl (cl (cl (cr (cr (cr (cr (cr (cr (cr (bodyC Try.f227))))))))))) 8126495 0 [(8, 1835039)]) [.slice data_a data_n data_e, .int .i64 a, .int .i64 m, .int .i64 b, .func (.func 174) #[] #[], ud, ud, ud, ud, ud, ud, ud, ud, ud, ud, ud, ud, ud, .int .i64 (IntKind.wrap .i64 (Int.fdiv (IntKind.wrap .u64 (IntKind.wrap .i64 (a + b))) (2 ^ (min (1 : Int).toNat (IntKind.bits .u64))))), .int .i64 (IntKind.wrap .i64 ((IntKind.wrap .i64 (Int.fdiv (IntKind.wrap .u64 (IntKind.wrap .i64 (a + b))) (2 ^ (min (1 : Int).toNat (IntKind.bits .u64))))) + m)), .int .i64 a, .int .i64 m, .int .i64 (IntKind.wrap .i64 ((IntKind.wrap .i64 ((IntKind.wrap .i64 (Int.fdiv (IntKind.wrap .u64 (IntKind.wrap .i64 (a + b))) (2 ^ (min (1 : Int).toNat (IntKind.bits .u64))))) + m)) - 1)), ud, ud, ud, ud, ud, ud, ud, ud, ud, ud, ud, ud, ud, ud, ud, ud, ud, ud, ud, ud, ud, ud, ud, ud, ud, ud, ud, ud, ud, ud, ud, ud, ud, ud, ud, ud, ud, ud, ud, ud, ud, ud, ud, ud, ud, ud, ud, ud, ud, ud, ud, ud, ud, ud, ud, ud, ud, ud, ud, ud, ud, ud, ud, ud, ud, ud, ud, ud, ud, ud, ud, ud, ud, ud, ud, ud, ud, ud, ud, ud, ud, ud, ud, ud, ud, ud, ud, ud, ud, ud, ud, ud, ud, ud, ud, ud, ud, ud, ud, ud, ud, ud, ud, ud, ud, ud, ud, ud, ud, ud, ud, ud, ud, ud, ud, ud, ud, ud, ud, ud, ud, ud, ud, ud, ud, ud, ud, ud, ud, ud, ud, ud, ud, ud, ud, ud, ud, ud, ud, ud, ud, ud, ud, ud, ud, ud, ud, ud, ud, ud, ud, ud, ud, ud, ud, ud, ud, ud, ud, ud, ud, ud, ud, ud, ud, ud, ud, ud, ud, ud, ud, ud, ud, ud, ud, ud, ud, ud, ud, ud, ud, ud, ud, ud, ud, ud, ud, ud, ud, ud, ud, ud, ud, ud, ud, ud, ud] H (blockQ 8 (seqQ (exL Try.prog (E_slices_symMergeCmpFunc_float32 ν0) (cr (cr (cr (cr (cr (cr (cr (cr (bodyC Try.f227))))))))) 0 0 []) (retK Try.prog Try.f227 K))))))) := by kernel_rfl
abbrev slices_symMergeCmpFunc_float32_P1 (a : Int) (data_a : Option Addr) (data_e : Nat) (data_n : Nat) (i : Int) (j : Int)  : List Value := [.slice data_a data_n data_e, .int .i64 a, ud, ud, .func (.func 174) #[] #[], ud, ud, ud, ud, ud, .int .i64 i, .int .i64 j, ud, ud, ud, ud, ud, ud, ud, ud, ud, ud, ud, ud, ud, ud, ud, ud, ud, ud, ud, ud, ud, ud, ud, ud, ud, ud, ud, ud, ud, ud, ud, ud, ud, ud, ud, ud, ud, ud, ud, ud, ud, ud, ud, ud, ud, ud, ud, ud, ud, ud, ud, ud, ud, ud, ud, ud, ud, ud, ud, ud, ud, ud, ud, ud, ud, ud, ud, ud, ud, ud, ud, ud, ud, ud, ud, ud, ud, ud, ud, ud, ud, ud, ud, ud, ud, ud, ud, ud, ud, ud, ud, ud, ud, ud, ud, ud, ud, ud, ud, ud, ud, ud, ud, ud, ud, ud, ud, ud, ud, ud, ud, ud, ud, ud, ud, ud, ud, ud, ud, ud, ud, ud, ud, ud, ud, ud, ud, ud, ud, ud, ud, ud, ud, ud, ud, ud, ud, ud, ud, ud, ud, ud, ud, ud, ud, ud, ud, ud, ud, ud, ud, ud, ud, ud, ud, ud, ud, ud, ud, ud, ud, ud, ud, ud, ud, ud, ud, ud, ud, ud, ud, ud, ud, ud, ud, ud, ud, ud, ud, ud, ud, ud, ud, ud, ud, ud, ud, ud, ud, ud, ud, ud, ud, ud, ud, ud, ud, ud, ud, ud, ud, ud, ud, ud, ud, ud, ud, ud]
theorem slices_symMergeCmpFunc_float32_r1 {ν0 : Nat} (a : Int) (data_a : Option Addr) (data_e : Nat) (data_n : Nat) (i : Int) (j : Int)  (H : AHeap) (R : Post) : exL Try.prog (E_slices_symMergeCmpFunc_float32 ν0) (cl (cl (cl (cr (cr (cl (cr (cl (bodyC Try.f227))))))))) 3091 0 [(0, 1027)] (slices_symMergeCmpFunc_float32_P1 a data_a data_e data_n i j) H R =
  (Br (decide ((i : Int) < j)) ((0 : Int) ≤ 1 ∧ (0 : Int) ≤ IntKind.wrap .i64 (Int.fdiv (IntKind.wrap .u64 (IntKind.wrap .i64 (i + j))) (2 ^ (min (1 : Int).toNat (IntKind.bits .u64)))) ∧ IntKind.wrap .i64 (Int.fdiv (IntKind.wrap .u64 (IntKind.wrap .i64 (i + j))) (2 ^ (min (1 : Int).toNat (IntKind.bits .u64)))) < (data_n : Int) ∧ ∃ b1 f1, (data_a : Option Addr) = some ⟨b1, f1, none⟩ ∧ ∃ x1 : Nat,  rdC H b1 (f1 + (IntKind.wrap .i64 (Int.fdiv (IntKind.wrap .u64 (IntKind.wrap .i64 (i + j))) (2 ^ (min (1 : Int).toNat (IntKind.bits .u64)))) : Int).toNat * 1) = some (.float .f32 x1) ∧ (0 : Int) ≤ a ∧ a < (data_n : Int) ∧ ∃ b2 f2, (data_a : Option Addr) = some ⟨b2, f2, none⟩ ∧ ∃ x2 : Nat,  rdC H b2 (f2 + (a : Int).toNat * 1) = some (.float .f32 x2) ∧ T_cmp_Compare_float32 x1 x2 H fun (r1 : Int) (H1 : AHeap) => Br (decide ((r1 : Int) < 0)) (R .normal [.slice data_a data_n data_e, .int .i64 a, ud, ud, .func (.func 174) #[] #[], ud, ud, ud, ud, ud, .int .i64 (IntKind.wrap .i64 ((IntKind.wrap .i64 (Int.fdiv (IntKind.wrap .u64 (IntKind.wrap .i64 (i + j))) (2 ^ (min (1 : Int).toNat (IntKind.bits .u64))))) + 1)), .int .i64 j, ud, ud, ud, ud, ud, ud, ud, ud, ud, ud, ud, ud, ud, ud, ud, ud, ud, ud, ud, ud, ud, ud, ud, ud, ud, ud, ud, ud, ud, ud, ud, ud, ud, ud, ud, ud, ud, ud, ud, ud, ud, ud, ud, ud, ud, ud, ud, ud, ud, ud, ud, ud, ud, ud, ud, ud, ud, ud, ud, ud, ud, ud, ud, ud, ud, ud, ud, ud, ud, ud, ud, ud, ud, ud, ud, ud, ud, ud, ud, ud, ud, ud, ud, ud, ud, ud, ud, ud, ud, ud, ud, ud, ud, ud, ud, ud, ud, ud, ud, ud, ud, ud, ud, ud, ud, ud, ud, ud, ud, ud, ud, ud, ud, ud, ud, ud, ud, ud, ud, ud, ud, ud, ud, ud, ud, ud, ud, ud, ud, ud, ud, ud, ud, ud, ud, ud, ud, ud, ud, ud, ud, ud, ud, ud, ud, ud, ud, ud, ud, ud, ud, ud, ud, ud, ud, ud, ud, ud, ud, ud, ud, ud, ud, ud, ud, ud, ud, ud, ud, ud, ud, ud, ud, ud, ud, ud, ud, ud, ud, ud, ud, ud, ud, ud, ud, ud, ud, ud, ud, ud, ud, ud, ud, ud, ud, ud, ud, ud, ud, ud, ud, ud, ud, ud, ud, ud, ud, ud] H1) (R .normal [.slice data_a data_n data_e, .int .i64 a, ud, ud, .func (.func 174) #[] #[], ud, ud, ud, ud, ud, .int .i64 i, .int .i64 (IntKind.wrap .i64 (Int.fdiv (IntKind.wrap .u64 (IntKind.wrap .i64 (i + j))) (2 ^ (min (1 : Int).toNat (IntKind.bits .u64))))), ud, ud, ud, ud, ud, ud, ud, ud, ud, ud, ud, ud, ud, ud, ud, ud, ud, ud, ud, ud, ud, ud, ud, ud, ud, ud, ud, ud, ud, ud, ud, ud, ud, ud, ud, ud, ud, ud, ud, ud, ud, ud, ud, ud, ud, ud, ud, ud, ud, ud, ud, ud, ud, ud, ud, ud, ud, ud, ud, ud, ud, ud, ud, ud, ud, ud, ud, ud, ud, ud, ud, ud, ud, ud, ud, ud, ud, ud, ud, ud, ud, ud, ud, ud, ud, ud, ud, ud, ud, ud, ud, ud, ud, ud, ud, ud, ud, ud, ud, ud, ud, ud, ud, ud, ud, ud, ud, ud, ud, ud, ud, ud, ud, ud, ud, ud, ud, ud, ud, ud, ud, ud, ud, ud, ud, ud, ud, ud, ud, ud, ud, ud, ud, ud, ud, ud, ud, ud, ud, ud, ud, ud, ud, ud, ud, ud, ud, ud, ud, ud, ud, ud, ud, ud, ud, ud, ud, ud, ud, ud, ud, ud, ud, ud, ud, ud, ud, ud, ud, ud, ud, ud, ud, ud, ud, ud, ud, ud, ud, ud, ud, ud, ud, ud, ud, ud, ud, ud, ud, ud, ud, ud, ud, ud, ud, ud, ud, ud, ud, ud, ud, ud, ud, ud, ud, ud, ud, ud] H1)) (R (.exit 0) [.slice data_a data_n data_e, .int .i64 a, ud, ud, ud, ud, ud, ud, ud, ud, .int .i64 i, ud, ud, ud, ud, ud, ud, ud, ud, ud, ud, ud, ud, ud, ud, ud, ud, ud, ud, ud, ud, ud, ud, ud, ud, ud, ud, ud, ud, ud, ud, ud, ud, ud, ud, ud, ud, ud, ud, ud, ud, ud, ud, ud, ud, ud, ud, ud, ud, ud, ud, ud, ud, ud, ud, ud, ud, ud, ud, ud, ud, ud, ud, ud, ud, ud, ud, ud, ud, ud, ud, ud, ud, ud, ud, ud, ud, ud, ud, ud, ud, ud, ud, ud, ud, ud, ud, ud, ud, ud, ud, ud, ud, ud, ud, ud, ud, ud, ud, ud, ud, ud, ud, ud, ud, ud, ud, ud, ud, ud, ud, ud, ud, ud, ud, ud, ud, ud, ud, ud, ud, ud, ud, ud, ud, ud, ud, ud, ud, ud, ud, ud, ud, ud, ud, ud, ud, ud, ud, ud, ud, ud, ud, ud, ud, ud, ud, ud, ud, ud, ud, ud, ud, ud, ud, ud, ud, ud, ud, ud, ud, ud, ud, ud, ud, ud, ud, ud, ud, ud, ud, ud, ud, ud, ud, ud, ud, ud, ud, ud, ud, ud, ud, ud, ud, ud, ud, ud, ud, ud, ud, ud, ud, ud, ud, ud, ud, ud, ud, ud, ud, ud, ud, ud, ud, ud, ud, ud, ud, ud] H)) := by kernel_rfl
def slices_symMergeCmpFunc_float32_I1 (a : Int) (data_a : Option Addr) (data_e : Nat) (data_n : Nat) (Inv : Nat → Int → Int → AHeap → Prop) : Nat → List Value → AHeap → Prop := fun μ tm H => ∃ (i : Int), ∃ (j : Int), tm = (slices_symMergeCmpFunc_float32_P1 a data_a data_e data_n i j) ∧ Inv μ i j H
theorem slices_symMergeCmpFunc_float32_L1 {ν0 : Nat} (a : Int) (data_a : Option Addr) (data_e : Nat) (data_n : Nat) {Q : Post} (Inv : Nat → Int → Int → AHeap → Prop) (ν : Nat) (i : Int) (j : Int)  (H : AHeap) (h0 : Inv ν i j H)
    (hs : ∀ (μ : Nat) (i : Int) (j : Int)  (H : AHeap), Inv μ i j H → exL Try.prog (E_slices_symMergeCmpFunc_float32 ν0) (cl (cl (cl (cr (cr (cl (cr (cl (bodyC Try.f227))))))))) 3091 0 [(0, 1027)] (slices_symMergeCmpFunc_float32_P1 a data_a data_e data_n i j) H (loopQ (slices_symMergeCmpFunc_float32_I1 a data_a data_e data_n Inv) μ Q)) : loopK (exL Try.prog (E_slices_symMergeCmpFunc_float32 ν0) (cl (cl (cl (cr (cr (cl (cr (cl (bodyC Try.f227))))))))) 3091 0 [(0, 1027)]) (slices_symMergeCmpFunc_float32_P1 a data_a data_e data_n i j) H Q :=
  ⟨slices_symMergeCmpFunc_float32_I1 a data_a data_e data_n Inv, ν, ⟨i, j, rfl, h0⟩, fun μ tm H h => by obtain ⟨i, j, rfl, hI⟩ := h; exact hs μ i j  H hI⟩
theorem slices_symMergeCmpFunc_float32_n1 {a : Int} {data_a : Option Addr} {data_e : Nat} {data_n : Nat} {Q : Post} {Inv : Nat → Int → Int → AHeap → Prop} {μ : Nat} (μ' : Nat) {i : Int} {j : Int}  {H : AHeap} (hm : μ' < μ) (hI : Inv μ' i j H) : loopQ (slices_symMergeCmpFunc_float32_I1 a data_a data_e data_n Inv) μ Q .normal (slices_symMergeCmpFunc_float32_P1 a data_a data_e data_n i j) H := ⟨μ', hm, i, j, rfl, hI⟩
theorem slices_symMergeCmpFunc_float32_x1_0 {ν0 : Nat} (a : Int) (data_a : Option Addr) (data_e : Nat) (data_n : Nat) (i : Int) (H : AHeap) (K : Value → AHeap → Prop)  {I : Nat → List Value → AHeap → Prop} {μ : Nat} : loopQ I μ (blockQ 0 (seqQ (exL Try.prog (E_slices_symMergeCmpFunc_float32 ν0) (cr (cr (cr (cl (cr (cl (bodyC Try.f227))))))) 31 0 []) (seqQ (exL Try.prog (E_slices_symMergeCmpFunc_float32 ν0) (cr (bodyC Try.f227)) 0 0 []) (retK Try.prog Try.f227 K)))) (.exit 0) [.slice data_a data_n data_e, .int .i64 a, ud, ud, ud, ud, ud, ud, ud, ud, .int .i64 i, ud, ud, ud, ud, ud, ud, ud, ud, ud, ud, ud, ud, ud, ud, ud, ud, ud, ud, ud, ud, ud, ud, ud, ud, ud, ud, ud, ud, ud, ud, ud, ud, ud, ud, ud, ud, ud, ud, ud, ud, ud, ud, ud, ud, ud, ud, ud, ud, ud, ud, ud, ud, ud, ud, ud, ud, ud, ud, ud, ud, ud, ud, ud, ud, ud, ud, ud, ud, ud, ud, ud, ud, ud, ud, ud, ud, ud, ud, ud, ud, ud, ud, ud, ud, ud, ud, ud, ud, ud, ud, ud, ud, ud, ud, ud, ud, ud, ud, ud, ud, ud, ud, ud, ud, ud, ud, ud, ud, ud, ud, ud, ud, ud, ud, ud, ud, ud, ud, ud, ud, ud, ud, ud, ud, ud, ud, ud, ud, ud, ud, ud, ud, ud, ud, ud, ud, ud, ud, ud, ud, ud, ud, ud, ud, ud, ud, ud, ud, ud, ud, ud, ud, ud, ud, ud, ud, ud, ud, ud, ud, ud, ud, ud, ud, ud, ud, ud, ud, ud, ud, ud, ud, ud, ud, ud, ud, ud, ud, ud, ud, ud, ud, ud, ud, ud, ud, ud, ud, ud, ud, ud, ud, ud, ud, ud, ud, ud, ud, ud, ud, ud, ud, ud, ud, ud, ud, ud, ud, ud] H =
  (loopK (exL Try.prog (E_slices_symMergeCmpFunc_float32 ν0) (cl (cl (cr (cl (cr (cr (cr (cl (cr (cl (bodyC Try.f227))))))))))) 9217 0 [(2, 0)]) [.slice data_a data_n data_e, ud, ud, ud, ud, ud, ud, ud, ud, ud, .int .i64 i, ud, ud, .int .i64 a, ud, ud, ud, ud, ud, ud, ud, ud, ud, ud, ud, ud, ud, ud, ud, ud, ud, ud, ud, ud, ud, ud, ud, ud, ud, ud, ud, ud, ud, ud, ud, ud, ud, ud, ud, ud, ud, ud, ud, ud, ud, ud, ud, ud, ud, ud, ud, ud, ud, ud, ud, ud, ud, ud, ud, ud, ud, ud, ud, ud, ud, ud, ud, ud, ud, ud, ud, ud, ud, ud, ud, ud, ud, ud, ud, ud, ud, ud, ud, ud, ud, ud, ud, ud, ud, ud, ud, ud, ud, ud, ud, ud, ud, ud, ud, ud, ud, ud, ud, ud, ud, ud, ud, ud, ud, ud, ud, ud, ud, ud, ud, ud, ud, ud, ud, ud, ud, ud, ud, ud, ud, ud, ud, ud, ud, ud, ud, ud, ud, ud, ud, ud, ud, ud, ud, ud, ud, ud, ud, ud, ud, ud, ud, ud, ud, ud, ud, ud, ud, ud, ud, ud, ud, ud, ud, ud, ud, ud, ud, ud, ud, ud, ud, ud, ud, ud, ud, ud, ud, ud, ud, ud, ud, ud, ud, ud, ud, ud, ud, ud, ud, ud, ud, ud, ud, ud, ud, ud, ud, ud, ud, ud, ud, ud, ud, ud, ud, ud, ud, ud, ud, ud, ud, ud, ud, ud] H (blockQ 2 (seqQ (exL Try.prog (E_slices_symMergeCmpFunc_float32 ν0) (cr (cr (cr (cr (cl (cr (cl (bodyC Try.f227)))))))) 31 0 []) (seqQ (exL Try.prog (E_slices_symMergeCmpFunc_float32 ν0) (cr (bodyC Try.f227)) 0 0 []) (retK Try.prog Try.f227 K))))) := by kernel_rfl
abbrev slices_symMergeCmpFunc_float32_P2 (data_a : Option Addr) (data_e : Nat) (data_n : Nat) (i : Int) (k : Int)  : List Value := [.slice data_a data_n data_e, ud, ud, ud, ud, ud, ud, ud, ud, ud, .int .i64 i, ud, ud, .int .i64 k, ud, ud, ud, ud, ud, ud, ud, ud, ud, ud, ud, ud, ud, ud, ud, ud, ud, ud, ud, ud, ud, ud, ud, ud, ud, ud, ud, ud, ud, ud, ud, ud, ud, ud, ud, ud, ud, ud, ud, ud, ud, ud, ud, ud, ud, ud, ud, ud, ud, ud, ud, ud, ud, ud, ud, ud, ud, ud, ud, ud, ud, ud, ud, ud, ud, ud, ud, ud, ud, ud, ud, ud, ud, ud, ud, ud, ud, ud, ud, ud, ud, ud, ud, ud, ud, ud, ud, ud, ud, ud, ud, ud, ud, ud, ud, ud, ud, ud, ud, ud, ud, ud, ud, ud, ud, ud, ud, ud, ud, ud, ud, ud, ud, ud, ud, ud, ud, ud, ud, ud, ud, ud, ud, ud, ud, ud, ud, ud, ud, ud, ud, ud, ud, ud, ud, ud, ud, ud, ud, ud, ud, ud, ud, ud, ud, ud, ud, ud, ud, ud, ud, ud, ud, ud, ud, ud, ud, ud, ud, ud, ud, ud, ud, ud, ud, ud, ud, ud, ud, ud, ud, ud, ud, ud, ud, ud, ud, ud, ud, ud, ud, ud, ud, ud, ud, ud, ud, ud, ud, ud, ud, ud, ud, ud, ud, ud, ud, ud, ud, ud, ud, ud, ud, ud, ud, ud]
theorem slices_symMergeCmpFunc_float32_r2 {ν0 : Nat} (data_a : Option Addr) (data_e : Nat) (data_n : Nat) (i : Int) (k : Int)  (H : AHeap) (R : Post) : exL Try.prog (E_slices_symMergeCmpFunc_float32 ν0) (cl (cl (cr (cl (cr (cr (cr (cl (cr (cl (bodyC Try.f227))))))))))) 9217 0 [(2, 0)] (slices_symMergeCmpFunc_float32_P2 data_a data_e data_n i k) H R =
  (Br (decide ((k : Int) < IntKind.wrap .i64 (i - 1))) ((0 : Int) ≤ IntKind.wrap .i64 (k + 1) ∧ IntKind.wrap .i64 (k + 1) < (data_n : Int) ∧ ∃ b3 f3, (data_a : Option Addr) = some ⟨b3, f3, none⟩ ∧ ∃ x3 : Nat,  rdC H b3 (f3 + (IntKind.wrap .i64 (k + 1) : Int).toNat * 1) = some (.float .f32 x3) ∧ (0 : Int) ≤ k ∧ k < (data_n : Int) ∧ ∃ b4 f4, (data_a : Option Addr) = some ⟨b4, f4, none⟩ ∧ ∃ x4 : Nat,  rdC H b4 (f4 + (k : Int).toNat * 1) = some (.float .f32 x4) ∧ (0 : Int) ≤ k ∧ k < (data_n : Int) ∧ ∃ b5 f5, (data_a : Option Addr) = some ⟨b5, f5, none⟩ ∧ isOwn H b5 ∧ (∃ l, rdN H b5 (f5 + (k : Int).toNat * 1) 1 = some l) ∧ Lt (setC H b5 (f5 + (k : Int).toNat * 1) (.float .f32 x3)) fun H2 => (0 : Int) ≤ IntKind.wrap .i64 (k + 1) ∧ IntKind.wrap .i64 (k + 1) < (data_n : Int) ∧ ∃ b6 f6, (data_a : Option Addr) = some ⟨b6, f6, none⟩ ∧ isOwn H2 b6 ∧ (∃ l, rdN H2 b6 (f6 + (IntKind.wrap .i64 (k + 1) : Int).toNat * 1) 1 = some l) ∧ Lt (setC H2 b6 (f6 + (IntKind.wrap .i64 (k + 1) : Int).toNat * 1) (.float .f32 x4)) fun H3 => R .normal [.slice data_a data_n data_e, ud, ud, ud, ud, ud, ud, ud, ud, ud, .int .i64 i, ud, ud, .int .i64 (IntKind.wrap .i64 (k + 1)), ud, ud, ud, ud, ud, ud, ud, ud, ud, ud, ud, ud, ud, ud, ud, ud, ud, ud, ud, ud, ud, ud, ud, ud, ud, ud, ud, ud, ud, ud, ud, ud, ud, ud, ud, ud, ud, ud, ud, ud, ud, ud, ud, ud, ud, ud, ud, ud, ud, ud, ud, ud, ud, ud, ud, ud, ud, ud, ud, ud, ud, ud, ud, ud, ud, ud, ud, ud, ud, ud, ud, ud, ud, ud, ud, ud, ud, ud, ud, ud, ud, ud, ud, ud, ud, ud, ud, ud, ud, ud, ud, ud, ud, ud, ud, ud, ud, ud, ud, ud, ud, ud, ud, ud, ud, ud, ud, ud, ud, ud, ud, ud, ud, ud, ud, ud, ud, ud, ud, ud, ud, ud, ud, ud, ud, ud, ud, ud, ud, ud, ud, ud, ud, ud, ud, ud, ud, ud, ud, ud, ud, ud, ud, ud, ud, ud, ud, ud, ud, ud, ud, ud, ud, ud, ud, ud, ud, ud, ud, ud, ud, ud, ud, ud, ud, ud, ud, ud, ud, ud, ud, ud, ud, ud, ud, ud, ud, ud, ud, ud, ud, ud, ud, ud, ud, ud, ud, ud, ud, ud, ud, ud, ud, ud, ud, ud, ud, ud, ud, ud, ud, ud, ud, ud, ud, ud] H3) (R (.exit 2) [ud, ud, ud, ud, ud, ud, ud, ud, ud, ud, ud, ud, ud, ud, ud, ud, ud, ud, ud, ud, ud, ud, ud, ud, ud, ud, ud, ud, ud, ud, ud, ud, ud, ud, ud, ud, ud, ud, ud, ud, ud, ud, ud, ud, ud, ud, ud, ud, ud, ud, ud, ud, ud, ud, ud, ud, ud, ud, ud, ud, ud, ud, ud, ud, ud, ud, ud, ud, ud, ud, ud, ud, ud, ud, ud, ud, ud, ud, ud, ud, ud, ud, ud, ud, ud, ud, ud, ud, ud, ud, ud, ud, ud, ud, ud, ud, ud, ud, ud, ud, ud, ud, ud, ud, ud, ud, ud, ud, ud, ud, ud, ud, ud, ud, ud, ud, ud, ud, ud, ud, ud, ud, ud, ud, ud, ud, ud, ud, ud, ud, ud, ud, ud, ud, ud, ud, ud, ud, ud, ud, ud, ud, ud, ud, ud, ud, ud, ud, ud, ud, ud, ud, ud, ud, ud, ud, ud, ud, ud, ud, ud, ud, ud, ud, ud, ud, ud, ud, ud, ud, ud, ud, ud, ud, ud, ud, ud, ud, ud, ud, ud, ud, ud, ud, ud, ud, ud, ud, ud, ud, ud, ud, ud, ud, ud, ud, ud, ud, ud, ud, ud, ud, ud, ud, ud, ud, ud, ud, ud, ud, ud, ud, ud, ud, ud, ud, ud, ud, ud, ud] H)) := by kernel_rfl
def slices_symMergeCmpFunc_float32_I2 (data_a : Option Addr) (data_e : Nat) (data_n : Nat) (i : Int) (Inv : Nat → Int → AHeap → Prop) : Nat → List Value → AHeap → Prop := fun μ tm H => ∃ (k : Int), tm = (slices_symMergeCmpFunc_float32_P2 data_a data_e data_n i k) ∧ Inv μ k H
theorem slices_symMergeCmpFunc_float32_L2 {ν0 : Nat} (data_a : Option Addr) (data_e : Nat) (data_n : Nat) (i : Int) {Q : Post} (Inv : Nat → Int → AHeap → Prop) (ν : Nat) (k : Int)  (H : AHeap) (h0 : Inv ν k H)
    (hs : ∀ (μ : Nat) (k : Int)  (H : AHeap), Inv μ k H → exL Try.prog (E_slices_symMergeCmpFunc_float32 ν0) (cl (cl (cr (cl (cr (cr (cr (cl (cr (cl (bodyC Try.f227))))))))))) 9217 0 [(2, 0)] (slices_symMergeCmpFunc_float32_P2 data_a data_e data_n i k) H (loopQ (slices_symMergeCmpFunc_float32_I2 data_a data_e data_n i Inv) μ Q)) : loopK (exL Try.prog (E_slices_symMergeCmpFunc_float32 ν0) (cl (cl (cr (cl (cr (cr (cr (cl (cr (cl (bodyC Try.f227))))))))))) 9217 0 [(2, 0)]) (slices_symMergeCmpFunc_float32_P2 data_a data_e data_n i k) H Q :=
  ⟨slices_symMergeCmpFunc_float32_I2 data_a data_e data_n i Inv, ν, ⟨k, rfl, h0⟩, fun μ tm H h => by obtain ⟨k, rfl, hI⟩ := h; exact hs μ k  H hI⟩
theorem slices_symMergeCmpFunc_float32_n2 {data_a : Option Addr} {data_e : Nat} {data_n : Nat} {i : Int} {Q : Post} {Inv : Nat → Int → AHeap → Prop} {μ : Nat} (μ' : Nat) {k : Int}  {H : AHeap} (hm : μ' < μ) (hI : Inv μ' k H) : loopQ (slices_symMergeCmpFunc_float32_I2 data_a data_e data_n i Inv) μ Q .normal (slices_symMergeCmpFunc_float32_P2 data_a data_e data_n i k) H := ⟨μ', hm, k, rfl, hI⟩
theorem slices_symMergeCmpFunc_float32_x2_2 {ν0 : Nat}  (H : AHeap) (K : Value → AHeap → Prop)  {I : Nat → List Value → AHeap → Prop} {μ : Nat} : loopQ I μ (blockQ 2 (seqQ (exL Try.prog (E_slices_symMergeCmpFunc_float32 ν0) (cr (cr (cr (cr (cl (cr (cl (bodyC Try.f227)))))))) 31 0 []) (seqQ (exL Try.prog (E_slices_symMergeCmpFunc_float32 ν0) (cr (bodyC Try.f227)) 0 0 []) (retK Try.prog Try.f227 K)))) (.exit 2) [ud, ud, ud, ud, ud, ud, ud, ud, ud, ud, ud, ud, ud, ud, ud, ud, ud, ud, ud, ud, ud, ud, ud, ud, ud, ud, ud, ud, ud, ud, ud, ud, ud, ud, ud, ud, ud, ud, ud, ud, ud, ud, ud, ud, ud, ud, ud, ud, ud, ud, ud, ud, ud, ud, ud, ud, ud, ud, ud, ud, ud, ud, ud, ud, ud, ud, ud, ud, ud, ud, ud, ud, ud, ud, ud, ud, ud, ud, ud, ud, ud, ud, ud, ud, ud, ud, ud, ud, ud, ud, ud, ud, ud, ud, ud, ud, ud, ud, ud, ud, ud, ud, ud, ud, ud, ud, ud, ud, ud, ud, ud, ud, ud, ud, ud, ud, ud, ud, ud, ud, ud, ud, ud, ud, ud, ud, ud, ud, ud, ud, ud, ud, ud, ud, ud, ud, ud, ud, ud, ud, ud, ud, ud, ud, ud, ud, ud, ud, ud, ud, ud, ud, ud, ud, ud, ud, ud, ud, ud, ud, ud, ud, ud, ud, ud, ud, ud, ud, ud, ud, ud, ud, ud, ud, ud, ud, ud, ud, ud, ud, ud, ud, ud, ud, ud, ud, ud, ud, ud, ud, ud, ud, ud, ud, ud, ud, ud, ud, ud, ud, ud, ud, ud, ud, ud, ud, ud, ud, ud, ud, ud, ud, ud, ud, ud, ud, ud, ud, ud, ud] H =
  (K (.tuple #[]) H) := by kernel_rfl
abbrev slices_symMergeCmpFunc_float32_P3 (data_a : Option Addr) (data_e : Nat) (data_n : Nat) (m : Int) (i_14 : Int) (j_15 : Int)  : List Value := [.slice data_a data_n data_e, ud, .int .i64 m, ud, .func (.func 174) #[] #[], ud, ud, ud, ud, ud, ud, ud, ud, ud, .int .i64 i_14, .int .i64 j_15, ud, ud, ud, ud, ud, ud, ud, ud, ud, ud, ud, ud, ud, ud, ud, ud, ud, ud, ud, ud, ud, ud, ud, ud, ud, ud, ud, ud, ud, ud, ud, ud, ud, ud, ud, ud, ud, ud, ud, ud, ud, ud, ud, ud, ud, ud, ud, ud, ud, ud, ud, ud, ud, ud, ud, ud, ud, ud, ud, ud, ud, ud, ud, ud, ud, ud, ud, ud, ud, ud, ud, ud, ud, ud, ud, ud, ud, ud, ud, ud, ud, ud, ud, ud, ud, ud, ud, ud, ud, ud, ud, ud, ud, ud, ud, ud, ud, ud, ud, ud, ud, ud, ud, ud, ud, ud, ud, ud, ud, ud, ud, ud, ud, ud, ud, ud, ud, ud, ud, ud, ud, ud, ud, ud, ud, ud, ud, ud, ud, ud, ud, ud, ud, ud, ud, ud, ud, ud, ud, ud, ud, ud, ud, ud, ud, ud, ud, ud, ud, ud, ud, ud, ud, ud, ud, ud, ud, ud, ud, ud, ud, ud, ud, ud, ud, ud, ud, ud, ud, ud, ud, ud, ud, ud, ud, ud, ud, ud, ud, ud, ud, ud, ud, ud, ud, ud, ud, ud, ud, ud, ud, ud, ud, ud, ud, ud, ud, ud, ud, ud, ud, ud, ud, ud]
theorem slices_symMergeCmpFunc_float32_r3 {ν0 : Nat} (data_a : Option Addr) (data_e : Nat) (data_n : Nat) (m : Int) (i_14 : Int) (j_15 : Int)  (H : AHeap) (R : Post) : exL Try.prog (E_slices_symMergeCmpFunc_float32 ν0) (cl (cl (cl (cr (cr (cl (cr (cl (cr (bodyC Try.f227)))))))))) 49173 0 [(4, 16389)] (slices_symMergeCmpFunc_float32_P3 data_a data_e data_n m i_14 j_15) H R =
  (Br (decide ((i_14 : Int) < j_15)) ((0 : Int) ≤ 1 ∧ (0 : Int) ≤ m ∧ m < (data_n : Int) ∧ ∃ b7 f7, (data_a : Option Addr) = some ⟨b7, f7, none⟩ ∧ ∃ x5 : Nat,  rdC H b7 (f7 + (m : Int).toNat * 1) = some (.float .f32 x5) ∧ (0 : Int) ≤ IntKind.wrap .i64 (Int.fdiv (IntKind.wrap .u64 (IntKind.wrap .i64 (i_14 + j_15))) (2 ^ (min (1 : Int).toNat (IntKind.bits .u64)))) ∧ IntKind.wrap .i64 (Int.fdiv (IntKind.wrap .u64 (IntKind.wrap .i64 (i_14 + j_15))) (2 ^ (min (1 : Int).toNat (IntKind.bits .u64)))) < (data_n : Int) ∧ ∃ b8 f8, (data_a : Option Addr) = some ⟨b8, f8, none⟩ ∧ ∃ x6 : Nat,  rdC H b8 (f8 + (IntKind.wrap .i64 (Int.fdiv (IntKind.wrap .u64 (IntKind.wrap .i64 (i_14 + j_15))) (2 ^ (min (1 : Int).toNat (IntKind.bits .u64)))) : Int).toNat * 1) = some (.float .f32 x6) ∧ T_cmp_Compare_float32 x5 x6 H fun (r2 : Int) (H4 : AHeap) => Br (!(decide ((r2 : Int) < 0))) (R .normal [.slice data_a data_n data_e, ud, .int .i64 m, ud, .func (.func 174) #[] #[], ud, ud, ud, ud, ud, ud, ud, ud, ud, .int .i64 (IntKind.wrap .i64 ((IntKind.wrap .i64 (Int.fdiv (IntKind.wrap .u64 (IntKind.wrap .i64 (i_14 + j_15))) (2 ^ (min (1 : Int).toNat (IntKind.bits .u64))))) + 1)), .int .i64 j_15, ud, ud, ud, ud, ud, ud, ud, ud, ud, ud, ud, ud, ud, ud, ud, ud, ud, ud, ud, ud, ud, ud, ud, ud, ud, ud, ud, ud, ud, ud, ud, ud, ud, ud, ud, ud, ud, ud, ud, ud, ud, ud, ud, ud, ud, ud, ud, ud, ud, ud, ud, ud, ud, ud, ud, ud, ud, ud, ud, ud, ud, ud, ud, ud, ud, ud, ud, ud, ud, ud, ud, ud, ud, ud, ud, ud, ud, ud, ud, ud, ud, ud, ud, ud, ud, ud, ud, ud, ud, ud, ud, ud, ud, ud, ud, ud, ud, ud, ud, ud, ud, ud, ud, ud, ud, ud, ud, ud, ud, ud, ud, ud, ud, ud, ud, ud, ud, ud, ud, ud, ud, ud, ud, ud, ud, ud, ud, ud, ud, ud, ud, ud, ud, ud, ud, ud, ud, ud, ud, ud, ud, ud, ud, ud, ud, ud, ud, ud, ud, ud, ud, ud, ud, ud, ud, ud, ud, ud, ud, ud, ud, ud, ud, ud, ud, ud, ud, ud, ud, ud, ud, ud, ud, ud, ud, ud, ud, ud, ud, ud, ud, ud, ud, ud, ud, ud, ud, ud, ud, ud, ud, ud, ud, ud, ud, ud, ud, ud, ud, ud, ud, ud, ud, ud] H4) (R .normal [.slice data_a data_n data_e, ud, .int .i64 m, ud, .func (.func 174) #[] #[], ud, ud, ud, ud, ud, ud, ud, ud, ud, .int .i64 i_14, .int .i64 (IntKind.wrap .i64 (Int.fdiv (IntKind.wrap .u64 (IntKind.wrap .i64 (i_14 + j_15))) (2 ^ (min (1 : Int).toNat (IntKind.bits .u64))))), ud, ud, ud, ud, ud, ud, ud, ud, ud, ud, ud, ud, ud, ud, ud, ud, ud, ud, ud, ud, ud, ud, ud, ud, ud, ud, ud, ud, ud, ud, ud, ud, ud, ud, ud, ud, ud, ud, ud, ud, ud, ud, ud, ud, ud, ud, ud, ud, ud, ud, ud, ud, ud, ud, ud, ud, ud, ud, ud, ud, ud, ud, ud, ud, ud, ud, ud, ud, ud, ud, ud, ud, ud, ud, ud, ud, ud, ud, ud, ud, ud, ud, ud, ud, ud, ud, ud, ud, ud, ud, ud, ud, ud, ud, ud, ud, ud, ud, ud, ud, ud, ud, ud, ud, ud, ud, ud, ud, ud, ud, ud, ud, ud, ud, ud, ud, ud, ud, ud, ud, ud, ud, ud, ud, ud, ud, ud, ud, ud, ud, ud, ud, ud, ud, ud, ud, ud, ud, ud, ud, ud, ud, ud, ud, ud, ud, ud, ud, ud, ud, ud, ud, ud, ud, ud, ud, ud, ud, ud, ud, ud, ud, ud, ud, ud, ud, ud, ud, ud, ud, ud, ud, ud, ud, ud, ud, ud, ud, ud, ud, ud, ud, ud, ud, ud, ud, ud, ud, ud, ud, ud, ud, ud, ud, ud, ud, ud, ud, ud, ud, ud, ud, ud, ud] H4)) (R (.exit 4) [.slice data_a data_n data_e, ud, .int .i64 m, ud, ud, ud, ud, ud, ud, ud, ud, ud, ud, ud, .int .i64 i_14, ud, ud, ud, ud, ud, ud, ud, ud, ud, ud, ud, ud, ud, ud, ud, ud, ud, ud, ud, ud, ud, ud, ud, ud, ud, ud, ud, ud, ud, ud, ud, ud, ud, ud, ud, ud, ud, ud, ud, ud, ud, ud, ud, ud, ud, ud, ud, ud, ud, ud, ud, ud, ud, ud, ud, ud, ud, ud, ud, ud, ud, ud, ud, ud, ud, ud, ud, ud, ud, ud, ud, ud, ud, ud, ud, ud, ud, ud, ud, ud, ud, ud, ud, ud, ud, ud, ud, ud, ud, ud, ud, ud, ud, ud, ud, ud, ud, ud, ud, ud, ud, ud, ud, ud, ud, ud, ud, ud, ud, ud, ud, ud, ud, ud, ud, ud, ud, ud, ud, ud, ud, ud, ud, ud, ud, ud, ud, ud, ud, ud, ud, ud, ud, ud, ud, ud, ud, ud, ud, ud, ud, ud, ud, ud, ud, ud, ud, ud, ud, ud, ud, ud, ud, ud, ud, ud, ud, ud, ud, ud, ud, ud, ud, ud, ud, ud, ud, ud, ud, ud, ud, ud, ud, ud, ud, ud, ud, ud, ud, ud, ud, ud, ud, ud, ud, ud, ud, ud, ud, ud, ud, ud, ud, ud, ud, ud, ud, ud, ud, ud, ud, ud, ud, ud, ud] H)) := by kernel_rfl
def slices_symMergeCmpFunc_float32_I3 (data_a : Option Addr) (data_e : Nat) (data_n : Nat) (m : Int) (Inv : Nat → Int → Int → AHeap → Prop) : Nat → List Value → AHeap → Prop := fun μ tm H => ∃ (i_14 : Int), ∃ (j_15 : Int), tm = (slices_symMergeCmpFunc_float32_P3 data_a data_e data_n m i_14 j_15) ∧ Inv μ i_14 j_15 H
theorem slices_symMergeCmpFunc_float32_L3 {ν0 : Nat} (data_a : Option Addr) (data_e : Nat) (data_n : Nat) (m : Int) {Q : Post} (Inv : Nat → Int → Int → AHeap → Prop) (ν : Nat) (i_14 : Int) (j_15 : Int)  (H : AHeap) (h0 : Inv ν i_14 j_15 H)
    (hs : ∀ (μ : Nat) (i_14 : Int) (j_15 : Int)  (H : AHeap), Inv μ i_14 j_15 H → exL Try.prog (E_slices_symMergeCmpFunc_float32 ν0) (cl (cl (cl (cr (cr (cl (cr (cl (cr (bodyC Try.f227)))))))))) 49173 0 [(4, 16389)] (slices_symMergeCmpFunc_float32_P3 data_a data_e data_n m i_14 j_15) H (loopQ (slices_symMergeCmpFunc_float32_I3 data_a data_e data_n m Inv) μ Q)) : loopK (exL Try.prog (E_slices_symMergeCmpFunc_float32 ν0) (cl (cl (cl (cr (cr (cl (cr (cl (cr (bodyC Try.f227)))))))))) 49173 0 [(4, 16389)]) (slices_symMergeCmpFunc_float32_P3 data_a data_e data_n m i_14 j_15) H Q :=
  ⟨slices_symMergeCmpFunc_float32_I3 data_a data_e data_n m Inv, ν, ⟨i_14, j_15, rfl, h0⟩, fun μ tm H h => by obtain ⟨i_14, j_15, rfl, hI⟩ := h; exact hs μ i_14 j_15  H hI⟩
theorem slices_symMergeCmpFunc_float32_n3 {data_a : Option Addr} {data_e : Nat} {data_n : Nat} {m : Int} {Q : Post} {Inv : Nat → Int → Int → AHeap → Prop} {μ : Nat} (μ' : Nat) {i_14 : Int} {j_15 : Int}  {H : AHeap} (hm : μ' < μ) (hI : Inv μ' i_14 j_15 H) : loopQ (slices_symMergeCmpFunc_float32_I3 data_a data_e data_n m Inv) μ Q .normal (slices_symMergeCmpFunc_float32_P3 data_a data_e data_n m i_14 j_15) H := ⟨μ', hm, i_14, j_15, rfl, hI⟩
theorem slices_symMergeCmpFunc_float32_x3_4 {ν0 : Nat} (data_a : Option Addr) (data_e : Nat) (data_n : Nat) (m : Int) (i_14 : Int) (H : AHeap) (K : Value → AHeap → Prop)  {I : Nat → List Value → AHeap → Prop} {μ : Nat} : loopQ I μ (blockQ 4 (seqQ (exL Try.prog (E_slices_symMergeCmpFunc_float32 ν0) (cr (cr (cr (cl (cr (cl (cr (bodyC Try.f227)))))))) 31 0 []) (seqQ (exL Try.prog (E_slices_symMergeCmpFunc_float32 ν0) (cr (cr (bodyC Try.f227))) 0 0 []) (retK Try.prog Try.f227 K)))) (.exit 4) [.slice data_a data_n data_e, ud, .int .i64 m, ud, ud, ud, ud, ud, ud, ud, ud, ud, ud, ud, .int .i64 i_14, ud, ud, ud, ud, ud, ud, ud, ud, ud, ud, ud, ud, ud, ud, ud, ud, ud, ud, ud, ud, ud, ud, ud, ud, ud, ud, ud, ud, ud, ud, ud, ud, ud, ud, ud, ud, ud, ud, ud, ud, ud, ud, ud, ud, ud, ud, ud, ud, ud, ud, ud, ud, ud, ud, ud, ud, ud, ud, ud, ud, ud, ud, ud, ud, ud, ud, ud, ud, ud, ud, ud, ud, ud, ud, ud, ud, ud, ud, ud, ud, ud, ud, ud, ud, ud, ud, ud, ud, ud, ud, ud, ud, ud, ud, ud, ud, ud, ud, ud, ud, ud, ud, ud, ud, ud, ud, ud, ud, ud, ud, ud, ud, ud, ud, ud, ud, ud, ud, ud, ud, ud, ud, ud, ud, ud, ud, ud, ud, ud, ud, ud, ud, ud, ud, ud, ud, ud, ud, ud, ud, ud, ud, ud, ud, ud, ud, ud, ud, ud, ud, ud, ud, ud, ud, ud, ud, ud, ud, ud, ud, ud, ud, ud, ud, ud, ud, ud, ud, ud, ud, ud, ud, ud, ud, ud, ud, ud, ud, ud, ud, ud, ud, ud, ud, ud, ud, ud, ud, ud, ud, ud, ud, ud, ud, ud, ud, ud, ud, ud, ud, ud, ud, ud, ud, ud] H =
  (loopK (exL Try.prog (E_slices_symMergeCmpFunc_float32 ν0) (cl (cl (cr (cl (cr (cr (cr (cl (cr (cl (cr (bodyC Try.f227)))))))))))) 147457 0 [(6, 0)]) [.slice data_a data_n data_e, ud, ud, ud, ud, ud, ud, ud, ud, ud, ud, ud, ud, ud, .int .i64 i_14, ud, ud, .int .i64 m, ud, ud, ud, ud, ud, ud, ud, ud, ud, ud, ud, ud, ud, ud, ud, ud, ud, ud, ud, ud, ud, ud, ud, ud, ud, ud, ud, ud, ud, ud, ud, ud, ud, ud, ud, ud, ud, ud, ud, ud, ud, ud, ud, ud, ud, ud, ud, ud, ud, ud, ud, ud, ud, ud, ud, ud, ud, ud, ud, ud, ud, ud, ud, ud, ud, ud, ud, ud, ud, ud, ud, ud, ud, ud, ud, ud, ud, ud, ud, ud, ud, ud, ud, ud, ud, ud, ud, ud, ud, ud, ud, ud, ud, ud, ud, ud, ud, ud, ud, ud, ud, ud, ud, ud, ud, ud, ud, ud, ud, ud, ud, ud, ud, ud, ud, ud, ud, ud, ud, ud, ud, ud, ud, ud, ud, ud, ud, ud, ud, ud, ud, ud, ud, ud, ud, ud, ud, ud, ud, ud, ud, ud, ud, ud, ud, ud, ud, ud, ud, ud, ud, ud, ud, ud, ud, ud, ud, ud, ud, ud, ud, ud, ud, ud, ud, ud, ud, ud, ud, ud, ud, ud, ud, ud, ud, ud, ud, ud, ud, ud, ud, ud, ud, ud, ud, ud, ud, ud, ud, ud, ud, ud, ud, ud, ud, ud, ud, ud, ud, ud, ud, ud] H (blockQ 6 (seqQ (exL Try.prog (E_slices_symMergeCmpFunc_float32 ν0) (cr (cr (cr (cr (cl (cr (cl (cr (bodyC Try.f227))))))))) 31 0 []) (seqQ (exL Try.prog (E_slices_symMergeCmpFunc_float32 ν0) (cr (cr (bodyC Try.f227))) 0 0 []) (retK Try.prog Try.f227 K))))) := by kernel_rfl
abbrev slices_symMergeCmpFunc_float32_P4 (data_a : Option Addr) (data_e : Nat) (data_n : Nat) (i_14 : Int) (k_17 : Int)  : List Value := [.slice data_a data_n data_e, ud, ud, ud, ud, ud, ud, ud, ud, ud, ud, ud, ud, ud, .int .i64 i_14, ud, ud, .int .i64 k_17, ud, ud, ud, ud, ud, ud, ud, ud, ud, ud, ud, ud, ud, ud, ud, ud, ud, ud, ud, ud, ud, ud, ud, ud, ud, ud, ud, ud, ud, ud, ud, ud, ud, ud, ud, ud, ud, ud, ud, ud, ud, ud, ud, ud, ud, ud, ud, ud, ud, ud, ud, ud, ud, ud, ud, ud, ud, ud, ud, ud, ud, ud, ud, ud, ud, ud, ud, ud, ud, ud, ud, ud, ud, ud, ud, ud, ud, ud, ud, ud, ud, ud, ud, ud, ud, ud, ud, ud, ud, ud, ud, ud, ud, ud, ud, ud, ud, ud, ud, ud, ud, ud, ud, ud, ud, ud, ud, ud, ud, ud, ud, ud, ud, ud, ud, ud, ud, ud, ud, ud, ud, ud, ud, ud, ud, ud, ud, ud, ud, ud, ud, ud, ud, ud, ud, ud, ud, ud, ud, ud, ud, ud, ud, ud, ud, ud, ud, ud, ud, ud, ud, ud, ud, ud, ud, ud, ud, ud, ud, ud, ud, ud, ud, ud, ud, ud, ud, ud, ud, ud, ud, ud, ud, ud, ud, ud, ud, ud, ud, ud, ud, ud, ud, ud, ud, ud, ud, ud, ud, ud, ud, ud, ud, ud, ud, ud, ud, ud, ud, ud, ud, ud]
theorem slices_symMergeCmpFunc_float32_r4 {ν0 : Nat} (data_a : Option Addr) (data_e : Nat) (data_n : Nat) (i_14 : Int) (k_17 : Int)  (H : AHeap) (R : Post) : exL Try.prog (E_slices_symMergeCmpFunc_float32 ν0) (cl (cl (cr (cl (cr (cr (cr (cl (cr (cl (cr (bodyC Try.f227)))))))))))) 147457 0 [(6, 0)] (slices_symMergeCmpFunc_float32_P4 data_a data_e data_n i_14 k_17) H R =
  (Br (decide ((i_14 : Int) < k_17)) ((0 : Int) ≤ IntKind.wrap .i64 (k_17 - 1) ∧ IntKind.wrap .i64 (k_17 - 1) < (data_n : Int) ∧ ∃ b9 f9, (data_a : Option Addr) = some ⟨b9, f9, none⟩ ∧ ∃ x7 : Nat,  rdC H b9 (f9 + (IntKind.wrap .i64 (k_17 - 1) : Int).toNat * 1) = some (.float .f32 x7) ∧ (0 : Int) ≤ k_17 ∧ k_17 < (data_n : Int) ∧ ∃ b10 f10, (data_a : Option Addr) = some ⟨b10, f10, none⟩ ∧ ∃ x8 : Nat,  rdC H b10 (f10 + (k_17 : Int).toNat * 1) = some (.float .f32 x8) ∧ (0 : Int) ≤ k_17 ∧ k_17 < (data_n : Int) ∧ ∃ b11 f11, (data_a : Option Addr) = some ⟨b11, f11, none⟩ ∧ isOwn H b11 ∧ (∃ l, rdN H b11 (f11 + (k_17 : Int).toNat * 1) 1 = some l) ∧ Lt (setC H b11 (f11 + (k_17 : Int).toNat * 1) (.float .f32 x7)) fun H5 => (0 : Int) ≤ IntKind.wrap .i64 (k_17 - 1) ∧ IntKind.wrap .i64 (k_17 - 1) < (data_n : Int) ∧ ∃ b12 f12, (data_a : Option Addr) = some ⟨b12, f12, none⟩ ∧ isOwn H5 b12 ∧ (∃ l, rdN H5 b12 (f12 + (IntKind.wrap .i64 (k_17 - 1) : Int).toNat * 1) 1 = some l) ∧ Lt (setC H5 b12 (f12 + (IntKind.wrap .i64 (k_17 - 1) : Int).toNat * 1) (.float .f32 x8)) fun H6 => R .normal [.slice data_a data_n data_e, ud, ud, ud, ud, ud, ud, ud, ud, ud, ud, ud, ud, ud, .int .i64 i_14, ud, ud, .int .i64 (IntKind.wrap .i64 (k_17 - 1)), ud, ud, ud, ud, ud, ud, ud, ud, ud, ud, ud, ud, ud, ud, ud, ud, ud, ud, ud, ud, ud, ud, ud, ud, ud, ud, ud, ud, ud, ud, ud, ud, ud, ud, ud, ud, ud, ud, ud, ud, ud, ud, ud, ud, ud, ud, ud, ud, ud, ud, ud, ud, ud, ud, ud, ud, ud, ud, ud, ud, ud, ud, ud, ud, ud, ud, ud, ud, ud, ud, ud, ud, ud, ud, ud, ud, ud, ud, ud, ud, ud, ud, ud, ud, ud, ud, ud, ud, ud, ud, ud, ud, ud, ud, ud, ud, ud, ud, ud, ud, ud, ud, ud, ud, ud, ud, ud, ud, ud, ud, ud, ud, ud, ud, ud, ud, ud, ud, ud, ud, ud, ud, ud, ud, ud, ud, ud, ud, ud, ud, ud, ud, ud, ud, ud, ud, ud, ud, ud, ud, ud, ud, ud, ud, ud, ud, ud, ud, ud, ud, ud, ud, ud, ud, ud, ud, ud, ud, ud, ud, ud, ud, ud, ud, ud, ud, ud, ud, ud, ud, ud, ud, ud, ud, ud, ud, ud, ud, ud, ud, ud, ud, ud, ud, ud, ud, ud, ud, ud, ud, ud, ud, ud, ud, ud, ud, ud, ud, ud, ud, ud, ud] H6) (R (.exit 6) [ud, ud, ud, ud, ud, ud, ud, ud, ud, ud, ud, ud, ud, ud, ud, ud, ud, ud, ud, ud, ud, ud, ud, ud, ud, ud, ud, ud, ud, ud, ud, ud, ud, ud, ud, ud, ud, ud, ud, ud, ud, ud, ud, ud, ud, ud, ud, ud, ud, ud, ud, ud, ud, ud, ud, ud, ud, ud, ud, ud, ud, ud, ud, ud, ud, ud, ud, ud, ud, ud, ud, ud, ud, ud, ud, ud, ud, ud, ud, ud, ud, ud, ud, ud, ud, ud, ud, ud, ud, ud, ud, ud, ud, ud, ud, ud, ud, ud, ud, ud, ud, ud, ud, ud, ud, ud, ud, ud, ud, ud, ud, ud, ud, ud, ud, ud, ud, ud, ud, ud, ud, ud, ud, ud, ud, ud, ud, ud, ud, ud, ud, ud, ud, ud, ud, ud, ud, ud, ud, ud, ud, ud, ud, ud, ud, ud, ud, ud, ud, ud, ud, ud, ud, ud, ud, ud, ud, ud, ud, ud, ud, ud, ud, ud, ud, ud, ud, ud, ud, ud, ud, ud, ud, ud, ud, ud, ud, ud, ud, ud, ud, ud, ud, ud, ud, ud, ud, ud, ud, ud, ud, ud, ud, ud, ud, ud, ud, ud, ud, ud, ud, ud, ud, ud, ud, ud, ud, ud, ud, ud, ud, ud, ud, ud, ud, ud, ud, ud, ud, ud] H)) := by kernel_rfl
def slices_symMergeCmpFunc_float32_I4 (data_a : Option Addr) (data_e : Nat) (data_n : Nat) (i_14 : Int) (Inv : Nat → Int → AHeap → Prop) : Nat → List Value → AHeap → Prop := fun μ tm H => ∃ (k_17 : Int), tm = (slices_symMergeCmpFunc_float32_P4 data_a data_e data_n i_14 k_17) ∧ Inv μ k_17 H
theorem slices_symMergeCmpFunc_float32_L4 {ν0 : Nat} (data_a : Option Addr) (data_e : Nat) (data_n : Nat) (i_14 : Int) {Q : Post} (Inv : Nat → Int → AHeap → Prop) (ν : Nat) (k_17 : Int)  (H : AHeap) (h0 : Inv ν k_17 H)
    (hs : ∀ (μ : Nat) (k_17 : Int)  (H : AHeap), Inv μ k_17 H → exL Try.prog (E_slices_symMergeCmpFunc_float32 ν0) (cl (cl (cr (cl (cr (cr (cr (cl (cr (cl (cr (bodyC Try.f227)))))))))))) 147457 0 [(6, 0)] (slices_symMergeCmpFunc_float32_P4 data_a data_e data_n i_14 k_17) H (loopQ (slices_symMergeCmpFunc_float32_I4 data_a data_e data_n i_14 Inv) μ Q)) : loopK (exL Try.prog (E_slices_symMergeCmpFunc_float32 ν0) (cl (cl (cr (cl (cr (cr (cr (cl (cr (cl (cr (bodyC Try.f227)))))))))))) 147457 0 [(6, 0)]) (slices_symMergeCmpFunc_float32_P4 data_a data_e data_n i_14 k_17) H Q :=
  ⟨slices_symMergeCmpFunc_float32_I4 data_a data_e data_n i_14 Inv, ν, ⟨k_17, rfl, h0⟩, fun μ tm H h => by obtain ⟨k_17, rfl, hI⟩ := h; exact hs μ k_17  H hI⟩
theorem slices_symMergeCmpFunc_float32_n4 {data_a : Option Addr} {data_e : Nat} {data_n : Nat} {i_14 : Int} {Q : Post} {Inv : Nat → Int → AHeap → Prop} {μ : Nat} (μ' : Nat) {k_17 : Int}  {H : AHeap} (hm : μ' < μ) (hI : Inv μ' k_17 H) : loopQ (slices_symMergeCmpFunc_float32_I4 data_a data_e data_n i_14 Inv) μ Q .normal (slices_symMergeCmpFunc_float32_P4 data_a data_e data_n i_14 k_17) H := ⟨μ', hm, k_17, rfl, hI⟩
theorem slices_symMergeCmpFunc_float32_x4_6 {ν0 : Nat}  (H : AHeap) (K : Value → AHeap → Prop)  {I : Nat → List Value → AHeap → Prop} {μ : Nat} : loopQ I μ (blockQ 6 (seqQ (exL Try.prog (E_slices_symMergeCmpFunc_float32 ν0) (cr (cr (cr (cr (cl (cr (cl (cr (bodyC Try.f227))))))))) 31 0 []) (seqQ (exL Try.prog (E_slices_symMergeCmpFunc_float32 ν0) (cr (cr (bodyC Try.f227))) 0 0 []) (retK Try.prog Try.f227 K)))) (.exit 6) [ud, ud, ud, ud, ud, ud, ud, ud, ud, ud, ud, ud, ud, ud, ud, ud, ud, ud, ud, ud, ud, ud, ud, ud, ud, ud, ud, ud, ud, ud, ud, ud, ud, ud, ud, ud, ud, ud, ud, ud, ud, ud, ud, ud, ud, ud, ud, ud, ud, ud, ud, ud, ud, ud, ud, ud, ud, ud, ud, ud, ud, ud, ud, ud, ud, ud, ud, ud, ud, ud, ud, ud, ud, ud, ud, ud, ud, ud, ud, ud, ud, ud, ud, ud, ud, ud, ud, ud, ud, ud, ud, ud, ud, ud, ud, ud, ud, ud, ud, ud, ud, ud, ud, ud, ud, ud, ud, ud, ud, ud, ud, ud, ud, ud, ud, ud, ud, ud, ud, ud, ud, ud, ud, ud, ud, ud, ud, ud, ud, ud, ud, ud, ud, ud, ud, ud, ud, ud, ud, ud, ud, ud, ud, ud, ud, ud, ud, ud, ud, ud, ud, ud, ud, ud, ud, ud, ud, ud, ud, ud, ud, ud, ud, ud, ud, ud, ud, ud, ud, ud, ud, ud, ud, ud, ud, ud, ud, ud, ud, ud, ud, ud, ud, ud, ud, ud, ud, ud, ud, ud, ud, ud, ud, ud, ud, ud, ud, ud, ud, ud, ud, ud, ud, ud, ud, ud, ud, ud, ud, ud, ud, ud, ud, ud, ud, ud, ud, ud, ud, ud] H =
  (K (.tuple #[]) H) := by kernel_rfl
abbrev slices_symMergeCmpFunc_float32_P5 (a : Int) (b : Int) (data_a : Option Addr) (data_e : Nat) (data_n : Nat) (m : Int) (z5_18 : Int) (z5_19 : Int) (z5_22 : Int) (start : Int) (r : Int)  : List Value := [.slice data_a data_n data_e, .int .i64 a, .int .i64 m, .int .i64 b, .func (.func 174) #[] #[], ud, ud, ud, ud, ud, ud, ud, ud, ud, ud, ud, ud, ud, .int .i64 z5_18, .int .i64 z5_19, .int .i64 start, .int .i64 r, .int .i64 z5_22, ud, ud, ud, ud, ud, ud, ud, ud, ud, ud, ud, ud, ud, ud, ud, ud, ud, ud, ud, ud, ud, ud, ud, ud, ud, ud, ud, ud, ud, ud, ud, ud, ud, ud, ud, ud, ud, ud, ud, ud, ud, ud, ud, ud, ud, ud, ud, ud, ud, ud, ud, ud, ud, ud, ud, ud, ud, ud, ud, ud, ud, ud, ud, ud, ud, ud, ud, ud, ud, ud, ud, ud, ud, ud, ud, ud, ud, ud, ud, ud, ud, ud, ud, ud, ud, ud, ud, ud, ud, ud, ud, ud, ud, ud, ud, ud, ud, ud, ud, ud, ud, ud, ud, ud, ud, ud, ud, ud, ud, ud, ud, ud, ud, ud, ud, ud, ud, ud, ud, ud, ud, ud, ud, ud, ud, ud, ud, ud, ud, ud, ud, ud, ud, ud, ud, ud, ud, ud, ud, ud, ud, ud, ud, ud, ud, ud, ud, ud, ud, ud, ud, ud, ud, ud, ud, ud, ud, ud, ud, ud, ud, ud, ud, ud, ud, ud, ud, ud, ud, ud, ud, ud, ud, ud, ud, ud, ud, ud, ud, ud, ud, ud, ud, ud, ud, ud, ud, ud, ud, ud, ud, ud, ud, ud, ud, ud, ud]
theorem slices_symMergeCmpFunc_float32_r5 {ν0 : Nat} (a : Int) (b : Int) (data_a : Option Addr) (data_e : Nat) (data_n : Nat) (m : Int) (z5_18 : Int) (z5_19 : Int) (z5_22 : Int) (start : Int) (r : Int)  (H : AHeap) (R : Post) : exL Try.prog (E_slices_symMergeCmpFunc_float32 ν0) (cl (cl (cl (cr (cr (cr (cr (cr (cr (cr (bodyC Try.f227))))))))))) 8126495 0 [(8, 1835039)] (slices_symMergeCmpFunc_float32_P5 a b data_a data_e data_n m z5_18 z5_19 z5_22 start r) H R =
  (Br (decide ((start : Int) < r)) ((0 : Int) ≤ 1 ∧ (0 : Int) ≤ IntKind.wrap .i64 (z5_22 - (IntKind.wrap .i64 (Int.fdiv (IntKind.wrap .u64 (IntKind.wrap .i64 (start + r))) (2 ^ (min (1 : Int).toNat (IntKind.bits .u64)))))) ∧ IntKind.wrap .i64 (z5_22 - (IntKind.wrap .i64 (Int.fdiv (IntKind.wrap .u64 (IntKind.wrap .i64 (start + r))) (2 ^ (min (1 : Int).toNat (IntKind.bits .u64)))))) < (data_n : Int) ∧ ∃ b13 f13, (data_a : Option Addr) = some ⟨b13, f13, none⟩ ∧ ∃ x9 : Nat,  rdC H b13 (f13 + (IntKind.wrap .i64 (z5_22 - (IntKind.wrap .i64 (Int.fdiv (IntKind.wrap .u64 (IntKind.wrap .i64 (start + r))) (2 ^ (min (1 : Int).toNat (IntKind.bits .u64)))))) : Int).toNat * 1) = some (.float .f32 x9) ∧ (0 : Int) ≤ IntKind.wrap .i64 (Int.fdiv (IntKind.wrap .u64 (IntKind.wrap .i64 (start + r))) (2 ^ (min (1 : Int).toNat (IntKind.bits .u64)))) ∧ IntKind.wrap .i64 (Int.fdiv (IntKind.wrap .u64 (IntKind.wrap .i64 (start + r))) (2 ^ (min (1 : Int).toNat (IntKind.bits .u64)))) < (data_n : Int) ∧ ∃ b14 f14, (data_a : Option Addr) = some ⟨b14, f14, none⟩ ∧ ∃ x10 : Nat,  rdC H b14 (f14 + (IntKind.wrap .i64 (Int.fdiv (IntKind.wrap .u64 (IntKind.wrap .i64 (start + r))) (2 ^ (min (1 : Int).toNat (IntKind.bits .u64)))) : Int).toNat * 1) = some (.float .f32 x10) ∧ T_cmp_Compare_float32 x9 x10 H fun (r3 : Int) (H7 : AHeap) => Br (!(decide ((r3 : Int) < 0))) (R .normal [.slice data_a data_n data_e, .int .i64 a, .int .i64 m, .int .i64 b, .func (.func 174) #[] #[], ud, ud, ud, ud, ud, ud, ud, ud, ud, ud, ud, ud, ud, .int .i64 z5_18, .int .i64 z5_19, .int .i64 (IntKind.wrap .i64 ((IntKind.wrap .i64 (Int.fdiv (IntKind.wrap .u64 (IntKind.wrap .i64 (start + r))) (2 ^ (min (1 : Int).toNat (IntKind.bits .u64))))) + 1)), .int .i64 r, .int .i64 z5_22, ud, ud, ud, ud, ud, ud, ud, ud, ud, ud, ud, ud, ud, ud, ud, ud, ud, ud, ud, ud, ud, ud, ud, ud, ud, ud, ud, ud, ud, ud, ud, ud, ud, ud, ud, ud, ud, ud, ud, ud, ud, ud, ud, ud, ud, ud, ud, ud, ud, ud, ud, ud, ud, ud, ud, ud, ud, ud, ud, ud, ud, ud, ud, ud, ud, ud, ud, ud, ud, ud, ud, ud, ud, ud, ud, ud, ud, ud, ud, ud, ud, ud, ud, ud, ud, ud, ud, ud, ud, ud, ud, ud, ud, ud, ud, ud, ud, ud, ud, ud, ud, ud, ud, ud, ud, ud, ud, ud, ud, ud, ud, ud, ud, ud, ud, ud, ud, ud, ud, ud, ud, ud, ud, ud, ud, ud, ud, ud, ud, ud, ud, ud, ud, ud, ud, ud, ud, ud, ud, ud, ud, ud, ud, ud, ud, ud, ud, ud, ud, ud, ud, ud, ud, ud, ud, ud, ud, ud, ud, ud, ud, ud, ud, ud, ud, ud, ud, ud, ud, ud, ud, ud, ud, ud, ud, ud, ud, ud, ud, ud, ud, ud, ud, ud, ud, ud, ud, ud, ud, ud, ud, ud, ud, ud, ud, ud, ud] H7) (R .normal [.slice data_a data_n data_e, .int .i64 a, .int .i64 m, .int .i64 b, .func (.func 174) #[] #[], ud, ud, ud, ud, ud, ud, ud, ud, ud, ud, ud, ud, ud, .int .i64 z5_18, .int .i64 z5_19, .int .i64 start, .int .i64 (IntKind.wrap .i64 (Int.fdiv (IntKind.wrap .u64 (IntKind.wrap .i64 (start + r))) (2 ^ (min (1 : Int).toNat (IntKind.bits .u64))))), .int .i64 z5_22, ud, ud, ud, ud, ud, ud, ud, ud, ud, ud, ud, ud, ud, ud, ud, ud, ud, ud, ud, ud, ud, ud, ud, ud, ud, ud, ud, ud, ud, ud, ud, ud, ud, ud, ud, ud, ud, ud, ud, ud, ud, ud, ud, ud, ud, ud, ud, ud, ud, ud, ud, ud, ud, ud, ud, ud, ud, ud, ud, ud, ud, ud, ud, ud, ud, ud, ud, ud, ud, ud, ud, ud, ud, ud, ud, ud, ud, ud, ud, ud, ud, ud, ud, ud, ud, ud, ud, ud, ud, ud, ud, ud, ud, ud, ud, ud, ud, ud, ud, ud, ud, ud, ud, ud, ud, ud, ud, ud, ud, ud, ud, ud, ud, ud, ud, ud, ud, ud, ud, ud, ud, ud, ud, ud, ud, ud, ud, ud, ud, ud, ud, ud, ud, ud, ud, ud, ud, ud, ud, ud, ud, ud, ud, ud, ud, ud, ud, ud, ud, ud, ud, ud, ud, ud, ud, ud, ud, ud, ud, ud, ud, ud, ud, ud, ud, ud, ud, ud, ud, ud, ud, ud, ud, ud, ud, ud, ud, ud, ud, ud, ud, ud, ud, ud, ud, ud, ud, ud, ud, ud, ud, ud, ud, ud, ud, ud, ud] H7)) (R (.exit 8) [.slice data_a data_n data_e, .int .i64 a, .int .i64 m, .int .i64 b, .func (.func 174) #[] #[], ud, ud, ud, ud, ud, ud, ud, ud, ud, ud, ud, ud, ud, .int .i64 z5_18, .int .i64 z5_19, .int .i64 start, ud, ud, ud, ud, ud, ud, ud, ud, ud, ud, ud, ud, ud, ud, ud, ud, ud, ud, ud, ud, ud, ud, ud, ud, ud, ud, ud, ud, ud, ud, ud, ud, ud, ud, ud, ud, ud, ud, ud, ud, ud, ud, ud, ud, ud, ud, ud, ud, ud, ud, ud, ud, ud, ud, ud, ud, ud, ud, ud, ud, ud, ud, ud, ud, ud, ud, ud, ud, ud, ud, ud, ud, ud, ud, ud, ud, ud, ud, ud, ud, ud, ud, ud, ud, ud, ud, ud, ud, ud, ud, ud, ud, ud, ud, ud, ud, ud, ud, ud, ud, ud, ud, ud, ud, ud, ud, ud, ud, ud, ud, ud, ud, ud, ud, ud, ud, ud, ud, ud, ud, ud, ud, ud, ud, ud, ud, ud, ud, ud, ud, ud, ud, ud, ud, ud, ud, ud, ud, ud, ud, ud, ud, ud, ud, ud, ud, ud, ud, ud, ud, ud, ud, ud, ud, ud, ud, ud, ud, ud, ud, ud, ud, ud, ud, ud, ud, ud, ud, ud, ud, ud, ud, ud, ud, ud, ud, ud, ud, ud, ud, ud, ud, ud, ud, ud, ud, ud, ud, ud, ud, ud, ud, ud, ud, ud, ud, ud, ud, ud] H)) := by kernel_rfl
def slices_symMergeCmpFunc_float32_I5 (a : Int) (b : Int) (data_a : Option Addr) (data_e : Nat) (data_n : Nat) (m : Int) (z5_18 : Int) (z5_19 : Int) (z5_22 : Int) (Inv : Nat → Int → Int → AHeap → Prop) : Nat → List Value → AHeap → Prop := fun μ tm H => ∃ (start : Int), ∃ (r : Int), tm = (slices_symMergeCmpFunc_float32_P5 a b data_a data_e data_n m z5_18 z5_19 z5_22 start r) ∧ Inv μ start r H
theorem slices_symMergeCmpFunc_float32_L5 {ν0 : Nat} (a : Int) (b : Int) (data_a : Option Addr) (data_e : Nat) (data_n : Nat) (m : Int) (z5_18 : Int) (z5_19 : Int) (z5_22 : Int) {Q : Post} (Inv : Nat → Int → Int → AHeap → Prop) (ν : Nat) (start : Int) (r : Int)  (H : AHeap) (h0 : Inv ν start r H)
    (hs : ∀ (μ : Nat) (start : Int) (r : Int)  (H : AHeap), Inv μ start r H → exL Try.prog (E_slices_symMergeCmpFunc_float32 ν0) (cl (cl (cl (cr (cr (cr (cr (cr (cr (cr (bodyC Try.f227))))))))))) 8126495 0 [(8, 1835039)] (slices_symMergeCmpFunc_float32_P5 a b data_a data_e data_n m z5_18 z5_19 z5_22 start r) H (loopQ (slices_symMergeCmpFunc_float32_I5 a b data_a data_e data_n m z5_18 z5_19 z5_22 Inv) μ Q)) : loopK (exL Try.prog (E_slices_symMergeCmpFunc_float32 ν0) (cl (cl (cl (cr (cr (cr (cr (cr (cr (cr (bodyC Try.f227))))))))))) 8126495 0 [(8, 1835039)]) (slices_symMergeCmpFunc_float32_P5 a b data_a data_e data_n m z5_18 z5_19 z5_22 start r) H Q :=
  ⟨slices_symMergeCmpFunc_float32_I5 a b data_a data_e data_n m z5_18 z5_19 z5_22 Inv, ν, ⟨start, r, rfl, h0⟩, fun μ tm H h => by obtain ⟨start, r, rfl, hI⟩ := h; exact hs μ start r  H hI⟩
theorem slices_symMergeCmpFunc_float32_n5 {a : Int} {b : Int} {data_a : Option Addr} {data_e : Nat} {data_n : Nat} {m : Int} {z5_18 : Int} {z5_19 : Int} {z5_22 : Int} {Q : Post} {Inv : Nat → Int → Int → AHeap → Prop} {μ : Nat} (μ' : Nat) {start : Int} {r : Int}  {H : AHeap} (hm : μ' < μ) (hI : Inv μ' start r H) : loopQ (slices_symMergeCmpFunc_float32_I5 a b data_a data_e data_n m z5_18 z5_19 z5_22 Inv) μ Q .normal (slices_symMergeCmpFunc_float32_P5 a b data_a data_e data_n m z5_18 z5_19 z5_22 start r) H := ⟨μ', hm, start, r, rfl, hI⟩
theorem slices_symMergeCmpFunc_float32_x5_8 {ν0 : Nat} (a : Int) (b : Int) (data_a : Option Addr) (data_e : Nat) (data_n : Nat) (m : Int) (z5_18 : Int) (z5_19 : Int) (start : Int) (H : AHeap) (K : Value → AHeap → Prop)  {I : Nat → List Value → AHeap → Prop} {μ : Nat} : loopQ I μ (blockQ 8 (seqQ (exL Try.prog (E_slices_symMergeCmpFunc_float32 ν0) (cr (cr (cr (cr (cr (cr (cr (cr (bodyC Try.f227))))))))) 0 0 []) (retK Try.prog Try.f227 K))) (.exit 8) [.slice data_a data_n data_e, .int .i64 a, .int .i64 m, .int .i64 b, .func (.func 174) #[] #[], ud, ud, ud, ud, ud, ud, ud, ud, ud, ud, ud, ud, ud, .int .i64 z5_18, .int .i64 z5_19, .int .i64 start, ud, ud, ud, ud, ud, ud, ud, ud, ud, ud, ud, ud, ud, ud, ud, ud, ud, ud, ud, ud, ud, ud, ud, ud, ud, ud, ud, ud, ud, ud, ud, ud, ud, ud, ud, ud, ud, ud, ud, ud, ud, ud, ud, ud, ud, ud, ud, ud, ud, ud, ud, ud, ud, ud, ud, ud, ud, ud, ud, ud, ud, ud, ud, ud, ud, ud, ud, ud, ud, ud, ud, ud, ud, ud, ud, ud, ud, ud, ud, ud, ud, ud, ud, ud, ud, ud, ud, ud, ud, ud, ud, ud, ud, ud, ud, ud, ud, ud, ud, ud, ud, ud, ud, ud, ud, ud, ud, ud, ud, ud, ud, ud, ud, ud, ud, ud, ud, ud, ud, ud, ud, ud, ud, ud, ud, ud, ud, ud, ud, ud, ud, ud, ud, ud, ud, ud, ud, ud, ud, ud, ud, ud, ud, ud, ud, ud, ud, ud, ud, ud, ud, ud, ud, ud, ud, ud, ud, ud, ud, ud, ud, ud, ud, ud, ud, ud, ud, ud, ud, ud, ud, ud, ud, ud, ud, ud, ud, ud, ud, ud, ud, ud, ud, ud, ud, ud, ud, ud, ud, ud, ud, ud, ud, ud, ud, ud, ud, ud, ud] H =
  (Br (decide ((start : Int) < m)) (Br (decide ((m : Int) < IntKind.wrap .i64 (z5_19 - start))) (T_slices_rotateCmpFunc_float32 data_a data_n data_e start m (IntKind.wrap .i64 (z5_19 - start)) H fun  (H8 : AHeap) => Br (decide ((a : Int) < start)) (Br (decide ((start : Int) < z5_18)) (T_slices_symMergeCmpFunc_float32_n ν0 data_a data_n data_e a start z5_18 H8 fun  (H9 : AHeap) => Br (decide ((z5_18 : Int) < IntKind.wrap .i64 (z5_19 - start))) (Br (decide ((IntKind.wrap .i64 (z5_19 - start) : Int) < b)) (T_slices_symMergeCmpFunc_float32_n ν0 data_a data_n data_e z5_18 (IntKind.wrap .i64 (z5_19 - start)) b H9 fun  (H10 : AHeap) => K (.tuple #[]) H10) (K (.tuple #[]) H9)) (K (.tuple #[]) H9)) (Br (decide ((z5_18 : Int) < IntKind.wrap .i64 (z5_19 - start))) (Br (decide ((IntKind.wrap .i64 (z5_19 - start) : Int) < b)) (T_slices_symMergeCmpFunc_float32_n ν0 data_a data_n data_e z5_18 (IntKind.wrap .i64 (z5_19 - start)) b H8 fun  (H11 : AHeap) => K (.tuple #[]) H11) (K (.tuple #[]) H8)) (K (.tuple #[]) H8))) (Br (decide ((z5_18 : Int) < IntKind.wrap .i64 (z5_19 - start))) (Br (decide ((IntKind.wrap .i64 (z5_19 - start) : Int) < b)) (T_slices_symMergeCmpFunc_float32_n ν0 data_a data_n data_e z5_18 (IntKind.wrap .i64 (z5_19 - start)) b H8 fun  (H12 : AHeap) => K (.tuple #[]) H12) (K (.tuple #[]) H8)) (K (.tuple #[]) H8))) (Br (decide ((a : Int) < start)) (Br (decide ((start : Int) < z5_18)) (T_slices_symMergeCmpFunc_float32_n ν0 data_a data_n data_e a start z5_18 H fun  (H13 : AHeap) => Br (decide ((z5_18 : Int) < IntKind.wrap .i64 (z5_19 - start))) (Br (decide ((IntKind.wrap .i64 (z5_19 - start) : Int) < b)) (T_slices_symMergeCmpFunc_float32_n ν0 data_a data_n data_e z5_18 (IntKind.wrap .i64 (z5_19 - start)) b H13 fun  (H14 : AHeap) => K (.tuple #[]) H14) (K (.tuple #[]) H13)) (K (.tuple #[]) H13)) (Br (decide ((z5_18 : Int) < IntKind.wrap .i64 (z5_19 - start))) (Br (decide ((IntKind.wrap .i64 (z5_19 - start) : Int) < b)) (T_slices_symMergeCmpFunc_float32_n ν0 data_a data_n data_e z5_18 (IntKind.wrap .i64 (z5_19 - start)) b H fun  (H15 : AHeap) => K (.tuple #[]) H15) (K (.tuple #[]) H)) (K (.tuple #[]) H))) (Br (decide ((z5_18 : Int) < IntKind.wrap .i64 (z5_19 - start))) (Br (decide ((IntKind.wrap .i64 (z5_19 - start) : Int) < b)) (T_slices_symMergeCmpFunc_float32_n ν0 data_a data_n data_e z5_18 (IntKind.wrap .i64 (z5_19 - start)) b H fun  (H16 : AHeap) => K (.tuple #[]) H16) (K (.tuple #[]) H)) (K (.tuple #[]) H)))) (Br (decide ((a : Int) < start)) (Br (decide ((start : Int) < z5_18)) (T_slices_symMergeCmpFunc_float32_n ν0 data_a data_n data_e a start z5_18 H fun  (H17 : AHeap) => Br (decide ((z5_18 : Int) < IntKind.wrap .i64 (z5_19 - start))) (Br (decide ((IntKind.wrap .i64 (z5_19 - start) : Int) < b)) (T_slices_symMergeCmpFunc_float32_n ν0 data_a data_n data_e z5_18 (IntKind.wrap .i64 (z5_19 - start)) b H17 fun  (H18 : AHeap) => K (.tuple #[]) H18) (K (.tuple #[]) H17)) (K (.tuple #[]) H17)) (Br (decide ((z5_18 : Int) < IntKind.wrap .i64 (z5_19 - start))) (Br (decide ((IntKind.wrap .i64 (z5_19 - start) : Int) < b)) (T_slices_symMergeCmpFunc_float32_n ν0 data_a data_n data_e z5_18 (IntKind.wrap .i64 (z5_19 - start)) b H fun  (H19 : AHeap) => K (.tuple #[]) H19) (K (.tuple #[]) H)) (K (.tuple #[]) H))) (Br (decide ((z5_18 : Int) < IntKind.wrap .i64 (z5_19 - start))) (Br (decide ((IntKind.wrap .i64 (z5_19 - start) : Int) < b)) (T_slices_symMergeCmpFunc_float32_n ν0 data_a data_n data_e z5_18 (IntKind.wrap .i64 (z5_19 - start)) b H fun  (H20 : AHeap) => K (.tuple #[]) H20) (K (.tuple #[]) H)) (K (.tuple #[]) H)))) := by kernel_rfl
theorem E_slices_symMergeCmpFunc_float32_ok (ν : Nat) (ih : FnOk Try.prog 227 (S_slices_symMergeCmpFunc_float32_n ν)) : ∀ g, FnOk Try.prog g (E_slices_symMergeCmpFunc_float32 ν g) := FnOk.envOf (by
  intro x hx
  simp only [List.mem_cons, List.not_mem_nil, or_false] at hx
  rcases hx with rfl | rfl | rfl | rfl
  · exact quietMark_ok _
  · exact cmp_Compare_float32_ok
  · exact slices_rotateCmpFunc_float32_ok
  · exact ih)
set_option maxHeartbeats 1000000 in
theorem slices_symMergeCmpFunc_float32_main {ν0 : Nat} (data_a : Option Addr) (data_n : Nat) (data_e : Nat) (a : Int) (m : Int) (b : Int) (H : AHeap) (K : Value → AHeap → Prop) (h : T_slices_symMergeCmpFunc_float32_n (ν0 + 1) data_a data_n data_e a m b H fun  (H' : AHeap) => K (.tuple #[]) H') : bodyL Try.prog (E_slices_symMergeCmpFunc_float32 ν0) Try.f227 [.slice data_a data_n data_e, .int .i64 a, .int .i64 m, .int .i64 b, .func (.func 174) #[] #[]] H K := by
  rw [slices_symMergeCmpFunc_float32_vc]
  obtain ⟨lo, l_data, i_data, bd_344, pr0, pr1, pr2, pr3, pr4, hk⟩ := h
  obtain rfl := i_data.len
  have up_m := i_data.up
  have lo_m := i_data.lo
  rw [rsymM_eq ν0 l_data a m b (by assumption) (by assumption) (by assumption)] at hk
  have e : (p_slices_symMergeCmpFunc_float32 ν0 l_data a m b) = _ := rfl
  have e := e.trans (p_slices_symMergeCmpFunc_float32_eq ν0 l_data a m b)
  have g0 := KeepA.refl data_a H
  rw [show IntKind.wrap .i64 (m - a) = (m - a) from wrap64 ω3 ω3]
  refine Br.intro (fun c_1 => ?_) (fun c_1 => ?_)
  · have e := e.trans (cond_t c_1)
    have c_1' := ieq_t c_1
    refine slices_symMergeCmpFunc_float32_L1 _ _ _ _ (fun (μ : Nat) (i : Int) (j : Int) (H_1 : AHeap) => ∃ (y1_1 : List Nat), OwnS fF H_1 lo data_a l_data.length data_e y1_1 ∧ y1_1.length = (l_data).length ∧ H.length ≤ H_1.length ∧ KeepA data_a H H_1 ∧ m ≤ i ∧ i ≤ j ∧ j ≤ b ∧ j - i ≤ (μ : Int) ∧ p_slices_symMergeCmpFunc_float32 ν0 l_data a m b = p_slices_symMergeCmpFunc_float32_l1 ν0 l_data a m b (μ + 1) i j y1_1) (Int.toNat (b - m)) _ _ H ?_ ?_
    · exact ⟨_, i_data, ω11, ω3, g0, ω5, ω5, ω5, ω3, e⟩
    · intro μ i j  H_1 hI
      obtain ⟨y1_1, r_2, y_3, n_4, g_5, v_6, v_7, v_8, hμ, e⟩ := hI
      rw [slices_symMergeCmpFunc_float32_r1]
      have e := e.trans (p_slices_symMergeCmpFunc_float32_l1_s ν0 l_data a m b μ i j y1_1)
      have l_9 := g_5.1
      refine Br.intro (fun c_10 => ?_) (fun c_10 => ?_)
      · have e := e.trans (cond_t c_10)
        have c_10' := of_decide_eq_true c_10
        rw [show IntKind.wrap .i64 (i + j) = (i + j) from wrap64 ω3 ω3]
        refine ⟨by decide, ?_⟩
        rw [shr1 (x := (i + j)) ω3 ω3]
        rw [show IntKind.wrap .i64 ((i + j) / 2) = ((i + j) / 2) from wrap64 ω3 ω3]
        obtain ⟨b_11, f_12, q_13⟩ := (r_2.isL).pos ω0
        refine ⟨by omega, by omega, b_11, f_12, q_13, ?_⟩
        refine ⟨((y1_1).getD (((i + j) / 2) : Int).toNat 0), (r_2.isL).rd (Grow.refl _) q_13 ω3 _, ?_⟩
        obtain ⟨b_14, f_15, q_16⟩ := (r_2.isL).pos ω0
        refine ⟨by omega, by omega, b_14, f_15, q_16, ?_⟩
        refine ⟨((y1_1).getD (a : Int).toNat 0), (r_2.isL).rd (Grow.refl _) q_16 ω3 _, ?_⟩
        refine T_cmp_Compare_float32_i ?_
        refine Br.intro (fun c_17 => ?_) (fun c_17 => ?_)
        · have e := e.trans (cond_t c_17)
          have c_17' := of_decide_eq_true c_17
          rw [show IntKind.wrap .i64 ((((i + j) / 2)) + 1) = ((((i + j) / 2)) + 1) from wrap64 ω3 ω3]
          refine slices_symMergeCmpFunc_float32_n1 (μ - 1) ω8 ⟨_, r_2, ω6, ω3, g_5, ω1, ω1, ω1, ω8, (by rw [show μ - 1 + 1 = μ from by first | omega]; exact e)⟩
        · have e := e.trans (cond_f c_17)
          have c_17' := of_decide_eq_false c_17
          refine slices_symMergeCmpFunc_float32_n1 (μ - 1) ω8 ⟨_, r_2, ω6, ω3, g_5, ω1, ω1, ω1, ω8, (by rw [show μ - 1 + 1 = μ from by first | omega]; exact e)⟩
      · have e := e.trans (cond_f c_10)
        have c_10' := of_decide_eq_false c_10
        rw [slices_symMergeCmpFunc_float32_x1_0]
        refine slices_symMergeCmpFunc_float32_L2 _ _ _ _ (fun (μ2 : Nat) (k : Int) (H_2 : AHeap) => ∃ (y2_1 : List Nat), OwnS fF H_2 lo data_a l_data.length data_e y2_1 ∧ y2_1.length = (l_data).length ∧ H.length ≤ H_2.length ∧ KeepA data_a H H_2 ∧ a ≤ k ∧ k ≤ i ∧ i - k ≤ (μ2 : Int) ∧ p_slices_symMergeCmpFunc_float32 ν0 l_data a m b = p_slices_symMergeCmpFunc_float32_l2 ν0 l_data a m b i j y1_1 (fun (k : Int) (y2_1 : List Nat) => y2_1) (μ2 + 1) k y2_1) (Int.toNat (i - a)) _ H_1 ?_ ?_
        · exact ⟨_, r_2, ω11, ω3, g_5, ω5, ω5, ω3, e⟩
        · intro μ2 k  H_2 hI
          obtain ⟨y2_1, r_18, y_19, n_20, g_21, v_22, v_23, hμ, e⟩ := hI
          rw [slices_symMergeCmpFunc_float32_r2]
          have e := e.trans (p_slices_symMergeCmpFunc_float32_l2_s ν0 l_data a m b i j y1_1 (fun (k : Int) (y2_1 : List Nat) => y2_1) μ2 k y2_1)
          have l_24 := g_21.1
          rw [show IntKind.wrap .i64 (i - 1) = (i - 1) from wrap64 ω3 ω3]
          refine Br.intro (fun c_25 => ?_) (fun c_25 => ?_)
          · have e := e.trans (cond_t c_25)
            have c_25' := of_decide_eq_true c_25
            rw [show IntKind.wrap .i64 (k + 1) = (k + 1) from wrap64 ω3 ω3]
            obtain ⟨b_26, f_27, q_28⟩ := (r_18.isL).pos ω0
            refine ⟨by omega, by omega, b_26, f_27, q_28, ?_⟩
            refine ⟨((y2_1).getD ((k + 1) : Int).toNat 0), (r_18.isL).rd (Grow.refl _) q_28 ω3 _, ?_⟩
            obtain ⟨b_29, f_30, q_31⟩ := (r_18.isL).pos ω0
            refine ⟨by omega, by omega, b_29, f_30, q_31, ?_⟩
            refine ⟨((y2_1).getD (k : Int).toNat 0), (r_18.isL).rd (Grow.refl _) q_31 ω3 _, ?_⟩
            obtain ⟨b_32, f_33, q_34⟩ := (r_18.isL).pos ω0
            refine ⟨by omega, by omega, b_32, f_33, q_34, ?_⟩
            refine Lt.setS r_18 q_34 ω4 (fun H_3 hl_35 o_37 k_36 => ?_)
            have l_38 := k_36.1
            have g_39 := g_21.transA k_36
            have l_40 := g_39.1
            obtain ⟨b_41, f_42, q_43⟩ := (o_37.isL).pos ω0
            refine ⟨by omega, by omega, b_41, f_42, q_43, ?_⟩
            refine Lt.setS o_37 q_43 ω4 (fun H_4 hl_44 o_46 k_45 => ?_)
            have l_47 := k_45.1
            have g_48 := g_39.transA k_45
            have l_49 := g_48.1
            refine slices_symMergeCmpFunc_float32_n2 (μ2 - 1) ω8 ⟨_, o_46, ω6, ω3, g_48, ω1, ω1, ω8, (by rw [show μ2 - 1 + 1 = μ2 from by first | omega]; exact e)⟩
          · have e := e.trans (cond_f c_25)
            have c_25' := of_decide_eq_false c_25
            rw [slices_symMergeCmpFunc_float32_x2_2]
            rw [e] at hk
            exact hk H_2 g_21 r_18
  · have e := e.trans (cond_f c_1)
    have c_1' := ieq_f c_1
    rw [show IntKind.wrap .i64 (b - m) = (b - m) from wrap64 ω3 ω3]
    refine Br.intro (fun c_50 => ?_) (fun c_50 => ?_)
    · have e := e.trans (cond_t c_50)
      have c_50' := ieq_t c_50
      refine slices_symMergeCmpFunc_float32_L3 _ _ _ _ (fun (μ : Nat) (i_14 : Int) (j_15 : Int) (H_5 : AHeap) => ∃ (y3_1 : List Nat), OwnS fF H_5 lo data_a l_data.length data_e y3_1 ∧ y3_1.length = (l_data).length ∧ H.length ≤ H_5.length ∧ KeepA data_a H H_5 ∧ a ≤ i_14 ∧ i_14 ≤ j_15 ∧ j_15 ≤ m ∧ j_15 - i_14 ≤ (μ : Int) ∧ p_slices_symMergeCmpFunc_float32 ν0 l_data a m b = p_slices_symMergeCmpFunc_float32_l3 ν0 l_data a m b (μ + 1) i_14 j_15 y3_1) (Int.toNat (m - a)) _ _ H ?_ ?_
      · exact ⟨_, i_data, ω11, ω3, g0, ω5, ω5, ω5, ω3, e⟩
      · intro μ i_14 j_15  H_5 hI
        obtain ⟨y3_1, r_51, y_52, n_53, g_54, v_55, v_56, v_57, hμ, e⟩ := hI
        rw [slices_symMergeCmpFunc_float32_r3]
        have e := e.trans (p_slices_symMergeCmpFunc_float32_l3_s ν0 l_data a m b μ i_14 j_15 y3_1)
        have l_58 := g_54.1
        refine Br.intro (fun c_59 => ?_) (fun c_59 => ?_)
        · have e := e.trans (cond_t c_59)
          have c_59' := of_decide_eq_true c_59
          rw [show IntKind.wrap .i64 (i_14 + j_15) = (i_14 + j_15) from wrap64 ω3 ω3]
          refine ⟨by decide, ?_⟩
          rw [shr1 (x := (i_14 + j_15)) ω3 ω3]
          rw [show IntKind.wrap .i64 ((i_14 + j_15) / 2) = ((i_14 + j_15) / 2) from wrap64 ω3 ω3]
          obtain ⟨b_60, f_61, q_62⟩ := (r_51.isL).pos ω0
          refine ⟨by omega, by omega, b_60, f_61, q_62, ?_⟩
          refine ⟨((y3_1).getD (m : Int).toNat 0), (r_51.isL).rd (Grow.refl _) q_62 ω3 _, ?_⟩
          obtain ⟨b_63, f_64, q_65⟩ := (r_51.isL).pos ω0
          refine ⟨by omega, by omega, b_63, f_64, q_65, ?_⟩
          refine ⟨((y3_1).getD (((i_14 + j_15) / 2) : Int).toNat 0), (r_51.isL).rd (Grow.refl _) q_65 ω3 _, ?_⟩
          refine T_cmp_Compare_float32_i ?_
          refine Br.intro (fun c_66 => ?_) (fun c_66 => ?_)
          · have e := e.trans (cond_t c_66)
            have c_66n := nf_of_t c_66
            have c_66n' := of_decide_eq_false c_66n
            rw [show IntKind.wrap .i64 ((((i_14 + j_15) / 2)) + 1) = ((((i_14 + j_15) / 2)) + 1) from wrap64 ω3 ω3]
            refine slices_symMergeCmpFunc_float32_n3 (μ - 1) ω8 ⟨_, r_51, ω6, ω3, g_54, ω1, ω1, ω1, ω8, (by rw [show μ - 1 + 1 = μ from by first | omega]; exact e)⟩
          · have e := e.trans (cond_f c_66)
            have c_66n := nt_of_f c_66
            have c_66n' := of_decide_eq_true c_66n
            refine slices_symMergeCmpFunc_float32_n3 (μ - 1) ω8 ⟨_, r_51, ω6, ω3, g_54, ω1, ω1, ω1, ω8, (by rw [show μ - 1 + 1 = μ from by first | omega]; exact e)⟩
        · have e := e.trans (cond_f c_59)
          have c_59' := of_decide_eq_false c_59
          rw [slices_symMergeCmpFunc_float32_x3_4]
          refine slices_symMergeCmpFunc_float32_L4 _ _ _ _ (fun (μ4 : Nat) (k_17 : Int) (H_6 : AHeap) => ∃ (y4_1 : List Nat), OwnS fF H_6 lo data_a l_data.length data_e y4_1 ∧ y4_1.length = (l_data).length ∧ H.length ≤ H_6.length ∧ KeepA data_a H H_6 ∧ i_14 ≤ k_17 ∧ k_17 ≤ m ∧ k_17 - i_14 ≤ (μ4 : Int) ∧ p_slices_symMergeCmpFunc_float32 ν0 l_data a m b = p_slices_symMergeCmpFunc_float32_l4 ν0 l_data a m b i_14 j_15 y3_1 (fun (k_17 : Int) (y4_1 : List Nat) => y4_1) (μ4 + 1) k_17 y4_1) (Int.toNat (m - i_14)) _ H_5 ?_ ?_
          · exact ⟨_, r_51, ω11, ω3, g_54, ω5, ω5, ω3, e⟩
          · intro μ4 k_17  H_6 hI
            obtain ⟨y4_1, r_67, y_68, n_69, g_70, v_71, v_72, hμ, e⟩ := hI
            rw [slices_symMergeCmpFunc_float32_r4]
            have e := e.trans (p_slices_symMergeCmpFunc_float32_l4_s ν0 l_data a m b i_14 j_15 y3_1 (fun (k_17 : Int) (y4_1 : List Nat) => y4_1) μ4 k_17 y4_1)
            have l_73 := g_70.1
            refine Br.intro (fun c_74 => ?_) (fun c_74 => ?_)
            · have e := e.trans (cond_t c_74)
              have c_74' := of_decide_eq_true c_74
              rw [show IntKind.wrap .i64 (k_17 - 1) = (k_17 - 1) from wrap64 ω3 ω3]
              obtain ⟨b_75, f_76, q_77⟩ := (r_67.isL).pos ω0
              refine ⟨by omega, by omega, b_75, f_76, q_77, ?_⟩
              refine ⟨((y4_1).getD ((k_17 - 1) : Int).toNat 0), (r_67.isL).rd (Grow.refl _) q_77 ω3 _, ?_⟩
              obtain ⟨b_78, f_79, q_80⟩ := (r_67.isL).pos ω0
              refine ⟨by omega, by omega, b_78, f_79, q_80, ?_⟩
              refine ⟨((y4_1).getD (k_17 : Int).toNat 0), (r_67.isL).rd (Grow.refl _) q_80 ω3 _, ?_⟩
              obtain ⟨b_81, f_82, q_83⟩ := (r_67.isL).pos ω0
              refine ⟨by omega, by omega, b_81, f_82, q_83, ?_⟩
              refine Lt.setS r_67 q_83 ω4 (fun H_7 hl_84 o_86 k_85 => ?_)
              have l_87 := k_85.1
              have g_88 := g_70.transA k_85
              have l_89 := g_88.1
              obtain ⟨b_90, f_91, q_92⟩ := (o_86.isL).pos ω0
              refine ⟨by omega, by omega, b_90, f_91, q_92, ?_⟩
              refine Lt.setS o_86 q_92 ω4 (fun H_8 hl_93 o_95 k_94 => ?_)
              have l_96 := k_94.1
              have g_97 := g_88.transA k_94
              have l_98 := g_97.1
              refine slices_symMergeCmpFunc_float32_n4 (μ4 - 1) ω8 ⟨_, o_95, ω6, ω3, g_97, ω1, ω1, ω8, (by rw [show μ4 - 1 + 1 = μ4 from by first | omega]; exact e)⟩
            · have e := e.trans (cond_f c_74)
              have c_74' := of_decide_eq_false c_74
              rw [slices_symMergeCmpFunc_float32_x4_6]
              rw [e] at hk
              exact hk H_6 g_70 r_67
    · have e := e.trans (cond_f c_50)
      have c_50' := ieq_f c_50
      rw [show IntKind.wrap .i64 (a + b) = (a + b) from wrap64 ω3 ω3]
      refine ⟨by decide, ?_⟩
      rw [shr1 (x := (a + b)) ω3 ω3]
      rw [show IntKind.wrap .i64 ((a + b) / 2) = ((a + b) / 2) from wrap64 ω3 ω3]
      rw [show IntKind.wrap .i64 ((((a + b) / 2)) + m) = ((((a + b) / 2)) + m) from wrap64 ω3 ω3]
      refine Br.intro (fun c_99 => ?_) (fun c_99 => ?_)
      · have e := e.trans (cond_t c_99)
        have c_99' := of_decide_eq_true c_99
        rw [show IntKind.wrap .i64 ((((((a + b) / 2)) + m)) - b) = ((((((a + b) / 2)) + m)) - b) from wrap64 ω3 ω3]
        rw [show IntKind.wrap .i64 ((((((a + b) / 2)) + m)) - 1) = ((((((a + b) / 2)) + m)) - 1) from wrap64 ω3 ω3]
        refine slices_symMergeCmpFunc_float32_L5 _ _ _ _ _ _ _ _ _ (fun (μ : Nat) (start : Int) (r : Int) (H_9 : AHeap) => ∃ (y5_1 : List Nat), OwnS fF H_9 lo data_a l_data.length data_e y5_1 ∧ y5_1.length = (l_data).length ∧ H.length ≤ H_9.length ∧ KeepA data_a H H_9 ∧ a ≤ start ∧ start ≤ r ∧ r ≤ m ∧ r ≤ (a + b) / 2 ∧ (a + b) / 2 + m - b ≤ start ∧ r - start ≤ (μ : Int) ∧ p_slices_symMergeCmpFunc_float32 ν0 l_data a m b = p_slices_symMergeCmpFunc_float32_l5 ν0 l_data a m b (μ + 1) start r y5_1) (Int.toNat (((((a + b) / 2))) - ((((((((a + b) / 2)) + m)) - b))))) _ _ H ?_ ?_
        · exact ⟨_, i_data, ω11, ω3, g0, ω5, ω5, ω5, ω5, ω5, ω3, e⟩
        · intro μ start r  H_9 hI
          obtain ⟨y5_1, r_100, y_101, n_102, g_103, v_104, v_105, v_106, v_107, v_108, hμ, e⟩ := hI
          rw [slices_symMergeCmpFunc_float32_r5]
          have e := e.trans (p_slices_symMergeCmpFunc_float32_l5_s ν0 l_data a m b μ start r y5_1)
          have l_109 := g_103.1
          refine Br.intro (fun c_110 => ?_) (fun c_110 => ?_)
          · have e := e.trans (cond_t c_110)
            have c_110' := of_decide_eq_true c_110
            rw [show IntKind.wrap .i64 (start + r) = (start + r) from wrap64 ω3 ω3]
            refine ⟨by decide, ?_⟩
            rw [shr1 (x := (start + r)) ω3 ω3]
            rw [show IntKind.wrap .i64 ((start + r) / 2) = ((start + r) / 2) from wrap64 ω3 ω3]
            rw [show IntKind.wrap .i64 ((((((((a + b) / 2)) + m)) - 1)) - (((start + r) / 2))) = ((((((((a + b) / 2)) + m)) - 1)) - (((start + r) / 2))) from wrap64 ω3 ω3]
            obtain ⟨b_111, f_112, q_113⟩ := (r_100.isL).pos ω0
            refine ⟨by omega, by omega, b_111, f_112, q_113, ?_⟩
            refine ⟨((y5_1).getD (((((((((a + b) / 2)) + m)) - 1)) - (((start + r) / 2))) : Int).toNat 0), (r_100.isL).rd (Grow.refl _) q_113 ω3 _, ?_⟩
            obtain ⟨b_114, f_115, q_116⟩ := (r_100.isL).pos ω0
            refine ⟨by omega, by omega, b_114, f_115, q_116, ?_⟩
            refine ⟨((y5_1).getD (((start + r) / 2) : Int).toNat 0), (r_100.isL).rd (Grow.refl _) q_116 ω3 _, ?_⟩
            refine T_cmp_Compare_float32_i ?_
            refine Br.intro (fun c_117 => ?_) (fun c_117 => ?_)
            · have e := e.trans (cond_t c_117)
              have c_117n := nf_of_t c_117
              have c_117n' := of_decide_eq_false c_117n
              rw [show IntKind.wrap .i64 ((((start + r) / 2)) + 1) = ((((start + r) / 2)) + 1) from wrap64 ω3 ω3]
              refine slices_symMergeCmpFunc_float32_n5 (μ - 1) ω8 ⟨_, r_100, ω6, ω3, g_103, ω1, ω1, ω1, ω1, ω1, ω8, (by rw [show μ - 1 + 1 = μ from by first | omega]; exact e)⟩
            · have e := e.trans (cond_f c_117)
              have c_117n := nt_of_f c_117
              have c_117n' := of_decide_eq_true c_117n
              refine slices_symMergeCmpFunc_float32_n5 (μ - 1) ω8 ⟨_, r_100, ω6, ω3, g_103, ω1, ω1, ω1, ω1, ω1, ω8, (by rw [show μ - 1 + 1 = μ from by first | omega]; exact e)⟩
          · have e := e.trans (cond_f c_110)
            have c_110' := of_decide_eq_false c_110
            rw [slices_symMergeCmpFunc_float32_x5_8]
            rw [show IntKind.wrap .i64 ((((((a + b) / 2)) + m)) - start) = ((((((a + b) / 2)) + m)) - start) from wrap64 ω3 ω3]
            refine Br.intro (fun c_118 => ?_) (fun c_118 => ?_)
            · have e := e.trans (cond_t c_118)
              have c_118' := of_decide_eq_true c_118
              refine Br.intro (fun c_119 => ?_) (fun c_119 => ?_)
              · have e := e.trans (cond_t c_119)
                have c_119' := of_decide_eq_true c_119
                refine T_slices_rotateCmpFunc_float32_i ⟨_, _, r_100, ω0, ω2, ω2, ω2, ω2, (fun H_10 k_121 o_122 => ?_)⟩
                have z_120 := slices_rotate_len y5_1 start m (((((((a + b) / 2)) + m)) - start)) ω3 ω3 ω3
                have l_123 := k_121.1
                have g_124 := g_103.transA k_121
                have l_125 := g_124.1
                refine Br.intro (fun c_126 => ?_) (fun c_126 => ?_)
                · have e := e.trans (cond_t c_126)
                  have c_126' := of_decide_eq_true c_126
                  refine Br.intro (fun c_127 => ?_) (fun c_127 => ?_)
                  · have e := e.trans (cond_t c_127)
                    have c_127' := of_decide_eq_true c_127
                    refine T_slices_symMergeCmpFunc_float32_n_i ⟨_, _, o_122, ω0, ω2, ω2, ω2, ω2, ω2, (fun H_11 k_129 o_130 => ?_)⟩
                    have z_128 := rsymM_len ν0 ((p_slices_rotateCmpFunc_float32 y5_1 start m (((((((a + b) / 2)) + m)) - start)))) a start (((a + b) / 2))
                    have l_131 := k_129.1
                    have g_132 := g_124.transA k_129
                    have l_133 := g_132.1
                    refine Br.intro (fun c_134 => ?_) (fun c_134 => ?_)
                    · have e := e.trans (cond_t c_134)
                      have c_134' := of_decide_eq_true c_134
                      refine Br.intro (fun c_135 => ?_) (fun c_135 => ?_)
                      · have e := e.trans (cond_t c_135)
                        have c_135' := of_decide_eq_true c_135
                        refine T_slices_symMergeCmpFunc_float32_n_i ⟨_, _, o_130, ω0, ω2, ω2, ω2, ω2, ω2, (fun H_12 k_137 o_138 => ?_)⟩
                        have z_136 := rsymM_len ν0 ((rsymM ν0 ((p_slices_rotateCmpFunc_float32 y5_1 start m (((((((a + b) / 2)) + m)) - start)))) a start (((a + b) / 2)))) (((a + b) / 2)) (((((((a + b) / 2)) + m)) - start)) b
                        have l_139 := k_137.1
                        have g_140 := g_132.transA k_137
                        have l_141 := g_140.1
                        rw [e] at hk
                        exact hk H_12 g_140 o_138
                      · have e := e.trans (cond_f c_135)
                        have c_135' := of_decide_eq_false c_135
                        rw [e] at hk
                        exact hk H_11 g_132 o_130
                    · have e := e.trans (cond_f c_134)
                      have c_134' := of_decide_eq_false c_134
                      rw [e] at hk
                      exact hk H_11 g_132 o_130
                  · have e := e.trans (cond_f c_127)
                    have c_127' := of_decide_eq_false c_127
                    refine Br.intro (fun c_142 => ?_) (fun c_142 => ?_)
                    · have e := e.trans (cond_t c_142)
                      have c_142' := of_decide_eq_true c_142
                      refine Br.intro (fun c_143 => ?_) (fun c_143 => ?_)
                      · have e := e.trans (cond_t c_143)
                        have c_143' := of_decide_eq_true c_143
                        refine T_slices_symMergeCmpFunc_float32_n_i ⟨_, _, o_122, ω0, ω2, ω2, ω2, ω2, ω2, (fun H_13 k_145 o_146 => ?_)⟩
                        have z_144 := rsymM_len ν0 ((p_slices_rotateCmpFunc_float32 y5_1 start m (((((((a + b) / 2)) + m)) - start)))) (((a + b) / 2)) (((((((a + b) / 2)) + m)) - start)) b
                        have l_147 := k_145.1
                        have g_148 := g_124.transA k_145
                        have l_149 := g_148.1
                        rw [e] at hk
                        exact hk H_13 g_148 o_146
                      · have e := e.trans (cond_f c_143)
                        have c_143' := of_decide_eq_false c_143
                        rw [e] at hk
                        exact hk H_10 g_124 o_122
                    · have e := e.trans (cond_f c_142)
                      have c_142' := of_decide_eq_false c_142
                      rw [e] at hk
                      exact hk H_10 g_124 o_122
                · have e := e.trans (cond_f c_126)
                  have c_126' := of_decide_eq_false c_126
                  refine Br.intro (fun c_150 => ?_) (fun c_150 => ?_)
                  · have e := e.trans (cond_t c_150)
                    have c_150' := of_decide_eq_true c_150
                    refine Br.intro (fun c_151 => ?_) (fun c_151 => ?_)
                    · have e := e.trans (cond_t c_151)
                      have c_151' := of_decide_eq_true c_151
                      refine T_slices_symMergeCmpFunc_float32_n_i ⟨_, _, o_122, ω0, ω2, ω2, ω2, ω2, ω2, (fun H_14 k_153 o_154 => ?_)⟩
                      have z_152 := rsymM_len ν0 ((p_slices_rotateCmpFunc_float32 y5_1 start m (((((((a + b) / 2)) + m)) - start)))) (((a + b) / 2)) (((((((a + b) / 2)) + m)) - start)) b
                      have l_155 := k_153.1
                      have g_156 := g_124.transA k_153
                      have l_157 := g_156.1
                      rw [e] at hk
                      exact hk H_14 g_156 o_154
                    · have e := e.trans (cond_f c_151)
                      have c_151' := of_decide_eq_false c_151
                      rw [e] at hk
                      exact hk H_10 g_124 o_122
                  · have e := e.trans (cond_f c_150)
                    have c_150' := of_decide_eq_false c_150
                    rw [e] at hk
                    exact hk H_10 g_124 o_122
              · have e := e.trans (cond_f c_119)
                have c_119' := of_decide_eq_false c_119
                refine Br.intro (fun c_158 => ?_) (fun c_158 => ?_)
                · have e := e.trans (cond_t c_158)
                  have c_158' := of_decide_eq_true c_158
                  refine Br.intro (fun c_159 => ?_) (fun c_159 => ?_)
                  · have e := e.trans (cond_t c_159)
                    have c_159' := of_decide_eq_true c_159
                    refine T_slices_symMergeCmpFunc_float32_n_i ⟨_, _, r_100, ω0, ω2, ω2, ω2, ω2, ω2, (fun H_15 k_161 o_162 => ?_)⟩
                    have z_160 := rsymM_len ν0 y5_1 a start (((a + b) / 2))
                    have l_163 := k_161.1
                    have g_164 := g_103.transA k_161
                    have l_165 := g_164.1
                    refine Br.intro (fun c_166 => ?_) (fun c_166 => ?_)
                    · have e := e.trans (cond_t c_166)
                      have c_166' := of_decide_eq_true c_166
                      refine Br.intro (fun c_167 => ?_) (fun c_167 => ?_)
                      · have e := e.trans (cond_t c_167)
                        have c_167' := of_decide_eq_true c_167
                        refine T_slices_symMergeCmpFunc_float32_n_i ⟨_, _, o_162, ω0, ω2, ω2, ω2, ω2, ω2, (fun H_16 k_169 o_170 => ?_)⟩
                        have z_168 := rsymM_len ν0 ((rsymM ν0 y5_1 a start (((a + b) / 2)))) (((a + b) / 2)) (((((((a + b) / 2)) + m)) - start)) b
                        have l_171 := k_169.1
                        have g_172 := g_164.transA k_169
                        have l_173 := g_172.1
                        rw [e] at hk
                        exact hk H_16 g_172 o_170
                      · have e := e.trans (cond_f c_167)
                        have c_167' := of_decide_eq_false c_167
                        rw [e] at hk
                        exact hk H_15 g_164 o_162
                    · have e := e.trans (cond_f c_166)
                      have c_166' := of_decide_eq_false c_166
                      rw [e] at hk
                      exact hk H_15 g_164 o_162
                  · have e := e.trans (cond_f c_159)
                    have c_159' := of_decide_eq_false c_159
                    refine Br.intro (fun c_174 => ?_) (fun c_174 => ?_)
                    · have e := e.trans (cond_t c_174)
                      have c_174' := of_decide_eq_true c_174
                      refine Br.intro (fun c_175 => ?_) (fun c_175 => ?_)
                      · have e := e.trans (cond_t c_175)
                        have c_175' := of_decide_eq_true c_175
                        refine T_slices_symMergeCmpFunc_float32_n_i ⟨_, _, r_100, ω0, ω2, ω2, ω2, ω2, ω2, (fun H_17 k_177 o_178 => ?_)⟩
                        have z_176 := rsymM_len ν0 y5_1 (((a + b) / 2)) (((((((a + b) / 2)) + m)) - start)) b
                        have l_179 := k_177.1
                        have g_180 := g_103.transA k_177
                        have l_181 := g_180.1
                        rw [e] at hk
                        exact hk H_17 g_180 o_178
                      · have e := e.trans (cond_f c_175)
                        have c_175' := of_decide_eq_false c_175
                        rw [e] at hk
                        exact hk H_9 g_103 r_100
                    · have e := e.trans (cond_f c_174)
                      have c_174' := of_decide_eq_false c_174
                      rw [e] at hk
                      exact hk H_9 g_103 r_100
                · have e := e.trans (cond_f c_158)
                  have c_158' := of_decide_eq_false c_158
                  refine Br.intro (fun c_182 => ?_) (fun c_182 => ?_)
                  · have e := e.trans (cond_t c_182)
                    have c_182' := of_decide_eq_true c_182
                    refine Br.intro (fun c_183 => ?_) (fun c_183 => ?_)
                    · have e := e.trans (cond_t c_183)
                      have c_183' := of_decide_eq_true c_183
                      refine T_slices_symMergeCmpFunc_float32_n_i ⟨_, _, r_100, ω0, ω2, ω2, ω2, ω2, ω2, (fun H_18 k_185 o_186 => ?_)⟩
                      have z_184 := rsymM_len ν0 y5_1 (((a + b) / 2)) (((((((a + b) / 2)) + m)) - start)) b
                      have l_187 := k_185.1
                      have g_188 := g_103.transA k_185
                      have l_189 := g_188.1
                      rw [e] at hk
                      exact hk H_18 g_188 o_186
                    · have e := e.trans (cond_f c_183)
                      have c_183' := of_decide_eq_false c_183
                      rw [e] at hk
                      exact hk H_9 g_103 r_100
                  · have e := e.trans (cond_f c_182)
                    have c_182' := of_decide_eq_false c_182
                    rw [e] at hk
                    exact hk H_9 g_103 r_100
            · have e := e.trans (cond_f c_118)
              have c_118' := of_decide_eq_false c_118
              refine Br.intro (fun c_190 => ?_) (fun c_190 => ?_)
              · have e := e.trans (cond_t c_190)
                have c_190' := of_decide_eq_true c_190
                refine Br.intro (fun c_191 => ?_) (fun c_191 => ?_)
                · have e := e.trans (cond_t c_191)
                  have c_191' := of_decide_eq_true c_191
                  refine T_slices_symMergeCmpFunc_float32_n_i ⟨_, _, r_100, ω0, ω2, ω2, ω2, ω2, ω2, (fun H_19 k_193 o_194 => ?_)⟩
                  have z_192 := rsymM_len ν0 y5_1 a start (((a + b) / 2))
                  have l_195 := k_193.1
                  have g_196 := g_103.transA k_193
                  have l_197 := g_196.1
                  refine Br.intro (fun c_198 => ?_) (fun c_198 => ?_)
                  · have e := e.trans (cond_t c_198)
                    have c_198' := of_decide_eq_true c_198
                    refine Br.intro (fun c_199 => ?_) (fun c_199 => ?_)
                    · have e := e.trans (cond_t c_199)
                      have c_199' := of_decide_eq_true c_199
                      refine T_slices_symMergeCmpFunc_float32_n_i ⟨_, _, o_194, ω0, ω2, ω2, ω2, ω2, ω2, (fun H_20 k_201 o_202 => ?_)⟩
                      have z_200 := rsymM_len ν0 ((rsymM ν0 y5_1 a start (((a + b) / 2)))) (((a + b) / 2)) (((((((a + b) / 2)) + m)) - start)) b
                      have l_203 := k_201.1
                      have g_204 := g_196.transA k_201
                      have l_205 := g_204.1
                      rw [e] at hk
                      exact hk H_20 g_204 o_202
                    · have e := e.trans (cond_f c_199)
                      have c_199' := of_decide_eq_false c_199
                      rw [e] at hk
                      exact hk H_19 g_196 o_194
                  · have e := e.trans (cond_f c_198)
                    have c_198' := of_decide_eq_false c_198
                    rw [e] at hk
                    exact hk H_19 g_196 o_194
                · have e := e.trans (cond_f c_191)
                  have c_191' := of_decide_eq_false c_191
                  refine Br.intro (fun c_206 => ?_) (fun c_206 => ?_)
                  · have e := e.trans (cond_t c_206)
                    have c_206' := of_decide_eq_true c_206
                    refine Br.intro (fun c_207 => ?_) (fun c_207 => ?_)
                    · have e := e.trans (cond_t c_207)
                      have c_207' := of_decide_eq_true c_207
                      refine T_slices_symMergeCmpFunc_float32_n_i ⟨_, _, r_100, ω0, ω2, ω2, ω2, ω2, ω2, (fun H_21 k_209 o_210 => ?_)⟩
                      have z_208 := rsymM_len ν0 y5_1 (((a + b) / 2)) (((((((a + b) / 2)) + m)) - start)) b
                      have l_211 := k_209.1
                      have g_212 := g_103.transA k_209
                      have l_213 := g_212.1
                      rw [e] at hk
                      exact hk H_21 g_212 o_210
                    · have e := e.trans (cond_f c_207)
                      have c_207' := of_decide_eq_false c_207
                      rw [e] at hk
                      exact hk H_9 g_103 r_100
                  · have e := e.trans (cond_f c_206)
                    have c_206' := of_decide_eq_false c_206
                    rw [e] at hk
                    exact hk H_9 g_103 r_100
              · have e := e.trans (cond_f c_190)
                have c_190' := of_decide_eq_false c_190
                refine Br.intro (fun c_214 => ?_) (fun c_214 => ?_)
                · have e := e.trans (cond_t c_214)
                  have c_214' := of_decide_eq_true c_214
                  refine Br.intro (fun c_215 => ?_) (fun c_215 => ?_)
                  · have e := e.trans (cond_t c_215)
                    have c_215' := of_decide_eq_true c_215
                    refine T_slices_symMergeCmpFunc_float32_n_i ⟨_, _, r_100, ω0, ω2, ω2, ω2, ω2, ω2, (fun H_22 k_217 o_218 => ?_)⟩
                    have z_216 := rsymM_len ν0 y5_1 (((a + b) / 2)) (((((((a + b) / 2)) + m)) - start)) b
                    have l_219 := k_217.1
                    have g_220 := g_103.transA k_217
                    have l_221 := g_220.1
                    rw [e] at hk
                    exact hk H_22 g_220 o_218
                  · have e := e.trans (cond_f c_215)
                    have c_215' := of_decide_eq_false c_215
                    rw [e] at hk
                    exact hk H_9 g_103 r_100
                · have e := e.trans (cond_f c_214)
                  have c_214' := of_decide_eq_false c_214
                  rw [e] at hk
                  exact hk H_9 g_103 r_100
      · have e := e.trans (cond_f c_99)
        have c_99' := of_decide_eq_false c_99
        rw [show IntKind.wrap .i64 ((((((a + b) / 2)) + m)) - 1) = ((((((a + b) / 2)) + m)) - 1) from wrap64 ω3 ω3]
        refine slices_symMergeCmpFunc_float32_L5 _ _ _ _ _ _ _ _ _ (fun (μ : Nat) (start : Int) (r : Int) (H_23 : AHeap) => ∃ (y5_1 : List Nat), OwnS fF H_23 lo data_a l_data.length data_e y5_1 ∧ y5_1.length = (l_data).length ∧ H.length ≤ H_23.length ∧ KeepA data_a H H_23 ∧ a ≤ start ∧ start ≤ r ∧ r ≤ m ∧ r ≤ (a + b) / 2 ∧ (a + b) / 2 + m - b ≤ start ∧ r - start ≤ (μ : Int) ∧ p_slices_symMergeCmpFunc_float32 ν0 l_data a m b = p_slices_symMergeCmpFunc_float32_l5 ν0 l_data a m b (μ + 1) start r y5_1) (Int.toNat (m - a)) _ _ H ?_ ?_
        · exact ⟨_, i_data, ω11, ω3, g0, ω5, ω5, ω5, ω5, ω5, ω3, e⟩
        · intro μ start r  H_23 hI
          obtain ⟨y5_1, r_222, y_223, n_224, g_225, v_226, v_227, v_228, v_229, v_230, hμ, e⟩ := hI
          rw [slices_symMergeCmpFunc_float32_r5]
          have e := e.trans (p_slices_symMergeCmpFunc_float32_l5_s ν0 l_data a m b μ start r y5_1)
          have l_231 := g_225.1
          refine Br.intro (fun c_232 => ?_) (fun c_232 => ?_)
          · have e := e.trans (cond_t c_232)
            have c_232' := of_decide_eq_true c_232
            rw [show IntKind.wrap .i64 (start + r) = (start + r) from wrap64 ω3 ω3]
            refine ⟨by decide, ?_⟩
            rw [shr1 (x := (start + r)) ω3 ω3]
            rw [show IntKind.wrap .i64 ((start + r) / 2) = ((start + r) / 2) from wrap64 ω3 ω3]
            rw [show IntKind.wrap .i64 ((((((((a + b) / 2)) + m)) - 1)) - (((start + r) / 2))) = ((((((((a + b) / 2)) + m)) - 1)) - (((start + r) / 2))) from wrap64 ω3 ω3]
            obtain ⟨b_233, f_234, q_235⟩ := (r_222.isL).pos ω0
            refine ⟨by omega, by omega, b_233, f_234, q_235, ?_⟩
            refine ⟨((y5_1).getD (((((((((a + b) / 2)) + m)) - 1)) - (((start + r) / 2))) : Int).toNat 0), (r_222.isL).rd (Grow.refl _) q_235 ω3 _, ?_⟩
            obtain ⟨b_236, f_237, q_238⟩ := (r_222.isL).pos ω0
            refine ⟨by omega, by omega, b_236, f_237, q_238, ?_⟩
            refine ⟨((y5_1).getD (((start + r) / 2) : Int).toNat 0), (r_222.isL).rd (Grow.refl _) q_238 ω3 _, ?_⟩
            refine T_cmp_Compare_float32_i ?_
            refine Br.intro (fun c_239 => ?_) (fun c_239 => ?_)
            · have e := e.trans (cond_t c_239)
              have c_239n := nf_of_t c_239
              have c_239n' := of_decide_eq_false c_239n
              rw [show IntKind.wrap .i64 ((((start + r) / 2)) + 1) = ((((start + r) / 2)) + 1) from wrap64 ω3 ω3]
              refine slices_symMergeCmpFunc_float32_n5 (μ - 1) ω8 ⟨_, r_222, ω6, ω3, g_225, ω1, ω1, ω1, ω1, ω1, ω8, (by rw [show μ - 1 + 1 = μ from by first | omega]; exact e)⟩
            · have e := e.trans (cond_f c_239)
              have c_239n := nt_of_f c_239
              have c_239n' := of_decide_eq_true c_239n
              refine slices_symMergeCmpFunc_float32_n5 (μ - 1) ω8 ⟨_, r_222, ω6, ω3, g_225, ω1, ω1, ω1, ω1, ω1, ω8, (by rw [show μ - 1 + 1 = μ from by first | omega]; exact e)⟩
          · have e := e.trans (cond_f c_232)
            have c_232' := of_decide_eq_false c_232
            rw [slices_symMergeCmpFunc_float32_x5_8]
            rw [show IntKind.wrap .i64 ((((((a + b) / 2)) + m)) - start) = ((((((a + b) / 2)) + m)) - start) from wrap64 ω3 ω3]
            refine Br.intro (fun c_240 => ?_) (fun c_240 => ?_)
            · have e := e.trans (cond_t c_240)
              have c_240' := of_decide_eq_true c_240
              refine Br.intro (fun c_241 => ?_) (fun c_241 => ?_)
              · have e := e.trans (cond_t c_241)
                have c_241' := of_decide_eq_true c_241
                refine T_slices_rotateCmpFunc_float32_i ⟨_, _, r_222, ω0, ω2, ω2, ω2, ω2, (fun H_24 k_243 o_244 => ?_)⟩
                have z_242 := slices_rotate_len y5_1 start m (((((((a + b) / 2)) + m)) - start)) ω3 ω3 ω3
                have l_245 := k_243.1
                have g_246 := g_225.transA k_243
                have l_247 := g_246.1
                refine Br.intro (fun c_248 => ?_) (fun c_248 => ?_)
                · have e := e.trans (cond_t c_248)
                  have c_248' := of_decide_eq_true c_248
                  refine Br.intro (fun c_249 => ?_) (fun c_249 => ?_)
                  · have e := e.trans (cond_t c_249)
                    have c_249' := of_decide_eq_true c_249
                    refine T_slices_symMergeCmpFunc_float32_n_i ⟨_, _, o_244, ω0, ω2, ω2, ω2, ω2, ω2, (fun H_25 k_251 o_252 => ?_)⟩
                    have z_250 := rsymM_len ν0 ((p_slices_rotateCmpFunc_float32 y5_1 start m (((((((a + b) / 2)) + m)) - start)))) a start (((a + b) / 2))
                    have l_253 := k_251.1
                    have g_254 := g_246.transA k_251
                    have l_255 := g_254.1
                    refine Br.intro (fun c_256 => ?_) (fun c_256 => ?_)
                    · have e := e.trans (cond_t c_256)
                      have c_256' := of_decide_eq_true c_256
                      refine Br.intro (fun c_257 => ?_) (fun c_257 => ?_)
                      · have e := e.trans (cond_t c_257)
                        have c_257' := of_decide_eq_true c_257
                        refine T_slices_symMergeCmpFunc_float32_n_i ⟨_, _, o_252, ω0, ω2, ω2, ω2, ω2, ω2, (fun H_26 k_259 o_260 => ?_)⟩
                        have z_258 := rsymM_len ν0 ((rsymM ν0 ((p_slices_rotateCmpFunc_float32 y5_1 start m (((((((a + b) / 2)) + m)) - start)))) a start (((a + b) / 2)))) (((a + b) / 2)) (((((((a + b) / 2)) + m)) - start)) b
                        have l_261 := k_259.1
                        have g_262 := g_254.transA k_259
                        have l_263 := g_262.1
                        rw [e] at hk
                        exact hk H_26 g_262 o_260
                      · have e := e.trans (cond_f c_257)
                        have c_257' := of_decide_eq_false c_257
                        rw [e] at hk
                        exact hk H_25 g_254 o_252
                    · have e := e.trans (cond_f c_256)
                      have c_256' := of_decide_eq_false c_256
                      rw [e] at hk
                      exact hk H_25 g_254 o_252
                  · have e := e.trans (cond_f c_249)
                    have c_249' := of_decide_eq_false c_249
                    refine Br.intro (fun c_264 => ?_) (fun c_264 => ?_)
                    · have e := e.trans (cond_t c_264)
                      have c_264' := of_decide_eq_true c_264
                      refine Br.intro (fun c_265 => ?_) (fun c_265 => ?_)
                      · have e := e.trans (cond_t c_265)
                        have c_265' := of_decide_eq_true c_265
                        refine T_slices_symMergeCmpFunc_float32_n_i ⟨_, _, o_244, ω0, ω2, ω2, ω2, ω2, ω2, (fun H_27 k_267 o_268 => ?_)⟩
                        have z_266 := rsymM_len ν0 ((p_slices_rotateCmpFunc_float32 y5_1 start m (((((((a + b) / 2)) + m)) - start)))) (((a + b) / 2)) (((((((a + b) / 2)) + m)) - start)) b
                        have l_269 := k_267.1
                        have g_270 := g_246.transA k_267
                        have l_271 := g_270.1
                        rw [e] at hk
                        exact hk H_27 g_270 o_268
                      · have e := e.trans (cond_f c_265)
                        have c_265' := of_decide_eq_false c_265
                        rw [e] at hk
                        exact hk H_24 g_246 o_244
                    · have e := e.trans (cond_f c_264)
                      have c_264' := of_decide_eq_false c_264
                      rw [e] at hk
                      exact hk H_24 g_246 o_244
                · have e := e.trans (cond_f c_248)
                  have c_248' := of_decide_eq_false c_248
                  refine Br.intro (fun c_272 => ?_) (fun c_272 => ?_)
                  · have e := e.trans (cond_t c_272)
                    have c_272' := of_decide_eq_true c_272
                    refine Br.intro (fun c_273 => ?_) (fun c_273 => ?_)
                    · have e := e.trans (cond_t c_273)
                      have c_273' := of_decide_eq_true c_273
                      refine T_slices_symMergeCmpFunc_float32_n_i ⟨_, _, o_244, ω0, ω2, ω2, ω2, ω2, ω2, (fun H_28 k_275 o_276 => ?_)⟩
                      have z_274 := rsymM_len ν0 ((p_slices_rotateCmpFunc_float32 y5_1 start m (((((((a + b) / 2)) + m)) - start)))) (((a + b) / 2)) (((((((a + b) / 2)) + m)) - start)) b
                      have l_277 := k_275.1
                      have g_278 := g_246.transA k_275
                      have l_279 := g_278.1
                      rw [e] at hk
                      exact hk H_28 g_278 o_276
                    · have e := e.trans (cond_f c_273)
                      have c_273' := of_decide_eq_false c_273
                      rw [e] at hk
                      exact hk H_24 g_246 o_244
                  · have e := e.trans (cond_f c_272)
                    have c_272' := of_decide_eq_false c_272
                    rw [e] at hk
                    exact hk H_24 g_246 o_244
              · have e := e.trans (cond_f c_241)
                have c_241' := of_decide_eq_false c_241
                refine Br.intro (fun c_280 => ?_) (fun c_280 => ?_)
                · have e := e.trans (cond_t c_280)
                  have c_280' := of_decide_eq_true c_280
                  refine Br.intro (fun c_281 => ?_) (fun c_281 => ?_)
                  · have e := e.trans (cond_t c_281)
                    have c_281' := of_decide_eq_true c_281
                    refine T_slices_symMergeCmpFunc_float32_n_i ⟨_, _, r_222, ω0, ω2, ω2, ω2, ω2, ω2, (fun H_29 k_283 o_284 => ?_)⟩
                    have z_282 := rsymM_len ν0 y5_1 a start (((a + b) / 2))
                    have l_285 := k_283.1
                    have g_286 := g_225.transA k_283
                    have l_287 := g_286.1
                    refine Br.intro (fun c_288 => ?_) (fun c_288 => ?_)
                    · have e := e.trans (cond_t c_288)
                      have c_288' := of_decide_eq_true c_288
                      refine Br.intro (fun c_289 => ?_) (fun c_289 => ?_)
                      · have e := e.trans (cond_t c_289)
                        have c_289' := of_decide_eq_true c_289
                        refine T_slices_symMergeCmpFunc_float32_n_i ⟨_, _, o_284, ω0, ω2, ω2, ω2, ω2, ω2, (fun H_30 k_291 o_292 => ?_)⟩
                        have z_290 := rsymM_len ν0 ((rsymM ν0 y5_1 a start (((a + b) / 2)))) (((a + b) / 2)) (((((((a + b) / 2)) + m)) - start)) b
                        have l_293 := k_291.1
                        have g_294 := g_286.transA k_291
                        have l_295 := g_294.1
                        rw [e] at hk
                        exact hk H_30 g_294 o_292
                      · have e := e.trans (cond_f c_289)
                        have c_289' := of_decide_eq_false c_289
                        rw [e] at hk
                        exact hk H_29 g_286 o_284
                    · have e := e.trans (cond_f c_288)
                      have c_288' := of_decide_eq_false c_288
                      rw [e] at hk
                      exact hk H_29 g_286 o_284
                  · have e := e.trans (cond_f c_281)
                    have c_281' := of_decide_eq_false c_281
                    refine Br.intro (fun c_296 => ?_) (fun c_296 => ?_)
                    · have e := e.trans (cond_t c_296)
                      have c_296' := of_decide_eq_true c_296
                      refine Br.intro (fun c_297 => ?_) (fun c_297 => ?_)
                      · have e := e.trans (cond_t c_297)
                        have c_297' := of_decide_eq_true c_297
                        refine T_slices_symMergeCmpFunc_float32_n_i ⟨_, _, r_222, ω0, ω2, ω2, ω2, ω2, ω2, (fun H_31 k_299 o_300 => ?_)⟩
                        have z_298 := rsymM_len ν0 y5_1 (((a + b) / 2)) (((((((a + b) / 2)) + m)) - start)) b
                        have l_301 := k_299.1
                        have g_302 := g_225.transA k_299
                        have l_303 := g_302.1
                        rw [e] at hk
                        exact hk H_31 g_302 o_300
                      · have e := e.trans (cond_f c_297)
                        have c_297' := of_decide_eq_false c_297
                        rw [e] at hk
                        exact hk H_23 g_225 r_222
                    · have e := e.trans (cond_f c_296)
                      have c_296' := of_decide_eq_false c_296
                      rw [e] at hk
                      exact hk H_23 g_225 r_222
                · have e := e.trans (cond_f c_280)
                  have c_280' := of_decide_eq_false c_280
                  refine Br.intro (fun c_304 => ?_) (fun c_304 => ?_)
                  · have e := e.trans (cond_t c_304)
                    have c_304' := of_decide_eq_true c_304
                    refine Br.intro (fun c_305 => ?_) (fun c_305 => ?_)
                    · have e := e.trans (cond_t c_305)
                      have c_305' := of_decide_eq_true c_305
                      refine T_slices_symMergeCmpFunc_float32_n_i ⟨_, _, r_222, ω0, ω2, ω2, ω2, ω2, ω2, (fun H_32 k_307 o_308 => ?_)⟩
                      have z_306 := rsymM_len ν0 y5_1 (((a + b) / 2)) (((((((a + b) / 2)) + m)) - start)) b
                      have l_309 := k_307.1
                      have g_310 := g_225.transA k_307
                      have l_311 := g_310.1
                      rw [e] at hk
                      exact hk H_32 g_310 o_308
                    · have e := e.trans (cond_f c_305)
                      have c_305' := of_decide_eq_false c_305
                      rw [e] at hk
                      exact hk H_23 g_225 r_222
                  · have e := e.trans (cond_f c_304)
                    have c_304' := of_decide_eq_false c_304
                    rw [e] at hk
                    exact hk H_23 g_225 r_222
            · have e := e.trans (cond_f c_240)
              have c_240' := of_decide_eq_false c_240
              refine Br.intro (fun c_312 => ?_) (fun c_312 => ?_)
              · have e := e.trans (cond_t c_312)
                have c_312' := of_decide_eq_true c_312
                refine Br.intro (fun c_313 => ?_) (fun c_313 => ?_)
                · have e := e.trans (cond_t c_313)
                  have c_313' := of_decide_eq_true c_313
                  refine T_slices_symMergeCmpFunc_float32_n_i ⟨_, _, r_222, ω0, ω2, ω2, ω2, ω2, ω2, (fun H_33 k_315 o_316 => ?_)⟩
                  have z_314 := rsymM_len ν0 y5_1 a start (((a + b) / 2))
                  have l_317 := k_315.1
                  have g_318 := g_225.transA k_315
                  have l_319 := g_318.1
                  refine Br.intro (fun c_320 => ?_) (fun c_320 => ?_)
                  · have e := e.trans (cond_t c_320)
                    have c_320' := of_decide_eq_true c_320
                    refine Br.intro (fun c_321 => ?_) (fun c_321 => ?_)
                    · have e := e.trans (cond_t c_321)
                      have c_321' := of_decide_eq_true c_321
                      refine T_slices_symMergeCmpFunc_float32_n_i ⟨_, _, o_316, ω0, ω2, ω2, ω2, ω2, ω2, (fun H_34 k_323 o_324 => ?_)⟩
                      have z_322 := rsymM_len ν0 ((rsymM ν0 y5_1 a start (((a + b) / 2)))) (((a + b) / 2)) (((((((a + b) / 2)) + m)) - start)) b
                      have l_325 := k_323.1
                      have g_326 := g_318.transA k_323
                      have l_327 := g_326.1
                      rw [e] at hk
                      exact hk H_34 g_326 o_324
                    · have e := e.trans (cond_f c_321)
                      have c_321' := of_decide_eq_false c_321
                      rw [e] at hk
                      exact hk H_33 g_318 o_316
                  · have e := e.trans (cond_f c_320)
                    have c_320' := of_decide_eq_false c_320
                    rw [e] at hk
                    exact hk H_33 g_318 o_316
                · have e := e.trans (cond_f c_313)
                  have c_313' := of_decide_eq_false c_313
                  refine Br.intro (fun c_328 => ?_) (fun c_328 => ?_)
                  · have e := e.trans (cond_t c_328)
                    have c_328' := of_decide_eq_true c_328
                    refine Br.intro (fun c_329 => ?_) (fun c_329 => ?_)
                    · have e := e.trans (cond_t c_329)
                      have c_329' := of_decide_eq_true c_329
                      refine T_slices_symMergeCmpFunc_float32_n_i ⟨_, _, r_222, ω0, ω2, ω2, ω2, ω2, ω2, (fun H_35 k_331 o_332 => ?_)⟩
                      have z_330 := rsymM_len ν0 y5_1 (((a + b) / 2)) (((((((a + b) / 2)) + m)) - start)) b
                      have l_333 := k_331.1
                      have g_334 := g_225.transA k_331
                      have l_335 := g_334.1
                      rw [e] at hk
                      exact hk H_35 g_334 o_332
                    · have e := e.trans (cond_f c_329)
                      have c_329' := of_decide_eq_false c_329
                      rw [e] at hk
                      exact hk H_23 g_225 r_222
                  · have e := e.trans (cond_f c_328)
                    have c_328' := of_decide_eq_false c_328
                    rw [e] at hk
                    exact hk H_23 g_225 r_222
              · have e := e.trans (cond_f c_312)
                have c_312' := of_decide_eq_false c_312
                refine Br.intro (fun c_336 => ?_) (fun c_336 => ?_)
                · have e := e.trans (cond_t c_336)
                  have c_336' := of_decide_eq_true c_336
                  refine Br.intro (fun c_337 => ?_) (fun c_337 => ?_)
                  · have e := e.trans (cond_t c_337)
                    have c_337' := of_decide_eq_true c_337
                    refine T_slices_symMergeCmpFunc_float32_n_i ⟨_, _, r_222, ω0, ω2, ω2, ω2, ω2, ω2, (fun H_36 k_339 o_340 => ?_)⟩
                    have z_338 := rsymM_len ν0 y5_1 (((a + b) / 2)) (((((((a + b) / 2)) + m)) - start)) b
                    have l_341 := k_339.1
                    have g_342 := g_225.transA k_339
                    have l_343 := g_342.1
                    rw [e] at hk
                    exact hk H_36 g_342 o_340
                  · have e := e.trans (cond_f c_337)
                    have c_337' := of_decide_eq_false c_337
                    rw [e] at hk
                    exact hk H_23 g_225 r_222
                · have e := e.trans (cond_f c_336)
                  have c_336' := of_decide_eq_false c_336
                  rw [e] at hk
                  exact hk H_23 g_225 r_222
theorem slices_symMergeCmpFunc_float32_ok_n : ∀ ν, FnOk Try.prog 227 (S_slices_symMergeCmpFunc_float32_n ν) := by
  intro ν
  induction ν with
  | zero =>
    refine FnOk.never fun args H K hk => ?_
    simp only [S_slices_symMergeCmpFunc_float32_n] at hk
    unfold F_slices_symMergeCmpFunc_float32_n at hk
    split at hk
    · obtain ⟨lo, l_data, i_data, bd_344, pr0, pr1, pr2, pr3, pr4, k⟩ := hk
      omega
    · exact hk
  | succ ν ih =>
    refine FnOk.body mix_ok (E_slices_symMergeCmpFunc_float32_ok ν ih) Try.func227 rfl (by kernel_rfl) (by kernel_rfl) ?_ ?_ ?_ ?_ ?_
    · intro args H K K' h hk
      simp only [S_slices_symMergeCmpFunc_float32_n] at *
      unfold F_slices_symMergeCmpFunc_float32_n at *
      split at hk
      · obtain ⟨lo, l_data, i_data, bd_344, pr0, pr1, pr2, pr3, pr4, k⟩ := hk
        exact ⟨lo, l_data, i_data, bd_344, pr0, pr1, pr2, pr3, pr4, (fun H' gg ow => h _ _ (k H' gg ow))⟩
      · exact hk.elim
    · intro hq; cases hq
    · intro args H K hk
      simp only [S_slices_symMergeCmpFunc_float32_n] at *
      unfold F_slices_symMergeCmpFunc_float32_n at *
      split at hk
      · obtain ⟨lo, l_data, i_data, bd_344, pr0, pr1, pr2, pr3, pr4, k⟩ := hk
        exact (i_data.put _ (by exact rsymM_len _ _ _ _ _)).elim fun H1 h => ⟨_, _, k H1 h.1 h.2⟩
      · exact hk.elim
    · intro hq; cases hq
    · have mm := @slices_symMergeCmpFunc_float32_main ν
      have ml := fun (args : List Value) (H : AHeap) (K : Value → AHeap → Prop) => bodyL_body (P := Try.prog) (env := (E_slices_symMergeCmpFunc_float32 ν) ) (fn := Try.f227) (args := args) (H := H) (K := K) (E_slices_symMergeCmpFunc_float32_ok ν ih) 
      revert mm ml
      generalize bodyK Try.prog (E_slices_symMergeCmpFunc_float32 ν) Try.f227 = Q
      generalize bodyL Try.prog (E_slices_symMergeCmpFunc_float32 ν) Try.f227 = QL
      intro mm ml args H K hk
      simp only [S_slices_symMergeCmpFunc_float32_n] at *
      unfold F_slices_symMergeCmpFunc_float32_n at *
      split at hk
      · exact ml _ H K (mm _ _ _ _ _ _ H K hk)
      · exact hk.elim
theorem slices_symMergeCmpFunc_float32_ok : FnOk Try.prog 227 S_slices_symMergeCmpFunc_float32 := FnOk.union rfl rfl (fun args H K hk => by
  simp only [S_slices_symMergeCmpFunc_float32] at hk
  unfold F_slices_symMergeCmpFunc_float32 at hk
  split at hk
  · exact ⟨S_slices_symMergeCmpFunc_float32_n _, slices_symMergeCmpFunc_float32_ok_n _, fun K' => Iff.rfl⟩
  · exact hk.elim)

def p_slices_stableCmpFunc_float32_l3 (l_data : List Nat) (n : Int) (a : Int) (b : Int) (y1_1 : List Nat) (blockSize : Int) (a_7 : Int) (b_8 : Int) (y2_1 : List Nat) (k3_4 : Int → Int → (List Nat) → (List Nat)) : Nat → Int → Int → (List Nat) → (List Nat)
  | 0, _, _, _ => []
  | μ3 + 1, a_7', b_8', y3_1 => (bif decide ((b_8' : Int) ≤ n) then (p_slices_stableCmpFunc_float32_l3 l_data n a b y1_1 blockSize a_7 b_8 y2_1 k3_4 μ3 b_8' ((b_8' + (2 * blockSize))) ((rsymM ((b_8' - a_7').toNat) y3_1 a_7' (a_7' + blockSize) b_8'))) else (k3_4 a_7' b_8' y3_1))
def p_slices_stableCmpFunc_float32_l3_s := fun l_data n a b y1_1 blockSize a_7 b_8 y2_1 k3_4 μ3 a_7' b_8' y3_1 => @p_slices_stableCmpFunc_float32_l3.eq_2 l_data n a b y1_1 blockSize a_7 b_8 y2_1 k3_4 a_7' b_8' y3_1 μ3
def p_slices_stableCmpFunc_float32_l2 (l_data : List Nat) (n : Int) (a : Int) (b : Int) (y1_1 : List Nat) (k2_2 : Int → Int → Int → (List Nat) → (List Nat)) : Nat → Int → Int → Int → (List Nat) → (List Nat)
  | 0, _, _, _, _ => []
  | μ2 + 1, blockSize, a_7, b_8, y2_1 => (bif decide ((blockSize : Int) < n) then (p_slices_stableCmpFunc_float32_l3 l_data n a b y1_1 blockSize a_7 b_8 y2_1 (fun (a_7' : Int) (b_8' : Int) (y3_1 : List Nat) => (bif decide (((a_7' + blockSize) : Int) < n) then (p_slices_stableCmpFunc_float32_l2 l_data n a b y1_1 k2_2 μ2 (blockSize * 2) a_7' b_8' ((rsymM ((n - a_7').toNat) y3_1 a_7' (a_7' + blockSize) n))) else (p_slices_stableCmpFunc_float32_l2 l_data n a b y1_1 k2_2 μ2 (blockSize * 2) a_7' b_8' y3_1))) (Int.toNat (n - (0 : Int)) + 1) (0 : Int) (2 * blockSize) y2_1) else (k2_2 blockSize a_7 b_8 y2_1))
def p_slices_stableCmpFunc_float32_l2_s := fun l_data n a b y1_1 k2_2 μ2 blockSize a_7 b_8 y2_1 => @p_slices_stableCmpFunc_float32_l2.eq_2 l_data n a b y1_1 k2_2 blockSize a_7 b_8 y2_1 μ2
def p_slices_stableCmpFunc_float32_l1 (l_data : List Nat) (n : Int) : Nat → Int → Int → (List Nat) → (List Nat)
  | 0, _, _, _ => []
  | μ + 1, a, b, y1_1 => (bif decide ((b : Int) ≤ n) then (p_slices_stableCmpFunc_float32_l1 l_data n μ b (b + 20) (p_slices_insertionSortCmpFunc_float32 y1_1 a b)) else (p_slices_stableCmpFunc_float32_l2 l_data n a b y1_1 (fun (blockSize : Int) (a_7 : Int) (b_8 : Int) (y2_1 : List Nat) => y2_1) (Int.toNat (n - (20 : Int)) + 1) (20 : Int) a b (p_slices_insertionSortCmpFunc_float32 y1_1 a n)))
def p_slices_stableCmpFunc_float32_l1_s := fun l_data n μ a b y1_1 => @p_slices_stableCmpFunc_float32_l1.eq_2 l_data n a b y1_1 μ
def p_slices_stableCmpFunc_float32 (l_data : List Nat) (n : Int) : (List Nat) := (p_slices_stableCmpFunc_float32_l1 l_data n (Int.toNat (n - (0 : Int)) + 1) (0 : Int) (20 : Int) l_data)
def p_slices_stableCmpFunc_float32_eq := @p_slices_stableCmpFunc_float32.eq_1
def T_slices_stableCmpFunc_float32 (data_a : Option Addr) (data_n : Nat) (data_e : Nat) (n : Int) (H : AHeap) (K : AHeap → Prop) : Prop := ∃ lo : Nat, ∃ (l_data : List Nat), OwnS fF H lo data_a data_n data_e l_data ∧ l_data.length < 1073741824 ∧ n = l_data.length ∧ ((∀ H' : AHeap, KeepA data_a H H' → OwnS fF H' lo data_a data_n data_e (p_slices_stableCmpFunc_float32 l_data n) → K  H'))
theorem T_slices_stableCmpFunc_float32_i {data_a : Option Addr} {data_n : Nat} {data_e : Nat} {n : Int} {H : AHeap} {K : AHeap → Prop} (h : ∃ lo : Nat, ∃ (l_data : List Nat), OwnS fF H lo data_a data_n data_e l_data ∧ l_data.length < 1073741824 ∧ n = l_data.length ∧ ((∀ H' : AHeap, KeepA data_a H H' → OwnS fF H' lo data_a data_n data_e (p_slices_stableCmpFunc_float32 l_data n) → K  H'))) : T_slices_stableCmpFunc_float32 data_a data_n data_e n H K := h
theorem st_l3 (l : List Nat) (n a0 b0 : Int) (y1 : List Nat) (s a7 b8 : Int) (y2 : List Nat) (k : Int → Int → List Nat → List Nat) (G : List Nat → List Nat) (hs : 0 < s)
    (hk : ∀ (a b : Int) (y : List Nat), 0 ≤ a → a ≤ n → (y.length : Int) = n → k a b y = G (if a.toNat + s.toNat < y.length then So.symM kappa (y.length - a.toNat) y a.toNat (a.toNat + s.toNat) y.length else y)) :
    ∀ (μ : Nat) (a b : Int) (y : List Nat), n - a ≤ μ → 0 ≤ a → a ≤ n → b = a + 2 * s → (y.length : Int) = n →
      p_slices_stableCmpFunc_float32_l3 l n a0 b0 y1 s a7 b8 y2 k (μ + 1) a b y = G (So.mrgs kappa s.toNat (μ + 1) y a.toNat) := by
  intro μ
  induction μ with
  | zero =>
    intro a b y h1 h2 h3 h4 h5
    rw [p_slices_stableCmpFunc_float32_l3_s, decide_eq_false ω3, cond_false, hk a b y h2 h3 h5]
    unfold So.mrgs
    rw [if_neg (c := a.toNat + 2 * s.toNat ≤ y.length) ω3]
  | succ μ ih =>
    intro a b y h1 h2 h3 h4 h5
    rw [p_slices_stableCmpFunc_float32_l3_s]
    unfold So.mrgs
    by_cases h : b ≤ n
    · rw [decide_eq_true h, cond_true, if_pos (c := a.toNat + 2 * s.toNat ≤ y.length) ω3, ih b (b + 2 * s) _ ω3 ω3 h rfl (by rw [rsymM_len]; exact h5)]
      unfold rsymM
      rw [show (b - a).toNat = 2 * s.toNat by omega, show (a + s).toNat = a.toNat + s.toNat by omega, show b.toNat = a.toNat + 2 * s.toNat by omega]
    · rw [decide_eq_false h, cond_false, if_neg (c := a.toNat + 2 * s.toNat ≤ y.length) ω3, hk a b y h2 h3 h5]
theorem mrgs_length (κ : Nat → Int) (s : Nat) : ∀ (f : Nat) (l : List Nat) (a : Nat), (So.mrgs κ s f l a).length = l.length
  | 0, _, _ => rfl
  | f + 1, l, a => by
    unfold So.mrgs
    split
    · rw [mrgs_length κ s f, So.symM_length]
    · split
      · rw [So.symM_length]
      · rfl
theorem stb_length (κ : Nat → Int) : ∀ (f : Nat) (l : List Nat) (s : Nat), (So.stb κ f l s).length = l.length
  | 0, _, _ => rfl
  | f + 1, l, s => by
    unfold So.stb
    split
    · rw [stb_length κ f, mrgs_length]
    · rfl
theorem blks_length (κ : Nat → Int) (s : Nat) : ∀ (f : Nat) (l : List Nat) (a : Nat), (So.blks κ s f l a).length = l.length
  | 0, _, _ => rfl
  | f + 1, l, a => by
    unfold So.blks
    split
    · rw [blks_length κ s f, So.insS_length]
    · rw [So.insS_length]
theorem st_l2 (l : List Nat) (n a0 b0 : Int) (y1 : List Nat) : ∀ (μ : Nat) (s a7 b8 : Int) (y : List Nat), n - s ≤ μ → 0 < s → (y.length : Int) = n →
    p_slices_stableCmpFunc_float32_l2 l n a0 b0 y1 (fun _ _ _ y => y) (μ + 1) s a7 b8 y = So.stb kappa (μ + 1) y s.toNat := by
  intro μ
  induction μ with
  | zero =>
    intro s a7 b8 y h1 h2 h3
    rw [p_slices_stableCmpFunc_float32_l2_s, decide_eq_false ω3, cond_false]
    unfold So.stb
    rw [if_neg ω3]
  | succ μ ih =>
    intro s a7 b8 y h1 h2 h3
    rw [p_slices_stableCmpFunc_float32_l2_s]
    unfold So.stb
    by_cases h : s < n
    · rw [decide_eq_true h, cond_true, if_pos ω3]
      rw [st_l3 l n a0 b0 y1 s a7 b8 y _ (fun y => So.stb kappa (μ + 1) y (2 * s.toNat)) h2 ?_ _ 0 _ y ω3 ω3 ω3 ω3 h3]
      · rw [show (n - 0).toNat = y.length by omega]; rfl
      · intro a b y' g1 g2 g3
        by_cases hc : a + s < n
        · rw [decide_eq_true hc, cond_true, if_pos ω3, ih (s * 2) a b _ ω3 ω3 (by rw [rsymM_len]; exact g3)]
          unfold rsymM
          rw [show (n - a).toNat = y'.length - a.toNat by omega, show (a + s).toNat = a.toNat + s.toNat by omega, show n.toNat = y'.length by omega, show (s * 2).toNat = 2 * s.toNat by omega]
        · rw [decide_eq_false hc, cond_false, if_neg ω3, ih (s * 2) a b _ ω3 ω3 g3, show (s * 2).toNat = 2 * s.toNat by omega]
    · rw [decide_eq_false h, cond_false, if_neg ω3]
theorem st_l1 (l : List Nat) (n : Int) : ∀ (μ : Nat) (a b : Int) (y : List Nat), n - a ≤ μ → 0 ≤ a → b = a + 20 → (y.length : Int) = n →
    p_slices_stableCmpFunc_float32_l1 l n (μ + 1) a b y = So.stb kappa ((n - 20).toNat + 1) (So.blks kappa 20 (μ + 1) y a.toNat) 20 := by
  intro μ
  induction μ with
  | zero =>
    intro a b y h1 h2 h3 h4
    rw [p_slices_stableCmpFunc_float32_l1_s, decide_eq_false ω3, cond_false, slices_insertionSort_eq _ _ _ h2, st_l2 _ _ _ _ _ _ _ _ _ _ ω3 ω3 (by rw [So.insS_length]; exact h4)]
    unfold So.blks
    rw [if_neg ω3, show (n - (a + 1)).toNat = y.length - a.toNat - 1 by omega]; rfl
  | succ μ ih =>
    intro a b y h1 h2 h3 h4
    rw [p_slices_stableCmpFunc_float32_l1_s]
    unfold So.blks
    by_cases h : b ≤ n
    · rw [decide_eq_true h, cond_true, if_pos ω3, slices_insertionSort_eq _ _ _ h2, ih b (b + 20) _ ω3 ω3 rfl (by rw [So.insS_length]; exact h4)]
      rw [show (b - (a + 1)).toNat = 20 - 1 by omega, show b.toNat = a.toNat + 20 by omega]
    · rw [decide_eq_false h, cond_false, slices_insertionSort_eq _ _ _ h2, st_l2 _ _ _ _ _ _ _ _ _ _ ω3 ω3 (by rw [So.insS_length]; exact h4), if_neg ω3]
      rw [show (n - (a + 1)).toNat = y.length - a.toNat - 1 by omega]; rfl
theorem slices_stable_eq (l : List Nat) (n : Int) (h : n = l.length) : p_slices_stableCmpFunc_float32 l n = So.stb kappa ((n - 20).toNat + 1) (So.blks kappa 20 (n.toNat + 1) l 0) 20 := by
  rw [p_slices_stableCmpFunc_float32_eq, st_l1 l n _ 0 20 l ω3 ω3 ω3 h.symm, show (n - 0).toNat = n.toNat by omega]; rfl
theorem slices_stable_len (l : List Nat) (n : Int) (h : n = l.length) : (p_slices_stableCmpFunc_float32 l n).length = l.length := by
  rw [slices_stable_eq l n h, stb_length, blks_length]
theorem slices_stable_ss (l : List Nat) (n : Int) (h : n = l.length) : So.SS kappa l (p_slices_stableCmpFunc_float32 l n) := by
  rw [slices_stable_eq l n h]
  have := So.blks_spec (κ := kappa) 20 ω15 (n.toNat + 1) l [] 0 ω3 rfl (by simp)
  simp only [List.flatten_nil, List.nil_append] at this
  refine So.SS.behind this.2 (So.stb_spec _ _ _ ω15 ?_ this.1)
  rw [this.2.length]; omega
/-! slices_stableCmpFunc_float32: function 202 -/
def E_slices_stableCmpFunc_float32 : Env := envOf [(226, S_slices_insertionSortCmpFunc_float32), (227, S_slices_symMergeCmpFunc_float32)]
def F_slices_stableCmpFunc_float32 : List Value → AHeap → (Value → AHeap → Prop) → Prop
  | [.slice data_a data_n data_e, .int .i64 n, .func (.func 174) ⟨[]⟩ ⟨[]⟩], H, K => T_slices_stableCmpFunc_float32 data_a data_n data_e n H fun  (H' : AHeap) => K (.tuple #[]) H'
  | _, _, _ => False
def S_slices_stableCmpFunc_float32 : FSpec := { F := F_slices_stableCmpFunc_float32, quiet := false, tame := false }
theorem slices_stableCmpFunc_float32_vc (data_a : Option Addr) (data_n : Nat) (data_e : Nat) (n : Int) (H : AHeap) (K : Value → AHeap → Prop) : bodyL Try.prog E_slices_stableCmpFunc_float32 Try.f202 [.slice data_a data_n data_e, .int .i64 n, .func (.func 174) #[] #[]] H K =
  (loopK (exL Try.prog E_slices_stableCmpFunc_float32 (cl (cl (cl (cr (cr (bodyC Try.f202)))))) 455 0 [(0, 199)]) [.slice data_a data_n data_e, .int .i64 n, .func (.func 174) #[] #[], ud, ud, ud, .int .i64 20, .int .i64 0, .int .i64 20, ud, ud, ud, ud, ud, ud, ud, ud, ud, ud, ud, ud, ud, ud, ud, ud, ud, ud, ud, ud, ud, ud, ud, ud, ud, ud, ud, ud, ud, ud, ud, ud, ud, ud, ud, ud, ud, ud, ud, ud, ud, ud, ud, ud, ud, ud, ud, ud, ud, ud, ud, ud, ud, ud] H (blockQ 0 (seqQ (exL Try.prog E_slices_stableCmpFunc_float32 (cr (cr (cr (bodyC Try.f202)))) 0 0 []) (retK Try.prog Try.f202 K)))) := by kernel_rfl
abbrev slices_stableCmpFunc_float32_P1 (data_a : Option Addr) (data_e : Nat) (data_n : Nat) (n : Int) (a : Int) (b : Int)  : List Value := [.slice data_a data_n data_e, .int .i64 n, .func (.func 174) #[] #[], ud, ud, ud, .int .i64 20, .int .i64 a, .int .i64 b, ud, ud, ud, ud, ud, ud, ud, ud, ud, ud, ud, ud, ud, ud, ud, ud, ud, ud, ud, ud, ud, ud, ud, ud, ud, ud, ud, ud, ud, ud, ud, ud, ud, ud, ud, ud, ud, ud, ud, ud, ud, ud, ud, ud, ud, ud, ud, ud, ud, ud, ud, ud, ud, ud]
theorem slices_stableCmpFunc_float32_r1 (data_a : Option Addr) (data_e : Nat) (data_n : Nat) (n : Int) (a : Int) (b : Int)  (H : AHeap) (R : Post) : exL Try.prog E_slices_stableCmpFunc_float32 (cl (cl (cl (cr (cr (bodyC Try.f202)))))) 455 0 [(0, 199)] (slices_stableCmpFunc_float32_P1 data_a data_e data_n n a b) H R =
  (Br (decide ((b : Int) ≤ n)) (T_slices_insertionSortCmpFunc_float32 data_a data_n data_e a b H fun  (H1 : AHeap) => R .normal [.slice data_a data_n data_e, .int .i64 n, .func (.func 174) #[] #[], ud, ud, ud, .int .i64 20, .int .i64 b, .int .i64 (IntKind.wrap .i64 (b + 20)), ud, ud, ud, ud, ud, ud, ud, ud, ud, ud, ud, ud, ud, ud, ud, ud, ud, ud, ud, ud, ud, ud, ud, ud, ud, ud, ud, ud, ud, ud, ud, ud, ud, ud, ud, ud, ud, ud, ud, ud, ud, ud, ud, ud, ud, ud, ud, ud, ud, ud, ud, ud, ud, ud] H1) (R (.exit 0) [.slice data_a data_n data_e, .int .i64 n, .func (.func 174) #[] #[], ud, ud, ud, .int .i64 20, .int .i64 a, ud, ud, ud, ud, ud, ud, ud, ud, ud, ud, ud, ud, ud, ud, ud, ud, ud, ud, ud, ud, ud, ud, ud, ud, ud, ud, ud, ud, ud, ud, ud, ud, ud, ud, ud, ud, ud, ud, ud, ud, ud, ud, ud, ud, ud, ud, ud, ud, ud, ud, ud, ud, ud, ud, ud] H)) := by kernel_rfl
def slices_stableCmpFunc_float32_I1 (data_a : Option Addr) (data_e : Nat) (data_n : Nat) (n : Int) (Inv : Nat → Int → Int → AHeap → Prop) : Nat → List Value → AHeap → Prop := fun μ tm H => ∃ (a : Int), ∃ (b : Int), tm = (slices_stableCmpFunc_float32_P1 data_a data_e data_n n a b) ∧ Inv μ a b H
theorem slices_stableCmpFunc_float32_L1 (data_a : Option Addr) (data_e : Nat) (data_n : Nat) (n : Int) {Q : Post} (Inv : Nat → Int → Int → AHeap → Prop) (ν : Nat) (a : Int) (b : Int)  (H : AHeap) (h0 : Inv ν a b H)
    (hs : ∀ (μ : Nat) (a : Int) (b : Int)  (H : AHeap), Inv μ a b H → exL Try.prog E_slices_stableCmpFunc_float32 (cl (cl (cl (cr (cr (bodyC Try.f202)))))) 455 0 [(0, 199)] (slices_stableCmpFunc_float32_P1 data_a data_e data_n n a b) H (loopQ (slices_stableCmpFunc_float32_I1 data_a data_e data_n n Inv) μ Q)) : loopK (exL Try.prog E_slices_stableCmpFunc_float32 (cl (cl (cl (cr (cr (bodyC Try.f202)))))) 455 0 [(0, 199)]) (slices_stableCmpFunc_float32_P1 data_a data_e data_n n a b) H Q :=
  ⟨slices_stableCmpFunc_float32_I1 data_a data_e data_n n Inv, ν, ⟨a, b, rfl, h0⟩, fun μ tm H h => by obtain ⟨a, b, rfl, hI⟩ := h; exact hs μ a b  H hI⟩
theorem slices_stableCmpFunc_float32_n1 {data_a : Option Addr} {data_e : Nat} {data_n : Nat} {n : Int} {Q : Post} {Inv : Nat → Int → Int → AHeap → Prop} {μ : Nat} (μ' : Nat) {a : Int} {b : Int}  {H : AHeap} (hm : μ' < μ) (hI : Inv μ' a b H) : loopQ (slices_stableCmpFunc_float32_I1 data_a data_e data_n n Inv) μ Q .normal (slices_stableCmpFunc_float32_P1 data_a data_e data_n n a b) H := ⟨μ', hm, a, b, rfl, hI⟩
theorem slices_stableCmpFunc_float32_x1_0 (data_a : Option Addr) (data_e : Nat) (data_n : Nat) (n : Int) (a : Int) (H : AHeap) (K : Value → AHeap → Prop)  {I : Nat → List Value → AHeap → Prop} {μ : Nat} : loopQ I μ (blockQ 0 (seqQ (exL Try.prog E_slices_stableCmpFunc_float32 (cr (cr (cr (bodyC Try.f202)))) 0 0 []) (retK Try.prog Try.f202 K))) (.exit 0) [.slice data_a data_n data_e, .int .i64 n, .func (.func 174) #[] #[], ud, ud, ud, .int .i64 20, .int .i64 a, ud, ud, ud, ud, ud, ud, ud, ud, ud, ud, ud, ud, ud, ud, ud, ud, ud, ud, ud, ud, ud, ud, ud, ud, ud, ud, ud, ud, ud, ud, ud, ud, ud, ud, ud, ud, ud, ud, ud, ud, ud, ud, ud, ud, ud, ud, ud, ud, ud, ud, ud, ud, ud, ud, ud] H =
  (T_slices_insertionSortCmpFunc_float32 data_a data_n data_e a n H fun  (H2 : AHeap) => loopK (exL Try.prog E_slices_stableCmpFunc_float32 (cl (cl (cr (cr (cr (cr (bodyC Try.f202))))))) 71 0 [(2, 0)]) [.slice data_a data_n data_e, .int .i64 n, .func (.func 174) #[] #[], ud, ud, ud, .int .i64 20, ud, ud, ud, ud, ud, ud, ud, ud, ud, ud, ud, ud, ud, ud, ud, ud, ud, ud, ud, ud, ud, ud, ud, ud, ud, ud, ud, ud, ud, ud, ud, ud, ud, ud, ud, ud, ud, ud, ud, ud, ud, ud, ud, ud, ud, ud, ud, ud, ud, ud, ud, ud, ud, ud, ud, ud] H2 (blockQ 2 (retK Try.prog Try.f202 K))) := by kernel_rfl
abbrev slices_stableCmpFunc_float32_P2 (data_a : Option Addr) (data_e : Nat) (data_n : Nat) (n : Int) (blockSize : Int)  : List Value := [.slice data_a data_n data_e, .int .i64 n, .func (.func 174) #[] #[], ud, ud, ud, .int .i64 blockSize, ud, ud, ud, ud, ud, ud, ud, ud, ud, ud, ud, ud, ud, ud, ud, ud, ud, ud, ud, ud, ud, ud, ud, ud, ud, ud, ud, ud, ud, ud, ud, ud, ud, ud, ud, ud, ud, ud, ud, ud, ud, ud, ud, ud, ud, ud, ud, ud, ud, ud, ud, ud, ud, ud, ud, ud]
theorem slices_stableCmpFunc_float32_r2 (data_a : Option Addr) (data_e : Nat) (data_n : Nat) (n : Int) (blockSize : Int)  (H : AHeap) (R : Post) : exL Try.prog E_slices_stableCmpFunc_float32 (cl (cl (cr (cr (cr (cr (bodyC Try.f202))))))) 71 0 [(2, 0)] (slices_stableCmpFunc_float32_P2 data_a data_e data_n n blockSize) H R =
  (Br (decide ((blockSize : Int) < n)) (loopK (exL Try.prog E_slices_stableCmpFunc_float32 (cl (cl (cl (cr (cl (cr (cl (cl (cr (cr (cr (cr (bodyC Try.f202))))))))))))) 455 0 [(4, 199), (3, 71), (2, 0)]) [.slice data_a data_n data_e, .int .i64 n, .func (.func 174) #[] #[], ud, ud, ud, .int .i64 blockSize, .int .i64 0, .int .i64 (IntKind.wrap .i64 (2 * blockSize)), ud, ud, ud, ud, ud, ud, ud, ud, ud, ud, ud, ud, ud, ud, ud, ud, ud, ud, ud, ud, ud, ud, ud, ud, ud, ud, ud, ud, ud, ud, ud, ud, ud, ud, ud, ud, ud, ud, ud, ud, ud, ud, ud, ud, ud, ud, ud, ud, ud, ud, ud, ud, ud, ud] H (blockQ 4 (seqQ (exL Try.prog E_slices_stableCmpFunc_float32 (cr (cr (cl (cr (cl (cl (cr (cr (cr (cr (bodyC Try.f202))))))))))) 71 0 [(3, 71), (2, 0)]) (blockQ 3 (R))))) (R (.exit 2) [ud, ud, ud, ud, ud, ud, ud, ud, ud, ud, ud, ud, ud, ud, ud, ud, ud, ud, ud, ud, ud, ud, ud, ud, ud, ud, ud, ud, ud, ud, ud, ud, ud, ud, ud, ud, ud, ud, ud, ud, ud, ud, ud, ud, ud, ud, ud, ud, ud, ud, ud, ud, ud, ud, ud, ud, ud, ud, ud, ud, ud, ud, ud] H)) := by kernel_rfl
def slices_stableCmpFunc_float32_I2 (data_a : Option Addr) (data_e : Nat) (data_n : Nat) (n : Int) (Inv : Nat → Int → AHeap → Prop) : Nat → List Value → AHeap → Prop := fun μ tm H => ∃ (blockSize : Int), tm = (slices_stableCmpFunc_float32_P2 data_a data_e data_n n blockSize) ∧ Inv μ blockSize H
theorem slices_stableCmpFunc_float32_L2 (data_a : Option Addr) (data_e : Nat) (data_n : Nat) (n : Int) {Q : Post} (Inv : Nat → Int → AHeap → Prop) (ν : Nat) (blockSize : Int)  (H : AHeap) (h0 : Inv ν blockSize H)
    (hs : ∀ (μ : Nat) (blockSize : Int)  (H : AHeap), Inv μ blockSize H → exL Try.prog E_slices_stableCmpFunc_float32 (cl (cl (cr (cr (cr (cr (bodyC Try.f202))))))) 71 0 [(2, 0)] (slices_stableCmpFunc_float32_P2 data_a data_e data_n n blockSize) H (loopQ (slices_stableCmpFunc_float32_I2 data_a data_e data_n n Inv) μ Q)) : loopK (exL Try.prog E_slices_stableCmpFunc_float32 (cl (cl (cr (cr (cr (cr (bodyC Try.f202))))))) 71 0 [(2, 0)]) (slices_stableCmpFunc_float32_P2 data_a data_e data_n n blockSize) H Q :=
  ⟨slices_stableCmpFunc_float32_I2 data_a data_e data_n n Inv, ν, ⟨blockSize, rfl, h0⟩, fun μ tm H h => by obtain ⟨blockSize, rfl, hI⟩ := h; exact hs μ blockSize  H hI⟩
theorem slices_stableCmpFunc_float32_n2 {data_a : Option Addr} {data_e : Nat} {data_n : Nat} {n : Int} {Q : Post} {Inv : Nat → Int → AHeap → Prop} {μ : Nat} (μ' : Nat) {blockSize : Int}  {H : AHeap} (hm : μ' < μ) (hI : Inv μ' blockSize H) : loopQ (slices_stableCmpFunc_float32_I2 data_a data_e data_n n Inv) μ Q .normal (slices_stableCmpFunc_float32_P2 data_a data_e data_n n blockSize) H := ⟨μ', hm, blockSize, rfl, hI⟩
theorem slices_stableCmpFunc_float32_x2_2  (H : AHeap) (K : Value → AHeap → Prop)  {I : Nat → List Value → AHeap → Prop} {μ : Nat} : loopQ I μ (blockQ 2 (retK Try.prog Try.f202 K)) (.exit 2) [ud, ud, ud, ud, ud, ud, ud, ud, ud, ud, ud, ud, ud, ud, ud, ud, ud, ud, ud, ud, ud, ud, ud, ud, ud, ud, ud, ud, ud, ud, ud, ud, ud, ud, ud, ud, ud, ud, ud, ud, ud, ud, ud, ud, ud, ud, ud, ud, ud, ud, ud, ud, ud, ud, ud, ud, ud, ud, ud, ud, ud, ud, ud] H =
  (K (.tuple #[]) H) := by kernel_rfl
abbrev slices_stableCmpFunc_float32_P3 (blockSize : Int) (data_a : Option Addr) (data_e : Nat) (data_n : Nat) (n : Int) (a_7' : Int) (b_8' : Int)  : List Value := [.slice data_a data_n data_e, .int .i64 n, .func (.func 174) #[] #[], ud, ud, ud, .int .i64 blockSize, .int .i64 a_7', .int .i64 b_8', ud, ud, ud, ud, ud, ud, ud, ud, ud, ud, ud, ud, ud, ud, ud, ud, ud, ud, ud, ud, ud, ud, ud, ud, ud, ud, ud, ud, ud, ud, ud, ud, ud, ud, ud, ud, ud, ud, ud, ud, ud, ud, ud, ud, ud, ud, ud, ud, ud, ud, ud, ud, ud, ud]
theorem slices_stableCmpFunc_float32_r3 (blockSize : Int) (data_a : Option Addr) (data_e : Nat) (data_n : Nat) (n : Int) (a_7' : Int) (b_8' : Int)  (H : AHeap) (R : Post) : exL Try.prog E_slices_stableCmpFunc_float32 (cl (cl (cl (cr (cl (cr (cl (cl (cr (cr (cr (cr (bodyC Try.f202))))))))))))) 455 0 [(4, 199), (3, 71), (2, 0)] (slices_stableCmpFunc_float32_P3 blockSize data_a data_e data_n n a_7' b_8') H R =
  (Br (decide ((b_8' : Int) ≤ n)) (T_slices_symMergeCmpFunc_float32 data_a data_n data_e a_7' (IntKind.wrap .i64 (a_7' + blockSize)) b_8' H fun  (H3 : AHeap) => R .normal [.slice data_a data_n data_e, .int .i64 n, .func (.func 174) #[] #[], ud, ud, ud, .int .i64 blockSize, .int .i64 b_8', .int .i64 (IntKind.wrap .i64 (b_8' + (IntKind.wrap .i64 (2 * blockSize)))), ud, ud, ud, ud, ud, ud, ud, ud, ud, ud, ud, ud, ud, ud, ud, ud, ud, ud, ud, ud, ud, ud, ud, ud, ud, ud, ud, ud, ud, ud, ud, ud, ud, ud, ud, ud, ud, ud, ud, ud, ud, ud, ud, ud, ud, ud, ud, ud, ud, ud, ud, ud, ud, ud] H3) (R (.exit 4) [.slice data_a data_n data_e, .int .i64 n, .func (.func 174) #[] #[], ud, ud, ud, .int .i64 blockSize, .int .i64 a_7', ud, ud, ud, ud, ud, ud, ud, ud, ud, ud, ud, ud, ud, ud, ud, ud, ud, ud, ud, ud, ud, ud, ud, ud, ud, ud, ud, ud, ud, ud, ud, ud, ud, ud, ud, ud, ud, ud, ud, ud, ud, ud, ud, ud, ud, ud, ud, ud, ud, ud, ud, ud, ud, ud, ud] H)) := by kernel_rfl
def slices_stableCmpFunc_float32_I3 (blockSize : Int) (data_a : Option Addr) (data_e : Nat) (data_n : Nat) (n : Int) (Inv : Nat → Int → Int → AHeap → Prop) : Nat → List Value → AHeap → Prop := fun μ tm H => ∃ (a_7' : Int), ∃ (b_8' : Int), tm = (slices_stableCmpFunc_float32_P3 blockSize data_a data_e data_n n a_7' b_8') ∧ Inv μ a_7' b_8' H
theorem slices_stableCmpFunc_float32_L3 (blockSize : Int) (data_a : Option Addr) (data_e : Nat) (data_n : Nat) (n : Int) {Q : Post} (Inv : Nat → Int → Int → AHeap → Prop) (ν : Nat) (a_7' : Int) (b_8' : Int)  (H : AHeap) (h0 : Inv ν a_7' b_8' H)
    (hs : ∀ (μ : Nat) (a_7' : Int) (b_8' : Int)  (H : AHeap), Inv μ a_7' b_8' H → exL Try.prog E_slices_stableCmpFunc_float32 (cl (cl (cl (cr (cl (cr (cl (cl (cr (cr (cr (cr (bodyC Try.f202))))))))))))) 455 0 [(4, 199), (3, 71), (2, 0)] (slices_stableCmpFunc_float32_P3 blockSize data_a data_e data_n n a_7' b_8') H (loopQ (slices_stableCmpFunc_float32_I3 blockSize data_a data_e data_n n Inv) μ Q)) : loopK (exL Try.prog E_slices_stableCmpFunc_float32 (cl (cl (cl (cr (cl (cr (cl (cl (cr (cr (cr (cr (bodyC Try.f202))))))))))))) 455 0 [(4, 199), (3, 71), (2, 0)]) (slices_stableCmpFunc_float32_P3 blockSize data_a data_e data_n n a_7' b_8') H Q :=
  ⟨slices_stableCmpFunc_float32_I3 blockSize data_a data_e data_n n Inv, ν, ⟨a_7', b_8', rfl, h0⟩, fun μ tm H h => by obtain ⟨a_7', b_8', rfl, hI⟩ := h; exact hs μ a_7' b_8'  H hI⟩
theorem slices_stableCmpFunc_float32_n3 {blockSize : Int} {data_a : Option Addr} {data_e : Nat} {data_n : Nat} {n : Int} {Q : Post} {Inv : Nat → Int → Int → AHeap → Prop} {μ : Nat} (μ' : Nat) {a_7' : Int} {b_8' : Int}  {H : AHeap} (hm : μ' < μ) (hI : Inv μ' a_7' b_8' H) : loopQ (slices_stableCmpFunc_float32_I3 blockSize data_a data_e data_n n Inv) μ Q .normal (slices_stableCmpFunc_float32_P3 blockSize data_a data_e data_n n a_7' b_8') H := ⟨μ', hm, a_7', b_8', rfl, hI⟩
theorem slices_stableCmpFunc_float32_x3_4 (blockSize : Int) (data_a : Option Addr) (data_e : Nat) (data_n : Nat) (n : Int) (a_7' : Int) (H : AHeap)  (R : Post) {I : Nat → List Value → AHeap → Prop} {μ : Nat} : loopQ I μ (blockQ 4 (seqQ (exL Try.prog E_slices_stableCmpFunc_float32 (cr (cr (cl (cr (cl (cl (cr (cr (cr (cr (bodyC Try.f202))))))))))) 71 0 [(3, 71), (2, 0)]) (blockQ 3 (R)))) (.exit 4) [.slice data_a data_n data_e, .int .i64 n, .func (.func 174) #[] #[], ud, ud, ud, .int .i64 blockSize, .int .i64 a_7', ud, ud, ud, ud, ud, ud, ud, ud, ud, ud, ud, ud, ud, ud, ud, ud, ud, ud, ud, ud, ud, ud, ud, ud, ud, ud, ud, ud, ud, ud, ud, ud, ud, ud, ud, ud, ud, ud, ud, ud, ud, ud, ud, ud, ud, ud, ud, ud, ud, ud, ud, ud, ud, ud, ud] H =
  (Br (decide ((IntKind.wrap .i64 (a_7' + blockSize) : Int) < n)) (T_slices_symMergeCmpFunc_float32 data_a data_n data_e a_7' (IntKind.wrap .i64 (a_7' + blockSize)) n H fun  (H4 : AHeap) => R .normal [.slice data_a data_n data_e, .int .i64 n, .func (.func 174) #[] #[], ud, ud, ud, .int .i64 (IntKind.wrap .i64 (blockSize * 2)), ud, ud, ud, ud, ud, ud, ud, ud, ud, ud, ud, ud, ud, ud, ud, ud, ud, ud, ud, ud, ud, ud, ud, ud, ud, ud, ud, ud, ud, ud, ud, ud, ud, ud, ud, ud, ud, ud, ud, ud, ud, ud, ud, ud, ud, ud, ud, ud, ud, ud, ud, ud, ud, ud, ud, ud] H4) (R .normal [.slice data_a data_n data_e, .int .i64 n, .func (.func 174) #[] #[], ud, ud, ud, .int .i64 (IntKind.wrap .i64 (blockSize * 2)), ud, ud, ud, ud, ud, ud, ud, ud, ud, ud, ud, ud, ud, ud, ud, ud, ud, ud, ud, ud, ud, ud, ud, ud, ud, ud, ud, ud, ud, ud, ud, ud, ud, ud, ud, ud, ud, ud, ud, ud, ud, ud, ud, ud, ud, ud, ud, ud, ud, ud, ud, ud, ud, ud, ud, ud] H)) := by kernel_rfl
theorem E_slices_stableCmpFunc_float32_ok : ∀ g, FnOk Try.prog g (E_slices_stableCmpFunc_float32 g) := FnOk.envOf (by
  intro x hx
  simp only [List.mem_cons, List.not_mem_nil, or_false] at hx
  rcases hx with rfl | rfl
  · exact slices_insertionSortCmpFunc_float32_ok
  · exact slices_symMergeCmpFunc_float32_ok)
set_option maxHeartbeats 1000000 in
theorem slices_stableCmpFunc_float32_main (data_a : Option Addr) (data_n : Nat) (data_e : Nat) (n : Int) (H : AHeap) (K : Value → AHeap → Prop) (h : T_slices_stableCmpFunc_float32 data_a data_n data_e n H fun  (H' : AHeap) => K (.tuple #[]) H') : bodyL Try.prog E_slices_stableCmpFunc_float32 Try.f202 [.slice data_a data_n data_e, .int .i64 n, .func (.func 174) #[] #[]] H K := by
  rw [slices_stableCmpFunc_float32_vc]
  obtain ⟨lo, l_data, i_data, bd_52, pr0, hk⟩ := h
  obtain rfl := i_data.len
  have up_m := i_data.up
  have lo_m := i_data.lo
  have e : (p_slices_stableCmpFunc_float32 l_data n) = _ := rfl
  have e := e.trans (p_slices_stableCmpFunc_float32_eq l_data n)
  have g0 := KeepA.refl data_a H
  refine slices_stableCmpFunc_float32_L1 _ _ _ _ (fun (μ : Nat) (a : Int) (b : Int) (H_1 : AHeap) => ∃ (y1_1 : List Nat), OwnS fF H_1 lo data_a l_data.length data_e y1_1 ∧ y1_1.length = (l_data).length ∧ H.length ≤ H_1.length ∧ KeepA data_a H H_1 ∧ 0 ≤ a ∧ b = a + 20 ∧ a ≤ n ∧ n - a ≤ (μ : Int) ∧ p_slices_stableCmpFunc_float32 l_data n = p_slices_stableCmpFunc_float32_l1 l_data n (μ + 1) a b y1_1) (Int.toNat (n - (0 : Int))) _ _ H ?_ ?_
  · exact ⟨_, i_data, ω11, ω3, g0, ω5, ω5, ω5, ω3, e⟩
  · intro μ a b  H_1 hI
    obtain ⟨y1_1, r_1, y_2, n_3, g_4, v_5, v_6, v_7, hμ, e⟩ := hI
    rw [slices_stableCmpFunc_float32_r1]
    have e := e.trans (p_slices_stableCmpFunc_float32_l1_s l_data n μ a b y1_1)
    have l_8 := g_4.1
    refine Br.intro (fun c_9 => ?_) (fun c_9 => ?_)
    · have e := e.trans (cond_t c_9)
      have c_9' := of_decide_eq_true c_9
      refine T_slices_insertionSortCmpFunc_float32_i ⟨_, _, r_1, ω0, ω2, ω2, ω2, (fun H_2 k_11 o_12 => ?_)⟩
      have z_10 := slices_insertionSort_len y1_1 a b ω3
      have l_13 := k_11.1
      have g_14 := g_4.transA k_11
      have l_15 := g_14.1
      rw [show IntKind.wrap .i64 (b + 20) = (b + 20) from wrap64 ω3 ω3]
      refine slices_stableCmpFunc_float32_n1 (μ - 1) ω8 ⟨_, o_12, ω6, ω3, g_14, ω1, ω1, ω1, ω8, (by rw [show μ - 1 + 1 = μ from by first | omega]; exact e)⟩
    · have e := e.trans (cond_f c_9)
      have c_9' := of_decide_eq_false c_9
      rw [slices_stableCmpFunc_float32_x1_0]
      refine T_slices_insertionSortCmpFunc_float32_i ⟨_, _, r_1, ω0, ω2, ω2, ω2, (fun H_3 k_17 o_18 => ?_)⟩
      have z_16 := slices_insertionSort_len y1_1 a n ω3
      have l_19 := k_17.1
      have g_20 := g_4.transA k_17
      have l_21 := g_20.1
      refine slices_stableCmpFunc_float32_L2 _ _ _ _ (fun (μ2 : Nat) (blockSize : Int) (H_4 : AHeap) => ∃ (a_7 : Int), ∃ (b_8 : Int), ∃ (y2_1 : List Nat), OwnS fF H_4 lo data_a l_data.length data_e y2_1 ∧ y2_1.length = (l_data).length ∧ H.length ≤ H_4.length ∧ KeepA data_a H H_4 ∧ 20 ≤ blockSize ∧ blockSize ≤ 2147483648 ∧ n - blockSize ≤ (μ2 : Int) ∧ p_slices_stableCmpFunc_float32 l_data n = p_slices_stableCmpFunc_float32_l2 l_data n a b y1_1 (fun (blockSize : Int) (a_7 : Int) (b_8 : Int) (y2_1 : List Nat) => y2_1) (μ2 + 1) blockSize a_7 b_8 y2_1) (Int.toNat (n - (20 : Int))) _ H_3 ?_ ?_
      · exact ⟨_, _, _, o_18, ω11, ω3, g_20, ω5, ω5, ω3, e⟩
      · intro μ2 blockSize  H_4 hI
        obtain ⟨a_7, b_8, y2_1, r_22, y_23, n_24, g_25, v_26, v_27, hμ, e⟩ := hI
        rw [slices_stableCmpFunc_float32_r2]
        have e := e.trans (p_slices_stableCmpFunc_float32_l2_s l_data n a b y1_1 (fun (blockSize : Int) (a_7 : Int) (b_8 : Int) (y2_1 : List Nat) => y2_1) μ2 blockSize a_7 b_8 y2_1)
        have l_28 := g_25.1
        refine Br.intro (fun c_29 => ?_) (fun c_29 => ?_)
        · have e := e.trans (cond_t c_29)
          have c_29' := of_decide_eq_true c_29
          rw [show IntKind.wrap .i64 (2 * blockSize) = (2 * blockSize) from wrap64 ω3 ω3]
          refine slices_stableCmpFunc_float32_L3 _ _ _ _ _ (fun (μ3 : Nat) (a_7' : Int) (b_8' : Int) (H_5 : AHeap) => ∃ (y3_1 : List Nat), OwnS fF H_5 lo data_a l_data.length data_e y3_1 ∧ y3_1.length = (l_data).length ∧ H.length ≤ H_5.length ∧ KeepA data_a H H_5 ∧ 0 ≤ a_7' ∧ a_7' ≤ n ∧ b_8' = a_7' + 2 * blockSize ∧ n - a_7' ≤ (μ3 : Int) ∧ p_slices_stableCmpFunc_float32 l_data n = p_slices_stableCmpFunc_float32_l3 l_data n a b y1_1 blockSize a_7 b_8 y2_1 (fun (a_7' : Int) (b_8' : Int) (y3_1 : List Nat) => (bif decide (((a_7' + blockSize) : Int) < n) then (p_slices_stableCmpFunc_float32_l2 l_data n a b y1_1 (fun (blockSize : Int) (a_7 : Int) (b_8 : Int) (y2_1 : List Nat) => y2_1) μ2 (blockSize * 2) a_7' b_8' ((rsymM ((n - a_7').toNat) y3_1 a_7' (a_7' + blockSize) n))) else (p_slices_stableCmpFunc_float32_l2 l_data n a b y1_1 (fun (blockSize : Int) (a_7 : Int) (b_8 : Int) (y2_1 : List Nat) => y2_1) μ2 (blockSize * 2) a_7' b_8' y3_1))) (μ3 + 1) a_7' b_8' y3_1) (Int.toNat (n - (0 : Int))) _ _ H_4 ?_ ?_
          · exact ⟨_, r_22, ω11, ω3, g_25, ω5, ω5, ω5, ω3, e⟩
          · intro μ3 a_7' b_8'  H_5 hI
            obtain ⟨y3_1, r_30, y_31, n_32, g_33, v_34, v_35, v_36, hμ, e⟩ := hI
            rw [slices_stableCmpFunc_float32_r3]
            have e := e.trans (p_slices_stableCmpFunc_float32_l3_s l_data n a b y1_1 blockSize a_7 b_8 y2_1 (fun (a_7' : Int) (b_8' : Int) (y3_1 : List Nat) => (bif decide (((a_7' + blockSize) : Int) < n) then (p_slices_stableCmpFunc_float32_l2 l_data n a b y1_1 (fun (blockSize : Int) (a_7 : Int) (b_8 : Int) (y2_1 : List Nat) => y2_1) μ2 (blockSize * 2) a_7' b_8' ((rsymM ((n - a_7').toNat) y3_1 a_7' (a_7' + blockSize) n))) else (p_slices_stableCmpFunc_float32_l2 l_data n a b y1_1 (fun (blockSize : Int) (a_7 : Int) (b_8 : Int) (y2_1 : List Nat) => y2_1) μ2 (blockSize * 2) a_7' b_8' y3_1))) μ3 a_7' b_8' y3_1)
            have l_37 := g_33.1
            refine Br.intro (fun c_38 => ?_) (fun c_38 => ?_)
            · have e := e.trans (cond_t c_38)
              have c_38' := of_decide_eq_true c_38
              rw [show IntKind.wrap .i64 (a_7' + blockSize) = (a_7' + blockSize) from wrap64 ω3 ω3]
              refine T_slices_symMergeCmpFunc_float32_i ⟨_, _, r_30, ω0, ω2, ω2, ω2, ω2, ω2, (fun H_6 k_40 o_41 => ?_)⟩
              have z_39 := rsymM_len ((b_8' - a_7').toNat) y3_1 a_7' (a_7' + blockSize) b_8'
              have l_42 := k_40.1
              have g_43 := g_33.transA k_40
              have l_44 := g_43.1
              rw [show IntKind.wrap .i64 (2 * blockSize) = (2 * blockSize) from wrap64 ω3 ω3]
              rw [show IntKind.wrap .i64 (b_8' + (2 * blockSize)) = (b_8' + (2 * blockSize)) from wrap64 ω3 ω3]
              refine slices_stableCmpFunc_float32_n3 (μ3 - 1) ω8 ⟨_, o_41, ω6, ω3, g_43, ω1, ω1, ω1, ω8, (by rw [show μ3 - 1 + 1 = μ3 from by first | omega]; exact e)⟩
            · have e := e.trans (cond_f c_38)
              have c_38' := of_decide_eq_false c_38
              rw [slices_stableCmpFunc_float32_x3_4]
              rw [show IntKind.wrap .i64 (a_7' + blockSize) = (a_7' + blockSize) from wrap64 ω3 ω3]
              refine Br.intro (fun c_45 => ?_) (fun c_45 => ?_)
              · have e := e.trans (cond_t c_45)
                have c_45' := of_decide_eq_true c_45
                refine T_slices_symMergeCmpFunc_float32_i ⟨_, _, r_30, ω0, ω2, ω2, ω2, ω2, ω2, (fun H_7 k_47 o_48 => ?_)⟩
                have z_46 := rsymM_len ((n - a_7').toNat) y3_1 a_7' (a_7' + blockSize) n
                have l_49 := k_47.1
                have g_50 := g_33.transA k_47
                have l_51 := g_50.1
                rw [show IntKind.wrap .i64 (blockSize * 2) = (blockSize * 2) from wrap64 ω3 ω3]
                refine slices_stableCmpFunc_float32_n2 (μ2 - 1) ω8 ⟨_, _, _, o_48, ω6, ω3, g_50, ω1, ω1, ω8, (by rw [show μ2 - 1 + 1 = μ2 from by first | omega]; exact e)⟩
              · have e := e.trans (cond_f c_45)
                have c_45' := of_decide_eq_false c_45
                rw [show IntKind.wrap .i64 (blockSize * 2) = (blockSize * 2) from wrap64 ω3 ω3]
                refine slices_stableCmpFunc_float32_n2 (μ2 - 1) ω8 ⟨_, _, _, r_30, ω6, ω3, g_33, ω1, ω1, ω8, (by rw [show μ2 - 1 + 1 = μ2 from by first | omega]; exact e)⟩
        · have e := e.trans (cond_f c_29)
          have c_29' := of_decide_eq_false c_29
          rw [slices_stableCmpFunc_float32_x2_2]
          rw [e] at hk
          exact hk H_4 g_25 r_22
theorem slices_stableCmpFunc_float32_ok : FnOk Try.prog 202 S_slices_stableCmpFunc_float32 := by
  refine FnOk.body mix_ok E_slices_stableCmpFunc_float32_ok Try.func202 rfl (by kernel_rfl) (by kernel_rfl) ?_ ?_ ?_ ?_ ?_
  · intro args H K K' h hk
    simp only [S_slices_stableCmpFunc_float32] at *
    unfold F_slices_stableCmpFunc_float32 at *
    split at hk
    · obtain ⟨lo, l_data, i_data, bd_52, pr0, k⟩ := hk
      exact ⟨lo, l_data, i_data, bd_52, pr0, (fun H' gg ow => h _ _ (k H' gg ow))⟩
    · exact hk.elim
  · intro hq; cases hq
  · intro args H K hk
    simp only [S_slices_stableCmpFunc_float32] at *
    unfold F_slices_stableCmpFunc_float32 at *
    split at hk
    · obtain ⟨lo, l_data, i_data, bd_52, pr0, k⟩ := hk
      exact (i_data.put _ (by exact slices_stable_len _ _ (by assumption))).elim fun H1 h => ⟨_, _, k H1 h.1 h.2⟩
    · exact hk.elim
  · intro hq; cases hq
  · have mm := @slices_stableCmpFunc_float32_main
    have ml := fun (args : List Value) (H : AHeap) (K : Value → AHeap → Prop) => bodyL_body (P := Try.prog) (env := E_slices_stableCmpFunc_float32 ) (fn := Try.f202) (args := args) (H := H) (K := K) E_slices_stableCmpFunc_float32_ok 
    revert mm ml
    generalize bodyK Try.prog E_slices_stableCmpFunc_float32 Try.f202 = Q
    generalize bodyL Try.prog E_slices_stableCmpFunc_float32 Try.f202 = QL
    intro mm ml args H K hk
    simp only [S_slices_stableCmpFunc_float32] at *
    unfold F_slices_stableCmpFunc_float32 at *
    split at hk
    · exact ml _ H K (mm _ _ _ _ H K hk)
    · exact hk.elim

def p_slices_SortStableFunc_float32_float32 (l_x : List Nat) : (List Nat) := (p_slices_stableCmpFunc_float32 l_x (l_x.length : Int))
def p_slices_SortStableFunc_float32_float32_eq := @p_slices_SortStableFunc_float32_float32.eq_1
def T_slices_SortStableFunc_float32_float32 (x_a : Option Addr) (x_n : Nat) (x_e : Nat) (H : AHeap) (K : AHeap → Prop) : Prop := ∃ lo : Nat, ∃ (l_x : List Nat), OwnS fF H lo x_a x_n x_e l_x ∧ l_x.length < 1073741824 ∧ ((∀ H' : AHeap, KeepA x_a H H' → OwnS fF H' lo x_a x_n x_e (p_slices_SortStableFunc_float32_float32 l_x) → K  H'))
theorem T_slices_SortStableFunc_float32_float32_i {x_a : Option Addr} {x_n : Nat} {x_e : Nat} {H : AHeap} {K : AHeap → Prop} (h : ∃ lo : Nat, ∃ (l_x : List Nat), OwnS fF H lo x_a x_n x_e l_x ∧ l_x.length < 1073741824 ∧ ((∀ H' : AHeap, KeepA x_a H H' → OwnS fF H' lo x_a x_n x_e (p_slices_SortStableFunc_float32_float32 l_x) → K  H'))) : T_slices_SortStableFunc_float32_float32 x_a x_n x_e H K := h
theorem slices_SortStable_len (l : List Nat) : (p_slices_SortStableFunc_float32_float32 l).length = l.length := by
  rw [p_slices_SortStableFunc_float32_float32_eq]; exact slices_stable_len _ _ rfl
theorem slices_SortStable_ss (l : List Nat) : So.SS kappa l (p_slices_SortStableFunc_float32_float32 l) := by
  rw [p_slices_SortStableFunc_float32_float32_eq]; exact slices_stable_ss _ _ rfl
/-! slices_SortStableFunc_float32_float32: function 173 -/
def E_slices_SortStableFunc_float32_float32 : Env := envOf [(202, S_slices_stableCmpFunc_float32)]
def F_slices_SortStableFunc_float32_float32 : List Value → AHeap → (Value → AHeap → Prop) → Prop
  | [.slice x_a x_n x_e, .func (.func 174) ⟨[]⟩ ⟨[]⟩], H, K => T_slices_SortStableFunc_float32_float32 x_a x_n x_e H fun  (H' : AHeap) => K (.tuple #[]) H'
  | _, _, _ => False
def S_slices_SortStableFunc_float32_float32 : FSpec := { F := F_slices_SortStableFunc_float32_float32, quiet := false, tame := false }
theorem slices_SortStableFunc_float32_float32_vc (x_a : Option Addr) (x_n : Nat) (x_e : Nat) (H : AHeap) (K : Value → AHeap → Prop) : bodyL Try.prog E_slices_SortStableFunc_float32_float32 Try.f173 [.slice x_a x_n x_e, .func (.func 174) #[] #[]] H K =
  (T_slices_stableCmpFunc_float32 x_a x_n x_e (x_n : Int) H fun  (H1 : AHeap) => K (.tuple #[]) H1) := by kernel_rfl
theorem E_slices_SortStableFunc_float32_float32_ok : ∀ g, FnOk Try.prog g (E_slices_SortStableFunc_float32_float32 g) := FnOk.envOf (by
  intro x hx
  simp only [List.mem_cons, List.not_mem_nil, or_false] at hx
  subst hx; exact slices_stableCmpFunc_float32_ok)
set_option maxHeartbeats 1000000 in
theorem slices_SortStableFunc_float32_float32_main (x_a : Option Addr) (x_n : Nat) (x_e : Nat) (H : AHeap) (K : Value → AHeap → Prop) (h : T_slices_SortStableFunc_float32_float32 x_a x_n x_e H fun  (H' : AHeap) => K (.tuple #[]) H') : bodyL Try.prog E_slices_SortStableFunc_float32_float32 Try.f173 [.slice x_a x_n x_e, .func (.func 174) #[] #[]] H K := by
  rw [slices_SortStableFunc_float32_float32_vc]
  obtain ⟨lo, l_x, i_x, bd_7, hk⟩ := h
  obtain rfl := i_x.len
  have up_m := i_x.up
  have lo_m := i_x.lo
  have e : (p_slices_SortStableFunc_float32_float32 l_x) = _ := rfl
  have e := e.trans (p_slices_SortStableFunc_float32_float32_eq l_x)
  have g0 := KeepA.refl x_a H
  refine T_slices_stableCmpFunc_float32_i ⟨_, _, i_x, ω0, ω2, (fun H_1 k_2 o_3 => ?_)⟩
  have z_1 := slices_stable_len l_x (l_x.length : Int) ω3
  have l_4 := k_2.1
  have g_5 := g0.transA k_2
  have l_6 := g_5.1
  rw [e] at hk
  exact hk H_1 g_5 o_3
theorem slices_SortStableFunc_float32_float32_ok : FnOk Try.prog 173 S_slices_SortStableFunc_float32_float32 := by
  refine FnOk.body mix_ok E_slices_SortStableFunc_float32_float32_ok Try.func173 rfl (by kernel_rfl) (by kernel_rfl) ?_ ?_ ?_ ?_ ?_
  · intro args H K K' h hk
    simp only [S_slices_SortStableFunc_float32_float32] at *
    unfold F_slices_SortStableFunc_float32_float32 at *
    split at hk
    · obtain ⟨lo, l_x, i_x, bd_7, k⟩ := hk
      exact ⟨lo, l_x, i_x, bd_7, (fun H' gg ow => h _ _ (k H' gg ow))⟩
    · exact hk.elim
  · intro hq; cases hq
  · intro args H K hk
    simp only [S_slices_SortStableFunc_float32_float32] at *
    unfold F_slices_SortStableFunc_float32_float32 at *
    split at hk
    · obtain ⟨lo, l_x, i_x, bd_7, k⟩ := hk
      exact (i_x.put _ (by exact slices_SortStable_len _)).elim fun H1 h => ⟨_, _, k H1 h.1 h.2⟩
    · exact hk.elim
  · intro hq; cases hq
  · have mm := @slices_SortStableFunc_float32_float32_main
    have ml := fun (args : List Value) (H : AHeap) (K : Value → AHeap → Prop) => bodyL_body (P := Try.prog) (env := E_slices_SortStableFunc_float32_float32 ) (fn := Try.f173) (args := args) (H := H) (K := K) E_slices_SortStableFunc_float32_float32_ok 
    revert mm ml
    generalize bodyK Try.prog E_slices_SortStableFunc_float32_float32 Try.f173 = Q
    generalize bodyL Try.prog E_slices_SortStableFunc_float32_float32 Try.f173 = QL
    intro mm ml args H K hk
    simp only [S_slices_SortStableFunc_float32_float32] at *
    unfold F_slices_SortStableFunc_float32_float32 at *
    split at hk
    · exact ml _ H K (mm _ _ _ H K hk)
    · exact hk.elim

def p_impl_median (l_list : List Nat) : Nat := (((p_slices_SortStableFunc_float32_float32 (p_impl_copyOf l_list))).getD ((Int.tdiv ((((((p_impl_copyOf l_list)).length : Int)) - 1)) 2) : Int).toNat 0)
def p_impl_median_eq := @p_impl_median.eq_1
def T_impl_median (list_a : Option Addr) (list_n : Nat) (list_e : Nat) (H : AHeap) (K : Nat → AHeap → Prop) : Prop := ∃ (l_list : List Nat), IsL fF H list_a list_n l_list ∧ l_list.length < 1073741824 ∧ 0 < l_list.length ∧ ((∀ H' : AHeap, Grow H H' → K (p_impl_median l_list) H'))
theorem T_impl_median_i {list_a : Option Addr} {list_n : Nat} {list_e : Nat} {H : AHeap} {K : Nat → AHeap → Prop} (h : ∃ (l_list : List Nat), IsL fF H list_a list_n l_list ∧ l_list.length < 1073741824 ∧ 0 < l_list.length ∧ ((∀ H' : AHeap, Grow H H' → K (p_impl_median l_list) H'))) : T_impl_median list_a list_n list_e H K := h

/-! impl_median: function 118 -/
def E_impl_median : Env := envOf [(122, S_impl_copyOf), (173, S_slices_SortStableFunc_float32_float32)]
def F_impl_median : List Value → AHeap → (Value → AHeap → Prop) → Prop
  | [.slice list_a list_n list_e], H, K => T_impl_median list_a list_n list_e H fun (r1 : Nat) (H' : AHeap) => K (.float .f32 r1) H'
  | _, _, _ => False
def S_impl_median : FSpec := { F := F_impl_median, quiet := false, tame := true }
theorem impl_median_vc (list_a : Option Addr) (list_n : Nat) (list_e : Nat) (H : AHeap) (K : Value → AHeap → Prop) : bodyL Try.prog E_impl_median Try.f118 [.slice list_a list_n list_e] H K =
  (T_impl_copyOf list_a list_n list_e H fun (a1 : Option Addr) (r1 : Nat) (r2 : Nat) (H1 : AHeap) => T_slices_SortStableFunc_float32_float32 a1 r1 r2 H1 fun  (H2 : AHeap) => 2 ≠ (0 : Int) ∧ (0 : Int) ≤ IntKind.wrap .i64 (Int.tdiv (IntKind.wrap .i64 ((r1 : Int) - 1)) 2) ∧ IntKind.wrap .i64 (Int.tdiv (IntKind.wrap .i64 ((r1 : Int) - 1)) 2) < (r1 : Int) ∧ ∃ b1 f1, (a1 : Option Addr) = some ⟨b1, f1, none⟩ ∧ ∃ x1 : Nat,  rdC H2 b1 (f1 + (IntKind.wrap .i64 (Int.tdiv (IntKind.wrap .i64 ((r1 : Int) - 1)) 2) : Int).toNat * 1) = some (.float .f32 x1) ∧ K (.float .f32 x1) H2) := by kernel_rfl
theorem E_impl_median_ok : ∀ g, FnOk Try.prog g (E_impl_median g) := FnOk.envOf (by
  intro x hx
  simp only [List.mem_cons, List.not_mem_nil, or_false] at hx
  rcases hx with rfl | rfl
  · exact impl_copyOf_ok
  · exact slices_SortStableFunc_float32_float32_ok)
set_option maxHeartbeats 1000000 in
theorem impl_median_main (list_a : Option Addr) (list_n : Nat) (list_e : Nat) (H : AHeap) (K : Value → AHeap → Prop) (h : T_impl_median list_a list_n list_e H fun (r1 : Nat) (H' : AHeap) => K (.float .f32 r1) H') : bodyL Try.prog E_impl_median Try.f118 [.slice list_a list_n list_e] H K := by
  rw [impl_median_vc]
  obtain ⟨l_list, i_list, bd_23, pr0, hk⟩ := h
  obtain rfl := i_list.eqn
  have e : (p_impl_median l_list) = _ := rfl
  have e := e.trans (p_impl_median_eq l_list)
  have g0 := Grow.refl H
  refine T_impl_copyOf_i ⟨_, (i_list.grow g0), ω0, fun a_1 n_2 e_3 H_1 g_6 r_4 => ?_⟩
  have z_5 := impl_copyOf_len l_list
  have l_7 := g_6.1
  have g_8 := g0.trans g_6
  have l_9 := g_8.1
  obtain rfl := r_4.isL.eqn
  have u_10 := r_4.up
  have u_11 := r_4.lo
  refine T_slices_SortStableFunc_float32_float32_i ⟨_, _, r_4, ω0, (fun H_2 k_14 o_15 => ?_)⟩
  have z_13 := slices_SortStable_len (p_impl_copyOf l_list)
  have l_16 := k_14.1
  have g_17 := g_8.keepA (fun x hx => by have := u_11 x hx; omega) k_14
  have l_18 := g_17.1
  rw [show IntKind.wrap .i64 (((((p_impl_copyOf l_list)).length : Int)) - 1) = (((((p_impl_copyOf l_list)).length : Int)) - 1) from wrap64 ω3 ω3]
  have z_19 := tdiv_nn ((((((p_impl_copyOf l_list)).length : Int)) - 1)) 2
  refine ⟨ω21, ?_⟩
  rw [show IntKind.wrap .i64 (Int.tdiv ((((((p_impl_copyOf l_list)).length : Int)) - 1)) 2) = (Int.tdiv ((((((p_impl_copyOf l_list)).length : Int)) - 1)) 2) from wrap64 ω3 ω3]
  obtain ⟨b_20, f_21, q_22⟩ := (o_15.isL).pos ω0
  refine ⟨by omega, by omega, b_20, f_21, q_22, ?_⟩
  refine ⟨(((p_slices_SortStableFunc_float32_float32 (p_impl_copyOf l_list))).getD ((Int.tdiv ((((((p_impl_copyOf l_list)).length : Int)) - 1)) 2) : Int).toNat 0), (o_15.isL).rd (Grow.refl _) q_22 ω3 _, ?_⟩
  rw [e] at hk
  exact hk  H_2 g_17 
theorem impl_median_ok : FnOk Try.prog 118 S_impl_median := by
  refine FnOk.body mix_ok E_impl_median_ok Try.func118 rfl (by kernel_rfl) (by kernel_rfl) ?_ ?_ ?_ ?_ ?_
  · intro args H K K' h hk
    simp only [S_impl_median] at *
    unfold F_impl_median at *
    split at hk
    · obtain ⟨l_list, i_list, bd_23, pr0, k⟩ := hk
      exact ⟨l_list, i_list, bd_23, pr0, (fun  H' gg  => h _ _ (k  H' gg ))⟩
    · exact hk.elim
  · intro hq; cases hq
  · intro args H K hk
    simp only [S_impl_median] at *
    unfold F_impl_median at *
    split at hk
    · obtain ⟨l_list, i_list, bd_23, pr0, k⟩ := hk
      exact ⟨_, _, k H (Grow.refl H)⟩
    · exact hk.elim
  · intro _ args H K hk
    simp only [S_impl_median] at *
    unfold F_impl_median at *
    split at hk
    · obtain ⟨l_list, i_list, bd_23, pr0, k⟩ := hk
      exact ⟨l_list, i_list, bd_23, pr0, (fun  H' gg  => ⟨gg, k  H' gg ⟩)⟩
    · exact hk.elim
  · have mm := @impl_median_main
    have ml := fun (args : List Value) (H : AHeap) (K : Value → AHeap → Prop) => bodyL_body (P := Try.prog) (env := E_impl_median ) (fn := Try.f118) (args := args) (H := H) (K := K) E_impl_median_ok 
    revert mm ml
    generalize bodyK Try.prog E_impl_median Try.f118 = Q
    generalize bodyL Try.prog E_impl_median Try.f118 = QL
    intro mm ml args H K hk
    simp only [S_impl_median] at *
    unfold F_impl_median at *
    split at hk
    · exact ml _ H K (mm _ _ _ H K hk)
    · exact hk.elim

def p_impl_MedianOf (l_list : List Nat) : Nat × Bool := (bif !(p_impl_isLong l_list) then (0, false) else ((p_impl_median l_list), true))
def p_impl_MedianOf_eq := @p_impl_MedianOf.eq_1
def T_impl_MedianOf (list_a : Option Addr) (list_n : Nat) (list_e : Nat) (H : AHeap) (K : Nat → Bool → AHeap → Prop) : Prop := ∃ (l_list : List Nat), IsL fF H list_a list_n l_list ∧ l_list.length < 1073741824 ∧ ((∀ H' : AHeap, Grow H H' → K ((p_impl_MedianOf l_list).1) ((p_impl_MedianOf l_list).2) H'))
theorem T_impl_MedianOf_i {list_a : Option Addr} {list_n : Nat} {list_e : Nat} {H : AHeap} {K : Nat → Bool → AHeap → Prop} (h : ∃ (l_list : List Nat), IsL fF H list_a list_n l_list ∧ l_list.length < 1073741824 ∧ ((∀ H' : AHeap, Grow H H' → K ((p_impl_MedianOf l_list).1) ((p_impl_MedianOf l_list).2) H'))) : T_impl_MedianOf list_a list_n list_e H K := h
theorem impl_MedianOf_t {l : List Nat} (h : (p_impl_MedianOf l).2 = true) : 1 ≤ (l.length : Int) ∧ (l.length : Int) ≤ 128 := by
  rw [p_impl_MedianOf_eq] at h
  cases hL : p_impl_isLong l with
  | false => rw [hL] at h; cases h
  | true => exact impl_isLong_t hL
/-! impl_MedianOf: function 65 -/
def E_impl_MedianOf : Env := envOf [(105, S_impl_isLong), (118, S_impl_median)]
def F_impl_MedianOf : List Value → AHeap → (Value → AHeap → Prop) → Prop
  | [.slice list_a list_n list_e], H, K => T_impl_MedianOf list_a list_n list_e H fun (r1 : Nat) (r2 : Bool) (H' : AHeap) => K (.tuple #[.float .f32 r1, .bool r2]) H'
  | _, _, _ => False
def S_impl_MedianOf : FSpec := { F := F_impl_MedianOf, quiet := false, tame := true }
theorem impl_MedianOf_vc (list_a : Option Addr) (list_n : Nat) (list_e : Nat) (H : AHeap) (K : Value → AHeap → Prop) : bodyL Try.prog E_impl_MedianOf Try.f65 [.slice list_a list_n list_e] H K =
  (T_impl_isLong list_a list_n list_e H fun (r1 : Bool) (H1 : AHeap) => Br (!r1) (K (.tuple #[.float .f32 0, .bool false]) H1) (T_impl_median list_a list_n list_e H1 fun (r2 : Nat) (H2 : AHeap) => K (.tuple #[.float .f32 r2, .bool true]) H2)) := by kernel_rfl
theorem E_impl_MedianOf_ok : ∀ g, FnOk Try.prog g (E_impl_MedianOf g) := FnOk.envOf (by
  intro x hx
  simp only [List.mem_cons, List.not_mem_nil, or_false] at hx
  rcases hx with rfl | rfl
  · exact impl_isLong_ok
  · exact impl_median_ok)
set_option maxHeartbeats 1000000 in
theorem impl_MedianOf_main (list_a : Option Addr) (list_n : Nat) (list_e : Nat) (H : AHeap) (K : Value → AHeap → Prop) (h : T_impl_MedianOf list_a list_n list_e H fun (r1 : Nat) (r2 : Bool) (H' : AHeap) => K (.tuple #[.float .f32 r1, .bool r2]) H') : bodyL Try.prog E_impl_MedianOf Try.f65 [.slice list_a list_n list_e] H K := by
  rw [impl_MedianOf_vc]
  obtain ⟨l_list, i_list, bd_10, hk⟩ := h
  obtain rfl := i_list.eqn
  have e : (p_impl_MedianOf l_list) = _ := rfl
  have e := e.trans (p_impl_MedianOf_eq l_list)
  have g0 := Grow.refl H
  refine T_impl_isLong_i ⟨_, (i_list.grow g0), ω0, fun  H_1 g_1  => ?_⟩
  have l_2 := g_1.1
  have g_3 := g0.trans g_1
  have l_4 := g_3.1
  refine Br.intro (fun c_5 => ?_) (fun c_5 => ?_)
  · have e := e.trans (cond_t c_5)
    have c_5n := nf_of_t c_5
    rw [e] at hk
    exact hk  H_1 g_3 
  · have e := e.trans (cond_f c_5)
    have c_5n := nt_of_f c_5
    have c_5n' := impl_isLong_t c_5n
    refine T_impl_median_i ⟨_, (i_list.grow g_3), ω0, ω2, fun  H_2 g_6  => ?_⟩
    have l_7 := g_6.1
    have g_8 := g_3.trans g_6
    have l_9 := g_8.1
    rw [e] at hk
    exact hk  H_2 g_8 
theorem impl_MedianOf_ok : FnOk Try.prog 65 S_impl_MedianOf := by
  refine FnOk.body mix_ok E_impl_MedianOf_ok Try.func65 rfl (by kernel_rfl) (by kernel_rfl) ?_ ?_ ?_ ?_ ?_
  · intro args H K K' h hk
    simp only [S_impl_MedianOf] at *
    unfold F_impl_MedianOf at *
    split at hk
    · obtain ⟨l_list, i_list, bd_10, k⟩ := hk
      exact ⟨l_list, i_list, bd_10, (fun  H' gg  => h _ _ (k  H' gg ))⟩
    · exact hk.elim
  · intro hq; cases hq
  · intro args H K hk
    simp only [S_impl_MedianOf] at *
    unfold F_impl_MedianOf at *
    split at hk
    · obtain ⟨l_list, i_list, bd_10, k⟩ := hk
      exact ⟨_, _, k H (Grow.refl H)⟩
    · exact hk.elim
  · intro _ args H K hk
    simp only [S_impl_MedianOf] at *
    unfold F_impl_MedianOf at *
    split at hk
    · obtain ⟨l_list, i_list, bd_10, k⟩ := hk
      exact ⟨l_list, i_list, bd_10, (fun  H' gg  => ⟨gg, k  H' gg ⟩)⟩
    · exact hk.elim
  · have mm := @impl_MedianOf_main
    have ml := fun (args : List Value) (H : AHeap) (K : Value → AHeap → Prop) => bodyL_body (P := Try.prog) (env := E_impl_MedianOf ) (fn := Try.f65) (args := args) (H := H) (K := K) E_impl_MedianOf_ok 
    revert mm ml
    generalize bodyK Try.prog E_impl_MedianOf Try.f65 = Q
    generalize bodyL Try.prog E_impl_MedianOf Try.f65 = QL
    intro mm ml args H K hk
    simp only [S_impl_MedianOf] at *
    unfold F_impl_MedianOf at *
    split at hk
    · exact ml _ H K (mm _ _ _ H K hk)
    · exact hk.elim
def p_impl_size (x : Nat) : Nat := (bif flt .f32 x 0 then fneg .f32 x else (bif feq .f32 x 0 then 0 else x))
def T_impl_size (x : Nat) (H : AHeap) (K : Nat → AHeap → Prop) : Prop := K (p_impl_size x) H

theorem T_impl_size_i {x : Nat} {H : AHeap} {K : Nat → AHeap → Prop} (h : K (p_impl_size x) H) : T_impl_size x H K := h
/-! impl_size: function 150 -/
def E_impl_size : Env := envOf []
def F_impl_size : List Value → AHeap → (Value → AHeap → Prop) → Prop
  | [.float .f32 x], H, K => T_impl_size x H fun (r1 : Nat) (H' : AHeap) => K (.float .f32 r1) H'
  | _, _, _ => False
def S_impl_size : FSpec := { F := F_impl_size, quiet := true, tame := false }
theorem impl_size_vc (x : Nat) (H : AHeap) (K : Value → AHeap → Prop) : bodyL Try.prog E_impl_size Try.f150 [.float .f32 x] H K =
  (Br (flt .f32 x 0) (K (.float .f32 (fneg .f32 x)) H) (Br (feq .f32 x 0) (K (.float .f32 0) H) (K (.float .f32 x) H))) := by kernel_rfl
theorem E_impl_size_ok : ∀ g, FnOk Try.prog g (E_impl_size g) := FnOk.envOf (by
  intro x hx; cases hx)
set_option maxHeartbeats 1000000 in
theorem impl_size_main (x : Nat) (H : AHeap) (K : Value → AHeap → Prop) (h : T_impl_size x H fun (r1 : Nat) (H' : AHeap) => K (.float .f32 r1) H') : bodyL Try.prog E_impl_size Try.f150 [.float .f32 x] H K := by
  rw [impl_size_vc]
  unfold T_impl_size p_impl_size at h
  repeat' (first | exact h | (exfalso; simp_all; done) | (refine ⟨by decide, ?_⟩) | (refine Br.intro (fun hb => ?_) (fun hb => ?_) <;> (try simp only [hb, cond_true, cond_false, Bool.not_true, Bool.not_false] at h)))
theorem impl_size_ok : FnOk Try.prog 150 S_impl_size := by
  refine FnOk.body mix_ok E_impl_size_ok Try.func150 rfl (by kernel_rfl) (by kernel_rfl) ?_ ?_ ?_ ?_ ?_
  · intro args H K K' h hk
    simp only [S_impl_size] at *
    unfold F_impl_size at *
    split at hk
    · have k := hk
      exact h _ _ k
    · exact hk.elim
  · intro _ args H K hk
    simp only [S_impl_size] at *
    unfold F_impl_size at *
    split at hk
    · have k := hk
      exact ⟨_, k, fun K' k' => k'⟩
    · exact hk.elim
  · intro args H K hk
    simp only [S_impl_size] at *
    unfold F_impl_size at *
    split at hk
    · have k := hk
      exact ⟨_, _, k⟩
    · exact hk.elim
  · intro hq; cases hq
  · have mm := @impl_size_main
    have ml := fun (args : List Value) (H : AHeap) (K : Value → AHeap → Prop) => bodyL_body (P := Try.prog) (env := E_impl_size ) (fn := Try.f150) (args := args) (H := H) (K := K) E_impl_size_ok 
    revert mm ml
    generalize bodyK Try.prog E_impl_size Try.f150 = Q
    generalize bodyL Try.prog E_impl_size Try.f150 = QL
    intro mm ml args H K hk
    simp only [S_impl_size] at *
    unfold F_impl_size at *
    split at hk
    · exact ml _ H K (mm _ H K hk)
    · exact hk.elim
def p_impl_finite (x : Nat) : Nat × Bool := (bif !(p_impl_IsFinite x) then (0, false) else (x, true))
def T_impl_finite (x : Nat) (H : AHeap) (K : Nat → Bool → AHeap → Prop) : Prop := K (p_impl_finite x).1 (p_impl_finite x).2 H

theorem T_impl_finite_i {x : Nat} {H : AHeap} {K : Nat → Bool → AHeap → Prop} (h : K (p_impl_finite x).1 (p_impl_finite x).2 H) : T_impl_finite x H K := h
/-! impl_finite: function 117 -/
def E_impl_finite : Env := envOf [(133, S_impl_IsFinite)]
def F_impl_finite : List Value → AHeap → (Value → AHeap → Prop) → Prop
  | [.float .f32 x], H, K => T_impl_finite x H fun (r1 : Nat) (r2 : Bool) (H' : AHeap) => K (.tuple #[.float .f32 r1, .bool r2]) H'
  | _, _, _ => False
def S_impl_finite : FSpec := { F := F_impl_finite, quiet := true, tame := false }
theorem impl_finite_vc (x : Nat) (H : AHeap) (K : Value → AHeap → Prop) : bodyL Try.prog E_impl_finite Try.f117 [.float .f32 x] H K =
  (T_impl_IsFinite x H fun (r1 : Bool) (H1 : AHeap) => Br (!r1) (K (.tuple #[.float .f32 0, .bool false]) H1) (K (.tuple #[.float .f32 x, .bool true]) H1)) := by kernel_rfl
theorem E_impl_finite_ok : ∀ g, FnOk Try.prog g (E_impl_finite g) := FnOk.envOf (by
  intro x hx
  simp only [List.mem_cons, List.not_mem_nil, or_false] at hx
  subst hx; exact impl_IsFinite_ok)
set_option maxHeartbeats 1000000 in
theorem impl_finite_main (x : Nat) (H : AHeap) (K : Value → AHeap → Prop) (h : T_impl_finite x H fun (r1 : Nat) (r2 : Bool) (H' : AHeap) => K (.tuple #[.float .f32 r1, .bool r2]) H') : bodyL Try.prog E_impl_finite Try.f117 [.float .f32 x] H K := by
  rw [impl_finite_vc]
  simp only [T_impl_IsFinite]
  unfold T_impl_finite p_impl_finite at h
  repeat' (first | exact h | (exfalso; simp_all; done) | (refine ⟨by decide, ?_⟩) | (refine Br.intro (fun hb => ?_) (fun hb => ?_) <;> (try simp only [hb, cond_true, cond_false, Bool.not_true, Bool.not_false] at h)))
theorem impl_finite_ok : FnOk Try.prog 117 S_impl_finite := by
  refine FnOk.body mix_ok E_impl_finite_ok Try.func117 rfl (by kernel_rfl) (by kernel_rfl) ?_ ?_ ?_ ?_ ?_
  · intro args H K K' h hk
    simp only [S_impl_finite] at *
    unfold F_impl_finite at *
    split at hk
    · have k := hk
      exact h _ _ k
    · exact hk.elim
  · intro _ args H K hk
    simp only [S_impl_finite] at *
    unfold F_impl_finite at *
    split at hk
    · have k := hk
      exact ⟨_, k, fun K' k' => k'⟩
    · exact hk.elim
  · intro args H K hk
    simp only [S_impl_finite] at *
    unfold F_impl_finite at *
    split at hk
    · have k := hk
      exact ⟨_, _, k⟩
    · exact hk.elim
  · intro hq; cases hq
  · have mm := @impl_finite_main
    have ml := fun (args : List Value) (H : AHeap) (K : Value → AHeap → Prop) => bodyL_body (P := Try.prog) (env := E_impl_finite ) (fn := Try.f117) (args := args) (H := H) (K := K) E_impl_finite_ok 
    revert mm ml
    generalize bodyK Try.prog E_impl_finite Try.f117 = Q
    generalize bodyL Try.prog E_impl_finite Try.f117 = QL
    intro mm ml args H K hk
    simp only [S_impl_finite] at *
    unfold F_impl_finite at *
    split at hk
    · exact ml _ H K (mm _ H K hk)
    · exact hk.elim

def p_impl_SpreadOf_l1 (l_list : List Nat) : Nat → (List Nat) → Int → Nat × Bool
  | 0, _, _ => (0, false)
  | μ + 1, l_far, t19 => (bif decide ((t19 : Int) < (l_list.length : Int)) then (p_impl_SpreadOf_l1 l_list μ ((l_far ++ [((p_impl_size (fsub .f32 (((l_list).getD (t19 : Int).toNat 0)) ((p_impl_MedianOf l_list).1))))])) (t19 + 1)) else ((p_impl_finite (fmul .f32 1069401558 (p_impl_median l_far))).1, (p_impl_finite (fmul .f32 1069401558 (p_impl_median l_far))).2))
def p_impl_SpreadOf_l1_s := fun l_list μ l_far t19 => @p_impl_SpreadOf_l1.eq_2 l_list l_far t19 μ
def p_impl_SpreadOf (l_list : List Nat) : Nat × Bool := (bif !((p_impl_MedianOf l_list).2) then (0, false) else (p_impl_SpreadOf_l1 l_list (Int.toNat ((l_list.length : Int) - (0 : Int)) + 1) ([] : List Nat) (0 : Int)))
def p_impl_SpreadOf_eq := @p_impl_SpreadOf.eq_1
def T_impl_SpreadOf (list_a : Option Addr) (list_n : Nat) (list_e : Nat) (H : AHeap) (K : Nat → Bool → AHeap → Prop) : Prop := ∃ (l_list : List Nat), IsL fF H list_a list_n l_list ∧ l_list.length < 1073741824 ∧ ((∀ H' : AHeap, Grow H H' → K ((p_impl_SpreadOf l_list).1) ((p_impl_SpreadOf l_list).2) H'))
theorem T_impl_SpreadOf_i {list_a : Option Addr} {list_n : Nat} {list_e : Nat} {H : AHeap} {K : Nat → Bool → AHeap → Prop} (h : ∃ (l_list : List Nat), IsL fF H list_a list_n l_list ∧ l_list.length < 1073741824 ∧ ((∀ H' : AHeap, Grow H H' → K ((p_impl_SpreadOf l_list).1) ((p_impl_SpreadOf l_list).2) H'))) : T_impl_SpreadOf list_a list_n list_e H K := h

/-! impl_SpreadOf: function 66 -/
def E_impl_SpreadOf : Env := envOf [(65, S_impl_MedianOf), (150, S_impl_size), (118, S_impl_median), (117, S_impl_finite)]
def F_impl_SpreadOf : List Value → AHeap → (Value → AHeap → Prop) → Prop
  | [.slice list_a list_n list_e], H, K => T_impl_SpreadOf list_a list_n list_e H fun (r1 : Nat) (r2 : Bool) (H' : AHeap) => K (.tuple #[.float .f32 r1, .bool r2]) H'
  | _, _, _ => False
def S_impl_SpreadOf : FSpec := { F := F_impl_SpreadOf, quiet := false, tame := true }
theorem impl_SpreadOf_vc (list_a : Option Addr) (list_n : Nat) (list_e : Nat) (H : AHeap) (K : Value → AHeap → Prop) : bodyL Try.prog E_impl_SpreadOf Try.f66 [.slice list_a list_n list_e] H K =
  (T_impl_MedianOf list_a list_n list_e H fun (r1 : Nat) (r2 : Bool) (H1 : AHeap) => Br (!r2) (K (.tuple #[.float .f32 0, .bool false]) H1) (Al [] H1 fun b1 H2 => loopK (exL Try.prog E_impl_SpreadOf (cl (cl (cr (cl (cr (cr (cr (cr (bodyC Try.f66))))))))) 917584 12 [(0, 64)]) [ud, ud, ud, ud, .float .f32 r1, ud, .slice (some ⟨b1, 0, none⟩) 0 1, ud, ud, ud, ud, ud, ud, ud, ud, ud, ud, .slice list_a list_n list_e, .int .i64 (list_n : Int), .int .i64 0, ud, ud, ud, ud, ud, ud, ud, ud, ud, ud, ud, ud, ud, ud, ud, ud, ud] H2 (blockQ 0 (seqQ (exL Try.prog E_impl_SpreadOf (cr (cr (cr (cr (cr (bodyC Try.f66)))))) 12 12 []) (retK Try.prog Try.f66 K))))) := by kernel_rfl
abbrev impl_SpreadOf_P1 (list_a : Option Addr) (list_e : Nat) (list_n : Nat) (r1 : Nat) (far_a : Option Addr) (far_n : Nat) (far_e : Nat) (t19 : Int)  : List Value := [ud, ud, ud, ud, .float .f32 r1, ud, .slice far_a far_n far_e, ud, ud, ud, ud, ud, ud, ud, ud, ud, ud, .slice list_a list_n list_e, .int .i64 (list_n : Int), .int .i64 t19, ud, ud, ud, ud, ud, ud, ud, ud, ud, ud, ud, ud, ud, ud, ud, ud, ud]
theorem impl_SpreadOf_r1 (list_a : Option Addr) (list_e : Nat) (list_n : Nat) (r1 : Nat) (far_a : Option Addr) (far_n : Nat) (far_e : Nat) (t19 : Int)  (H : AHeap) (R : Post) : exL Try.prog E_impl_SpreadOf (cl (cl (cr (cl (cr (cr (cr (cr (bodyC Try.f66))))))))) 917584 12 [(0, 64)] (impl_SpreadOf_P1 list_a list_e list_n r1 far_a far_n far_e t19) H R =
  (Br (decide ((t19 : Int) < (list_n : Int))) ((0 : Int) ≤ t19 ∧ t19 < (list_n : Int) ∧ ∃ b2 f1, (list_a : Option Addr) = some ⟨b2, f1, none⟩ ∧ ∃ x1 : Nat,  rdC H b2 (f1 + (t19 : Int).toNat * 1) = some (.float .f32 x1) ∧ T_impl_size (fsub .f32 x1 r1) H fun (r3 : Nat) (H3 : AHeap) => Al [.float .f32 r3] H3 fun b3 H4 => ∃ o1 w1 : List Value, ownB H4 far_a far_n far_e 1 = some o1 ∧ rdS H4 (some ⟨b3, 0, none⟩) (1 * 1) = some w1 ∧ ((far_a : Option Addr) = none → 0 < (1 : Nat)) ∧ (far_n : Nat) + 1 < most ∧ Ap H4 (killB H4 far_a ++ [some ⟨o1 ++ w1, true⟩]) fun b4 H5 => R .normal [ud, ud, ud, ud, .float .f32 r1, ud, .slice (some ⟨b4, 0, none⟩) (far_n + 1) 1, ud, ud, ud, ud, ud, ud, ud, ud, ud, ud, .slice list_a list_n list_e, .int .i64 (list_n : Int), .int .i64 (IntKind.wrap .i64 (t19 + 1)), ud, ud, ud, ud, ud, ud, ud, ud, ud, ud, ud, ud, ud, ud, ud, ud, ud] H5) (R (.exit 0) [ud, ud, ud, ud, ud, ud, .slice far_a far_n far_e, ud, ud, ud, ud, ud, ud, ud, ud, ud, ud, ud, ud, ud, ud, ud, ud, ud, ud, ud, ud, ud, ud, ud, ud, ud, ud, ud, ud, ud, ud] H)) := by kernel_rfl
def impl_SpreadOf_I1 (list_a : Option Addr) (list_e : Nat) (list_n : Nat) (r1 : Nat) (Inv : Nat → (Option Addr) → Nat → Nat → Int → AHeap → Prop) : Nat → List Value → AHeap → Prop := fun μ tm H => ∃ (far_a : Option Addr), ∃ (far_n : Nat), ∃ (far_e : Nat), ∃ (t19 : Int), tm = (impl_SpreadOf_P1 list_a list_e list_n r1 far_a far_n far_e t19) ∧ Inv μ far_a far_n far_e t19 H
theorem impl_SpreadOf_L1 (list_a : Option Addr) (list_e : Nat) (list_n : Nat) (r1 : Nat) {Q : Post} (Inv : Nat → (Option Addr) → Nat → Nat → Int → AHeap → Prop) (ν : Nat) (far_a : Option Addr) (far_n : Nat) (far_e : Nat) (t19 : Int)  (H : AHeap) (h0 : Inv ν far_a far_n far_e t19 H)
    (hs : ∀ (μ : Nat) (far_a : Option Addr) (far_n : Nat) (far_e : Nat) (t19 : Int)  (H : AHeap), Inv μ far_a far_n far_e t19 H → exL Try.prog E_impl_SpreadOf (cl (cl (cr (cl (cr (cr (cr (cr (bodyC Try.f66))))))))) 917584 12 [(0, 64)] (impl_SpreadOf_P1 list_a list_e list_n r1 far_a far_n far_e t19) H (loopQ (impl_SpreadOf_I1 list_a list_e list_n r1 Inv) μ Q)) : loopK (exL Try.prog E_impl_SpreadOf (cl (cl (cr (cl (cr (cr (cr (cr (bodyC Try.f66))))))))) 917584 12 [(0, 64)]) (impl_SpreadOf_P1 list_a list_e list_n r1 far_a far_n far_e t19) H Q :=
  ⟨impl_SpreadOf_I1 list_a list_e list_n r1 Inv, ν, ⟨far_a, far_n, far_e, t19, rfl, h0⟩, fun μ tm H h => by obtain ⟨far_a, far_n, far_e, t19, rfl, hI⟩ := h; exact hs μ far_a far_n far_e t19  H hI⟩
theorem impl_SpreadOf_n1 {list_a : Option Addr} {list_e : Nat} {list_n : Nat} {r1 : Nat} {Q : Post} {Inv : Nat → (Option Addr) → Nat → Nat → Int → AHeap → Prop} {μ : Nat} (μ' : Nat) {far_a : Option Addr} {far_n : Nat} {far_e : Nat} {t19 : Int}  {H : AHeap} (hm : μ' < μ) (hI : Inv μ' far_a far_n far_e t19 H) : loopQ (impl_SpreadOf_I1 list_a list_e list_n r1 Inv) μ Q .normal (impl_SpreadOf_P1 list_a list_e list_n r1 far_a far_n far_e t19) H := ⟨μ', hm, far_a, far_n, far_e, t19, rfl, hI⟩
theorem impl_SpreadOf_x1_0 (far_a : Option Addr) (far_n : Nat) (far_e : Nat) (H : AHeap) (K : Value → AHeap → Prop)  {I : Nat → List Value → AHeap → Prop} {μ : Nat} : loopQ I μ (blockQ 0 (seqQ (exL Try.prog E_impl_SpreadOf (cr (cr (cr (cr (cr (bodyC Try.f66)))))) 12 12 []) (retK Try.prog Try.f66 K))) (.exit 0) [ud, ud, ud, ud, ud, ud, .slice far_a far_n far_e, ud, ud, ud, ud, ud, ud, ud, ud, ud, ud, ud, ud, ud, ud, ud, ud, ud, ud, ud, ud, ud, ud, ud, ud, ud, ud, ud, ud, ud, ud] H =
  (T_impl_median far_a far_n far_e H fun (r4 : Nat) (H6 : AHeap) => T_impl_finite (fmul .f32 1069401558 r4) H6 fun (r5 : Nat) (r6 : Bool) (H7 : AHeap) => K (.tuple #[.float .f32 r5, .bool r6]) H7) := by kernel_rfl
theorem E_impl_SpreadOf_ok : ∀ g, FnOk Try.prog g (E_impl_SpreadOf g) := FnOk.envOf (by
  intro x hx
  simp only [List.mem_cons, List.not_mem_nil, or_false] at hx
  rcases hx with rfl | rfl | rfl | rfl
  · exact impl_MedianOf_ok
  · exact impl_size_ok
  · exact impl_median_ok
  · exact impl_finite_ok)
set_option maxHeartbeats 1000000 in
theorem impl_SpreadOf_main (list_a : Option Addr) (list_n : Nat) (list_e : Nat) (H : AHeap) (K : Value → AHeap → Prop) (h : T_impl_SpreadOf list_a list_n list_e H fun (r1 : Nat) (r2 : Bool) (H' : AHeap) => K (.tuple #[.float .f32 r1, .bool r2]) H') : bodyL Try.prog E_impl_SpreadOf Try.f66 [.slice list_a list_n list_e] H K := by
  rw [impl_SpreadOf_vc]
  obtain ⟨l_list, i_list, bd_60, hk⟩ := h
  obtain rfl := i_list.eqn
  have e : (p_impl_SpreadOf l_list) = _ := rfl
  have e := e.trans (p_impl_SpreadOf_eq l_list)
  have g0 := Grow.refl H
  refine T_impl_MedianOf_i ⟨_, (i_list.grow g0), ω0, fun  H_1 g_1  => ?_⟩
  have l_2 := g_1.1
  have g_3 := g0.trans g_1
  have l_4 := g_3.1
  refine Br.intro (fun c_5 => ?_) (fun c_5 => ?_)
  · have e := e.trans (cond_t c_5)
    have c_5n := nf_of_t c_5
    rw [e] at hk
    exact hk  H_1 g_3 
  · have e := e.trans (cond_f c_5)
    have c_5n := nt_of_f c_5
    have c_5n' := impl_MedianOf_t c_5n
    refine Al.intro (fun b_6 H_2 hb_7 hl_8 g_9 o_10 => ?_)
    have o_10 : Own H_2 b_6 ((([] : List Nat)).map fF) := o_10
    have l_12 := g_9.1
    have g_13 := g_3.trans g_9
    have l_14 := g_13.1
    have w_59 := o_10.lt
    refine impl_SpreadOf_L1 _ _ _ _ (fun (μ : Nat) (far_a : Option Addr) (far_n : Nat) (far_e : Nat) (t19 : Int) (H_3 : AHeap) => ∃ (l_far : List Nat), ∃ (b_15 : Nat), far_a = some ⟨b_15, 0, none⟩ ∧ far_n = l_far.length ∧ far_e = 1 ∧ Own H_3 b_15 (l_far.map fF) ∧ Grow H H_3 ∧ H.length ≤ b_15 ∧ (0 : Int) ≤ t19 ∧ t19 ≤ (l_list.length : Int) ∧ (l_far.length : Int) ≤ t19 - (0 : Int) + 0 ∧ (l_far.length : Int) = t19 ∧ (l_list.length : Int) - t19 ≤ (μ : Int) ∧ p_impl_SpreadOf l_list = p_impl_SpreadOf_l1 l_list (μ + 1) l_far t19) (Int.toNat ((l_list.length : Int) - (0 : Int))) _ _ _ _ H_2 ?_ ?_
    · exact ⟨_, _, rfl, ω10, rfl, o_10, g_13, ω3, ω5, ω5, ω5, ω5, ω3, e⟩
    · intro μ far_a far_n far_e t19  H_3 hI
      obtain ⟨l_far, b_15, rfl, rfl, rfl, o_16, g_17, l_18, v_19, v_20, v_21, v_22, hμ, e⟩ := hI
      rw [impl_SpreadOf_r1]
      have e := e.trans (p_impl_SpreadOf_l1_s l_list μ l_far t19)
      have w_23 := o_16.lt
      have l_24 := g_17.1
      refine Br.intro (fun c_25 => ?_) (fun c_25 => ?_)
      · have e := e.trans (cond_t c_25)
        have c_25' := of_decide_eq_true c_25
        obtain ⟨b_26, f_27, q_28⟩ := ((i_list.grow g_17)).pos ω0
        refine ⟨by omega, by omega, b_26, f_27, q_28, ?_⟩
        refine ⟨((l_list).getD (t19 : Int).toNat 0), (i_list).rd g_17 q_28 ω3 _, ?_⟩
        refine T_impl_size_i ?_
        refine Al.intro (fun b_29 H_4 hb_30 hl_31 g_32 o_33 => ?_)
        have o_33 : Own H_4 b_29 (([((p_impl_size (fsub .f32 (((l_list).getD (t19 : Int).toNat 0)) ((p_impl_MedianOf l_list).1))))]).map fF) := o_33
        have l_35 := g_32.1
        have g_36 := g_17.trans g_32
        have l_37 := g_36.1
        have o_38 := o_16.grow g_32
        have w_39 := o_38.lt
        have w_52 := o_33.lt
        refine ⟨_, _, o_38.ownB ω7 rfl, (isl_rdS (o_33.isL ω10)), (fun h => by cases h), ω22, ?_⟩
        refine Ap.app o_38 rfl rfl (fun b_44 H_5 q_50 hl_40 o_41 k_42 => ?_)
        have o_41 := map_snoc o_41
        have l_45 := k_42.1
        have g_46 := g_36.keep (b := b_15) ω3 k_42
        have l_47 := g_46.1
        have o_48 := o_33.keep ω3 k_42
        have w_49 := o_48.lt
        have w_51 := o_41.lt
        rw [show IntKind.wrap .i64 (t19 + 1) = (t19 + 1) from wrap64 ω3 ω3]
        refine impl_SpreadOf_n1 (μ - 1) ω8 ⟨_, _, rfl, ω9, rfl, o_41, g_46, ω3, ω1, ω1, ω1, ω1, ω8, (by rw [show μ - 1 + 1 = μ from by first | omega]; exact e)⟩
      · have e := e.trans (cond_f c_25)
        have c_25' := of_decide_eq_false c_25
        rw [impl_SpreadOf_x1_0]
        refine T_impl_median_i ⟨_, (o_16.isL ω10), ω0, ω2, fun  H_6 g_53  => ?_⟩
        have l_54 := g_53.1
        have g_55 := g_17.trans g_53
        have l_56 := g_55.1
        have o_57 := o_16.grow g_53
        have w_58 := o_57.lt
        refine T_impl_finite_i ?_
        rw [e] at hk
        exact hk  H_6 g_55 
theorem impl_SpreadOf_ok : FnOk Try.prog 66 S_impl_SpreadOf := by
  refine FnOk.body mix_ok E_impl_SpreadOf_ok Try.func66 rfl (by kernel_rfl) (by kernel_rfl) ?_ ?_ ?_ ?_ ?_
  · intro args H K K' h hk
    simp only [S_impl_SpreadOf] at *
    unfold F_impl_SpreadOf at *
    split at hk
    · obtain ⟨l_list, i_list, bd_60, k⟩ := hk
      exact ⟨l_list, i_list, bd_60, (fun  H' gg  => h _ _ (k  H' gg ))⟩
    · exact hk.elim
  · intro hq; cases hq
  · intro args H K hk
    simp only [S_impl_SpreadOf] at *
    unfold F_impl_SpreadOf at *
    split at hk
    · obtain ⟨l_list, i_list, bd_60, k⟩ := hk
      exact ⟨_, _, k H (Grow.refl H)⟩
    · exact hk.elim
  · intro _ args H K hk
    simp only [S_impl_SpreadOf] at *
    unfold F_impl_SpreadOf at *
    split at hk
    · obtain ⟨l_list, i_list, bd_60, k⟩ := hk
      exact ⟨l_list, i_list, bd_60, (fun  H' gg  => ⟨gg, k  H' gg ⟩)⟩
    · exact hk.elim
  · have mm := @impl_SpreadOf_main
    have ml := fun (args : List Value) (H : AHeap) (K : Value → AHeap → Prop) => bodyL_body (P := Try.prog) (env := E_impl_SpreadOf ) (fn := Try.f66) (args := args) (H := H) (K := K) E_impl_SpreadOf_ok 
    revert mm ml
    generalize bodyK Try.prog E_impl_SpreadOf Try.f66 = Q
    generalize bodyL Try.prog E_impl_SpreadOf Try.f66 = QL
    intro mm ml args H K hk
    simp only [S_impl_SpreadOf] at *
    unfold F_impl_SpreadOf at *
    split at hk
    · exact ml _ H K (mm _ _ _ H K hk)
    · exact hk.elim

def p_impl_sizes_l1 (l_list : List Nat) : Nat → (List Nat) → Int → (List Nat)
  | 0, _, _ => []
  | μ + 1, l_vout, t9 => (bif decide ((t9 : Int) < (l_list.length : Int)) then (p_impl_sizes_l1 l_list μ ((l_vout ++ [((p_impl_size (((l_list).getD (t9 : Int).toNat 0))))])) (t9 + 1)) else l_vout)
def p_impl_sizes_l1_s := fun l_list μ l_vout t9 => @p_impl_sizes_l1.eq_2 l_list l_vout t9 μ
def p_impl_sizes (l_list : List Nat) : (List Nat) := (p_impl_sizes_l1 l_list (Int.toNat ((l_list.length : Int) - (0 : Int)) + 1) ([] : List Nat) (0 : Int))
def p_impl_sizes_eq := @p_impl_sizes.eq_1
def T_impl_sizes (list_a : Option Addr) (list_n : Nat) (list_e : Nat) (H : AHeap) (K : (Option Addr) → Nat → Nat → AHeap → Prop) : Prop := ∃ (l_list : List Nat), IsL fF H list_a list_n l_list ∧ l_list.length < 1073741824 ∧ ((∀ (r1_a : Option Addr) (r1_n r1_e : Nat), ∀ H' : AHeap, Grow H H' → OwnS fF H' H.length r1_a r1_n r1_e (p_impl_sizes l_list) → K r1_a r1_n r1_e H'))
theorem T_impl_sizes_i {list_a : Option Addr} {list_n : Nat} {list_e : Nat} {H : AHeap} {K : (Option Addr) → Nat → Nat → AHeap → Prop} (h : ∃ (l_list : List Nat), IsL fF H list_a list_n l_list ∧ l_list.length < 1073741824 ∧ ((∀ (r1_a : Option Addr) (r1_n r1_e : Nat), ∀ H' : AHeap, Grow H H' → OwnS fF H' H.length r1_a r1_n r1_e (p_impl_sizes l_list) → K r1_a r1_n r1_e H'))) : T_impl_sizes list_a list_n list_e H K := h
theorem impl_sizes_go (l : List Nat) : ∀ (μ : Nat) (o : List Nat) (i : Nat), l.length - i < μ → p_impl_sizes_l1 l μ o (i : Int) = o ++ (l.drop i).map p_impl_size := by
  intro μ
  induction μ with
  | zero => intro o i h; omega
  | succ μ ih =>
    intro o i hm
    rw [p_impl_sizes_l1_s]
    by_cases h : i < l.length
    · rw [decide_eq_true (show (i : Int) < (l.length : Int) by omega), cond_true, Int.toNat_natCast]
      refine Eq.trans (ih _ (i + 1) ω3) ?_
      rw [List.drop_eq_getElem_cons h, List.map_cons, List.getD_eq_getElem?_getD, List.getElem?_eq_getElem h]
      simp
    · rw [decide_eq_false (show ¬ (i : Int) < (l.length : Int) by omega), cond_false, List.drop_eq_nil_of_le ω3]; simp
theorem impl_sizes_map (l : List Nat) : p_impl_sizes l = l.map p_impl_size := by
  rw [p_impl_sizes_eq]
  have := impl_sizes_go l (Int.toNat ((l.length : Int) - (0 : Int)) + 1) [] 0 ω3
  simpa using this
theorem impl_sizes_len (l : List Nat) : (p_impl_sizes l).length = l.length := by rw [impl_sizes_map]; simp
/-! impl_sizes: function 119 -/
def E_impl_sizes : Env := envOf [(150, S_impl_size)]
def F_impl_sizes : List Value → AHeap → (Value → AHeap → Prop) → Prop
  | [.slice list_a list_n list_e], H, K => T_impl_sizes list_a list_n list_e H fun (r1_a : Option Addr) (r1_n : Nat) (r1_e : Nat) (H' : AHeap) => K (.slice r1_a r1_n r1_e) H'
  | _, _, _ => False
def S_impl_sizes : FSpec := { F := F_impl_sizes, quiet := false, tame := true }
theorem impl_sizes_vc (list_a : Option Addr) (list_n : Nat) (list_e : Nat) (H : AHeap) (K : Value → AHeap → Prop) : bodyL Try.prog E_impl_sizes Try.f119 [.slice list_a list_n list_e] H K =
  (Al [] H fun b1 H1 => loopK (exL Try.prog E_impl_sizes (cl (cl (cr (cl (cr (cr (bodyC Try.f119))))))) 904 4 [(0, 8)]) [ud, ud, ud, .slice (some ⟨b1, 0, none⟩) 0 1, ud, ud, ud, .slice list_a list_n list_e, .int .i64 (list_n : Int), .int .i64 0, ud, ud, ud, ud, ud, ud, ud, ud, ud, ud] H1 (blockQ 0 (seqQ (exL Try.prog E_impl_sizes (cr (cr (cr (bodyC Try.f119)))) 4 4 []) (retK Try.prog Try.f119 K)))) := by kernel_rfl
abbrev impl_sizes_P1 (list_a : Option Addr) (list_e : Nat) (list_n : Nat) (vout_a : Option Addr) (vout_n : Nat) (vout_e : Nat) (t9 : Int)  : List Value := [ud, ud, ud, .slice vout_a vout_n vout_e, ud, ud, ud, .slice list_a list_n list_e, .int .i64 (list_n : Int), .int .i64 t9, ud, ud, ud, ud, ud, ud, ud, ud, ud, ud]
theorem impl_sizes_r1 (list_a : Option Addr) (list_e : Nat) (list_n : Nat) (vout_a : Option Addr) (vout_n : Nat) (vout_e : Nat) (t9 : Int)  (H : AHeap) (R : Post) : exL Try.prog E_impl_sizes (cl (cl (cr (cl (cr (cr (bodyC Try.f119))))))) 904 4 [(0, 8)] (impl_sizes_P1 list_a list_e list_n vout_a vout_n vout_e t9) H R =
  (Br (decide ((t9 : Int) < (list_n : Int))) ((0 : Int) ≤ t9 ∧ t9 < (list_n : Int) ∧ ∃ b2 f1, (list_a : Option Addr) = some ⟨b2, f1, none⟩ ∧ ∃ x1 : Nat,  rdC H b2 (f1 + (t9 : Int).toNat * 1) = some (.float .f32 x1) ∧ T_impl_size x1 H fun (r1 : Nat) (H2 : AHeap) => Al [.float .f32 r1] H2 fun b3 H3 => ∃ o1 w1 : List Value, ownB H3 vout_a vout_n vout_e 1 = some o1 ∧ rdS H3 (some ⟨b3, 0, none⟩) (1 * 1) = some w1 ∧ ((vout_a : Option Addr) = none → 0 < (1 : Nat)) ∧ (vout_n : Nat) + 1 < most ∧ Ap H3 (killB H3 vout_a ++ [some ⟨o1 ++ w1, true⟩]) fun b4 H4 => R .normal [ud, ud, ud, .slice (some ⟨b4, 0, none⟩) (vout_n + 1) 1, ud, ud, ud, .slice list_a list_n list_e, .int .i64 (list_n : Int), .int .i64 (IntKind.wrap .i64 (t9 + 1)), ud, ud, ud, ud, ud, ud, ud, ud, ud, ud] H4) (R (.exit 0) [ud, ud, ud, .slice vout_a vout_n vout_e, ud, ud, ud, ud, ud, ud, ud, ud, ud, ud, ud, ud, ud, ud, ud, ud] H)) := by kernel_rfl
def impl_sizes_I1 (list_a : Option Addr) (list_e : Nat) (list_n : Nat) (Inv : Nat → (Option Addr) → Nat → Nat → Int → AHeap → Prop) : Nat → List Value → AHeap → Prop := fun μ tm H => ∃ (vout_a : Option Addr), ∃ (vout_n : Nat), ∃ (vout_e : Nat), ∃ (t9 : Int), tm = (impl_sizes_P1 list_a list_e list_n vout_a vout_n vout_e t9) ∧ Inv μ vout_a vout_n vout_e t9 H
theorem impl_sizes_L1 (list_a : Option Addr) (list_e : Nat) (list_n : Nat) {Q : Post} (Inv : Nat → (Option Addr) → Nat → Nat → Int → AHeap → Prop) (ν : Nat) (vout_a : Option Addr) (vout_n : Nat) (vout_e : Nat) (t9 : Int)  (H : AHeap) (h0 : Inv ν vout_a vout_n vout_e t9 H)
    (hs : ∀ (μ : Nat) (vout_a : Option Addr) (vout_n : Nat) (vout_e : Nat) (t9 : Int)  (H : AHeap), Inv μ vout_a vout_n vout_e t9 H → exL Try.prog E_impl_sizes (cl (cl (cr (cl (cr (cr (bodyC Try.f119))))))) 904 4 [(0, 8)] (impl_sizes_P1 list_a list_e list_n vout_a vout_n vout_e t9) H (loopQ (impl_sizes_I1 list_a list_e list_n Inv) μ Q)) : loopK (exL Try.prog E_impl_sizes (cl (cl (cr (cl (cr (cr (bodyC Try.f119))))))) 904 4 [(0, 8)]) (impl_sizes_P1 list_a list_e list_n vout_a vout_n vout_e t9) H Q :=
  ⟨impl_sizes_I1 list_a list_e list_n Inv, ν, ⟨vout_a, vout_n, vout_e, t9, rfl, h0⟩, fun μ tm H h => by obtain ⟨vout_a, vout_n, vout_e, t9, rfl, hI⟩ := h; exact hs μ vout_a vout_n vout_e t9  H hI⟩
theorem impl_sizes_n1 {list_a : Option Addr} {list_e : Nat} {list_n : Nat} {Q : Post} {Inv : Nat → (Option Addr) → Nat → Nat → Int → AHeap → Prop} {μ : Nat} (μ' : Nat) {vout_a : Option Addr} {vout_n : Nat} {vout_e : Nat} {t9 : Int}  {H : AHeap} (hm : μ' < μ) (hI : Inv μ' vout_a vout_n vout_e t9 H) : loopQ (impl_sizes_I1 list_a list_e list_n Inv) μ Q .normal (impl_sizes_P1 list_a list_e list_n vout_a vout_n vout_e t9) H := ⟨μ', hm, vout_a, vout_n, vout_e, t9, rfl, hI⟩
theorem impl_sizes_x1_0 (vout_a : Option Addr) (vout_n : Nat) (vout_e : Nat) (H : AHeap) (K : Value → AHeap → Prop)  {I : Nat → List Value → AHeap → Prop} {μ : Nat} : loopQ I μ (blockQ 0 (seqQ (exL Try.prog E_impl_sizes (cr (cr (cr (bodyC Try.f119)))) 4 4 []) (retK Try.prog Try.f119 K))) (.exit 0) [ud, ud, ud, .slice vout_a vout_n vout_e, ud, ud, ud, ud, ud, ud, ud, ud, ud, ud, ud, ud, ud, ud, ud, ud] H =
  (K (.slice vout_a vout_n vout_e) H) := by kernel_rfl
theorem E_impl_sizes_ok : ∀ g, FnOk Try.prog g (E_impl_sizes g) := FnOk.envOf (by
  intro x hx
  simp only [List.mem_cons, List.not_mem_nil, or_false] at hx
  subst hx; exact impl_size_ok)
set_option maxHeartbeats 1000000 in
theorem impl_sizes_main (list_a : Option Addr) (list_n : Nat) (list_e : Nat) (H : AHeap) (K : Value → AHeap → Prop) (h : T_impl_sizes list_a list_n list_e H fun (r1_a : Option Addr) (r1_n : Nat) (r1_e : Nat) (H' : AHeap) => K (.slice r1_a r1_n r1_e) H') : bodyL Try.prog E_impl_sizes Try.f119 [.slice list_a list_n list_e] H K := by
  rw [impl_sizes_vc]
  obtain ⟨l_list, i_list, bd_48, hk⟩ := h
  obtain rfl := i_list.eqn
  have e : (p_impl_sizes l_list) = _ := rfl
  have e := e.trans (p_impl_sizes_eq l_list)
  have g0 := Grow.refl H
  refine Al.intro (fun b_1 H_1 hb_2 hl_3 g_4 o_5 => ?_)
  have o_5 : Own H_1 b_1 ((([] : List Nat)).map fF) := o_5
  have l_7 := g_4.1
  have g_8 := g0.trans g_4
  have l_9 := g_8.1
  have w_47 := o_5.lt
  refine impl_sizes_L1 _ _ _ (fun (μ : Nat) (vout_a : Option Addr) (vout_n : Nat) (vout_e : Nat) (t9 : Int) (H_2 : AHeap) => ∃ (l_vout : List Nat), ∃ (b_10 : Nat), vout_a = some ⟨b_10, 0, none⟩ ∧ vout_n = l_vout.length ∧ vout_e = 1 ∧ Own H_2 b_10 (l_vout.map fF) ∧ Grow H H_2 ∧ H.length ≤ b_10 ∧ (0 : Int) ≤ t9 ∧ t9 ≤ (l_list.length : Int) ∧ (l_vout.length : Int) ≤ t9 - (0 : Int) + 0 ∧ (l_list.length : Int) - t9 ≤ (μ : Int) ∧ p_impl_sizes l_list = p_impl_sizes_l1 l_list (μ + 1) l_vout t9) (Int.toNat ((l_list.length : Int) - (0 : Int))) _ _ _ _ H_1 ?_ ?_
  · exact ⟨_, _, rfl, ω10, rfl, o_5, g_8, ω3, ω5, ω5, ω5, ω3, e⟩
  · intro μ vout_a vout_n vout_e t9  H_2 hI
    obtain ⟨l_vout, b_10, rfl, rfl, rfl, o_11, g_12, l_13, v_14, v_15, v_16, hμ, e⟩ := hI
    rw [impl_sizes_r1]
    have e := e.trans (p_impl_sizes_l1_s l_list μ l_vout t9)
    have w_17 := o_11.lt
    have l_18 := g_12.1
    refine Br.intro (fun c_19 => ?_) (fun c_19 => ?_)
    · have e := e.trans (cond_t c_19)
      have c_19' := of_decide_eq_true c_19
      obtain ⟨b_20, f_21, q_22⟩ := ((i_list.grow g_12)).pos ω0
      refine ⟨by omega, by omega, b_20, f_21, q_22, ?_⟩
      refine ⟨((l_list).getD (t9 : Int).toNat 0), (i_list).rd g_12 q_22 ω3 _, ?_⟩
      refine T_impl_size_i ?_
      refine Al.intro (fun b_23 H_3 hb_24 hl_25 g_26 o_27 => ?_)
      have o_27 : Own H_3 b_23 (([((p_impl_size (((l_list).getD (t9 : Int).toNat 0))))]).map fF) := o_27
      have l_29 := g_26.1
      have g_30 := g_12.trans g_26
      have l_31 := g_30.1
      have o_32 := o_11.grow g_26
      have w_33 := o_32.lt
      have w_46 := o_27.lt
      refine ⟨_, _, o_32.ownB ω7 rfl, (isl_rdS (o_27.isL ω10)), (fun h => by cases h), ω22, ?_⟩
      refine Ap.app o_32 rfl rfl (fun b_38 H_4 q_44 hl_34 o_35 k_36 => ?_)
      have o_35 := map_snoc o_35
      have l_39 := k_36.1
      have g_40 := g_30.keep (b := b_10) ω3 k_36
      have l_41 := g_40.1
      have o_42 := o_27.keep ω3 k_36
      have w_43 := o_42.lt
      have w_45 := o_35.lt
      rw [show IntKind.wrap .i64 (t9 + 1) = (t9 + 1) from wrap64 ω3 ω3]
      refine impl_sizes_n1 (μ - 1) ω8 ⟨_, _, rfl, ω9, rfl, o_35, g_40, ω3, ω1, ω1, ω1, ω8, (by rw [show μ - 1 + 1 = μ from by first | omega]; exact e)⟩
    · have e := e.trans (cond_f c_19)
      have c_19' := of_decide_eq_false c_19
      rw [impl_sizes_x1_0]
      rw [e] at hk
      exact hk _ _ _ H_2 g_12 (o_11.ownS ω10 ω3)
theorem impl_sizes_ok : FnOk Try.prog 119 S_impl_sizes := by
  refine FnOk.body mix_ok E_impl_sizes_ok Try.func119 rfl (by kernel_rfl) (by kernel_rfl) ?_ ?_ ?_ ?_ ?_
  · intro args H K K' h hk
    simp only [S_impl_sizes] at *
    unfold F_impl_sizes at *
    split at hk
    · obtain ⟨l_list, i_list, bd_48, k⟩ := hk
      exact ⟨l_list, i_list, bd_48, (fun r1_a r1_n r1_e H' gg ow0 => h _ _ (k r1_a r1_n r1_e H' gg ow0))⟩
    · exact hk.elim
  · intro hq; cases hq
  · intro args H K hk
    simp only [S_impl_sizes] at *
    unfold F_impl_sizes at *
    split at hk
    · obtain ⟨l_list, i_list, bd_48, k⟩ := hk
      exact liveS fun a n e H1 g o => ⟨_, _, k a n e H1 g o⟩
    · exact hk.elim
  · intro _ args H K hk
    simp only [S_impl_sizes] at *
    unfold F_impl_sizes at *
    split at hk
    · obtain ⟨l_list, i_list, bd_48, k⟩ := hk
      exact ⟨l_list, i_list, bd_48, (fun r1_a r1_n r1_e H' gg ow0 => ⟨gg, k r1_a r1_n r1_e H' gg ow0⟩)⟩
    · exact hk.elim
  · have mm := @impl_sizes_main
    have ml := fun (args : List Value) (H : AHeap) (K : Value → AHeap → Prop) => bodyL_body (P := Try.prog) (env := E_impl_sizes ) (fn := Try.f119) (args := args) (H := H) (K := K) E_impl_sizes_ok 
    revert mm ml
    generalize bodyK Try.prog E_impl_sizes Try.f119 = Q
    generalize bodyL Try.prog E_impl_sizes Try.f119 = QL
    intro mm ml args H K hk
    simp only [S_impl_sizes] at *
    unfold F_impl_sizes at *
    split at hk
    · exact ml _ H K (mm _ _ _ H K hk)
    · exact hk.elim
def p_impl_isOver (x : Nat) : Bool := (bif (p_impl_IsFinite x) then flt .f32 0 x else false)
def T_impl_isOver (x : Nat) (H : AHeap) (K : Bool → AHeap → Prop) : Prop := K (p_impl_isOver x) H

theorem T_impl_isOver_i {x : Nat} {H : AHeap} {K : Bool → AHeap → Prop} (h : K (p_impl_isOver x) H) : T_impl_isOver x H K := h
/-! impl_isOver: function 134 -/
def E_impl_isOver : Env := envOf [(133, S_impl_IsFinite)]
def F_impl_isOver : List Value → AHeap → (Value → AHeap → Prop) → Prop
  | [.float .f32 x], H, K => T_impl_isOver x H fun (r1 : Bool) (H' : AHeap) => K (.bool r1) H'
  | _, _, _ => False
def S_impl_isOver : FSpec := { F := F_impl_isOver, quiet := true, tame := false }
theorem impl_isOver_vc (x : Nat) (H : AHeap) (K : Value → AHeap → Prop) : bodyL Try.prog E_impl_isOver Try.f134 [.float .f32 x] H K =
  (T_impl_IsFinite x H fun (r1 : Bool) (H1 : AHeap) => Br r1 (K (.bool (flt .f32 0 x)) H1) (K (.bool false) H1)) := by kernel_rfl
theorem E_impl_isOver_ok : ∀ g, FnOk Try.prog g (E_impl_isOver g) := FnOk.envOf (by
  intro x hx
  simp only [List.mem_cons, List.not_mem_nil, or_false] at hx
  subst hx; exact impl_IsFinite_ok)
set_option maxHeartbeats 1000000 in
theorem impl_isOver_main (x : Nat) (H : AHeap) (K : Value → AHeap → Prop) (h : T_impl_isOver x H fun (r1 : Bool) (H' : AHeap) => K (.bool r1) H') : bodyL Try.prog E_impl_isOver Try.f134 [.float .f32 x] H K := by
  rw [impl_isOver_vc]
  simp only [T_impl_IsFinite]
  unfold T_impl_isOver p_impl_isOver at h
  repeat' (first | exact h | (exfalso; simp_all; done) | (refine ⟨by decide, ?_⟩) | (refine Br.intro (fun hb => ?_) (fun hb => ?_) <;> (try simp only [hb, cond_true, cond_false, Bool.not_true, Bool.not_false] at h)))
theorem impl_isOver_ok : FnOk Try.prog 134 S_impl_isOver := by
  refine FnOk.body mix_ok E_impl_isOver_ok Try.func134 rfl (by kernel_rfl) (by kernel_rfl) ?_ ?_ ?_ ?_ ?_
  · intro args H K K' h hk
    simp only [S_impl_isOver] at *
    unfold F_impl_isOver at *
    split at hk
    · have k := hk
      exact h _ _ k
    · exact hk.elim
  · intro _ args H K hk
    simp only [S_impl_isOver] at *
    unfold F_impl_isOver at *
    split at hk
    · have k := hk
      exact ⟨_, k, fun K' k' => k'⟩
    · exact hk.elim
  · intro args H K hk
    simp only [S_impl_isOver] at *
    unfold F_impl_isOver at *
    split at hk
    · have k := hk
      exact ⟨_, _, k⟩
    · exact hk.elim
  · intro hq; cases hq
  · have mm := @impl_isOver_main
    have ml := fun (args : List Value) (H : AHeap) (K : Value → AHeap → Prop) => bodyL_body (P := Try.prog) (env := E_impl_isOver ) (fn := Try.f134) (args := args) (H := H) (K := K) E_impl_isOver_ok 
    revert mm ml
    generalize bodyK Try.prog E_impl_isOver Try.f134 = Q
    generalize bodyL Try.prog E_impl_isOver Try.f134 = QL
    intro mm ml args H K hk
    simp only [S_impl_isOver] at *
    unfold F_impl_isOver at *
    split at hk
    · exact ml _ H K (mm _ H K hk)
    · exact hk.elim
def p_impl_isLeast (x : Nat) : Bool := (bif (p_impl_IsFinite x) then fle .f32 0 x else false)
def T_impl_isLeast (x : Nat) (H : AHeap) (K : Bool → AHeap → Prop) : Prop := K (p_impl_isLeast x) H

theorem T_impl_isLeast_i {x : Nat} {H : AHeap} {K : Bool → AHeap → Prop} (h : K (p_impl_isLeast x) H) : T_impl_isLeast x H K := h
/-! impl_isLeast: function 106 -/
def E_impl_isLeast : Env := envOf [(133, S_impl_IsFinite)]
def F_impl_isLeast : List Value → AHeap → (Value → AHeap → Prop) → Prop
  | [.float .f32 x], H, K => T_impl_isLeast x H fun (r1 : Bool) (H' : AHeap) => K (.bool r1) H'
  | _, _, _ => False
def S_impl_isLeast : FSpec := { F := F_impl_isLeast, quiet := true, tame := false }
theorem impl_isLeast_vc (x : Nat) (H : AHeap) (K : Value → AHeap → Prop) : bodyL Try.prog E_impl_isLeast Try.f106 [.float .f32 x] H K =
  (T_impl_IsFinite x H fun (r1 : Bool) (H1 : AHeap) => Br r1 (K (.bool (fle .f32 0 x)) H1) (K (.bool false) H1)) := by kernel_rfl
theorem E_impl_isLeast_ok : ∀ g, FnOk Try.prog g (E_impl_isLeast g) := FnOk.envOf (by
  intro x hx
  simp only [List.mem_cons, List.not_mem_nil, or_false] at hx
  subst hx; exact impl_IsFinite_ok)
set_option maxHeartbeats 1000000 in
theorem impl_isLeast_main (x : Nat) (H : AHeap) (K : Value → AHeap → Prop) (h : T_impl_isLeast x H fun (r1 : Bool) (H' : AHeap) => K (.bool r1) H') : bodyL Try.prog E_impl_isLeast Try.f106 [.float .f32 x] H K := by
  rw [impl_isLeast_vc]
  simp only [T_impl_IsFinite]
  unfold T_impl_isLeast p_impl_isLeast at h
  repeat' (first | exact h | (exfalso; simp_all; done) | (refine ⟨by decide, ?_⟩) | (refine Br.intro (fun hb => ?_) (fun hb => ?_) <;> (try simp only [hb, cond_true, cond_false, Bool.not_true, Bool.not_false] at h)))
theorem impl_isLeast_ok : FnOk Try.prog 106 S_impl_isLeast := by
  refine FnOk.body mix_ok E_impl_isLeast_ok Try.func106 rfl (by kernel_rfl) (by kernel_rfl) ?_ ?_ ?_ ?_ ?_
  · intro args H K K' h hk
    simp only [S_impl_isLeast] at *
    unfold F_impl_isLeast at *
    split at hk
    · have k := hk
      exact h _ _ k
    · exact hk.elim
  · intro _ args H K hk
    simp only [S_impl_isLeast] at *
    unfold F_impl_isLeast at *
    split at hk
    · have k := hk
      exact ⟨_, k, fun K' k' => k'⟩
    · exact hk.elim
  · intro args H K hk
    simp only [S_impl_isLeast] at *
    unfold F_impl_isLeast at *
    split at hk
    · have k := hk
      exact ⟨_, _, k⟩
    · exact hk.elim
  · intro hq; cases hq
  · have mm := @impl_isLeast_main
    have ml := fun (args : List Value) (H : AHeap) (K : Value → AHeap → Prop) => bodyL_body (P := Try.prog) (env := E_impl_isLeast ) (fn := Try.f106) (args := args) (H := H) (K := K) E_impl_isLeast_ok 
    revert mm ml
    generalize bodyK Try.prog E_impl_isLeast Try.f106 = Q
    generalize bodyL Try.prog E_impl_isLeast Try.f106 = QL
    intro mm ml args H K hk
    simp only [S_impl_isLeast] at *
    unfold F_impl_isLeast at *
    split at hk
    · exact ml _ H K (mm _ H K hk)
    · exact hk.elim
end Go.Proofs.Ytbnplefohfamnaa.Ai
