/- What functions of the program come to on the abstract machine, and that they do so; printed by a program of mine around proofs of mine. -/
import Derived.Test.YtbnplefohfamnaaFFnExactDenoise2
set_option linter.unusedVariables false
set_option linter.unusedSimpArgs false
set_option linter.defProp false
set_option maxRecDepth 100000
set_option maxHeartbeats 1000000
namespace Go.Proofs.Ytbnplefohfamnaa.Ai
open Go
attribute [local irreducible] bodyK bodyL
def rsymM (ν : Nat) (l : LN) (a m b : Int) : LN := So.symM kappa ν l a.toNat m.toNat b.toNat
theorem rsymM_len (ν : Nat) (l : LN) (a m b : Int) : (rsymM ν l a m b).length = l.length := So.symM_length _ _ _ _ _ _
def p_f3z_l2 (ν0 : Nat) (ra : LN) (a : Int) (m : Int) (b : Int) (i : Int) (j : Int) (y1_1 : LN) (k2_2 : Int → LN → LN) : Nat → Int → LN → LN
 | 0, _, _ => []
 | μ2 + 1, k, y2_1 => (bif decide ((k : Int) < (i - 1)) then (p_f3z_l2 ν0 ra a m b i j y1_1 k2_2 μ2 (k + 1) (((((y2_1).set (k : Int).toNat ((((y2_1).getD ((k + 1) : Int).toNat 0))))).set ((k + 1) : Int).toNat ((((y2_1).getD (k : Int).toNat 0)))))) else (k2_2 k y2_1))
def p_f3z_l2_s := fun ν0 ra a m b i j y1_1 k2_2 μ2 k y2_1 => @p_f3z_l2.eq_2 ν0 ra a m b i j y1_1 k2_2 k y2_1 μ2
def p_f3z_l1 (ν0 : Nat) (ra : LN) (a : Int) (m : Int) (b : Int) : Nat → Int → Int → LN → LN
 | 0, _, _, _ => []
 | μ + 1, i, j, y1_1 => (bif decide ((i : Int) < j) then (bif decide (((p_f6z (((y1_1).getD (((i + j) / 2) : Int).toNat 0)) (((y1_1).getD (a : Int).toNat 0))) : Int) < 0) then (p_f3z_l1 ν0 ra a m b μ (((((i + j) / 2)) + 1)) j y1_1) else (p_f3z_l1 ν0 ra a m b μ i (((i + j) / 2)) y1_1)) else (p_f3z_l2 ν0 ra a m b i j y1_1 (fun (k : Int) (y2_1 : LN) => y2_1) (Int.toNat (i - a) + 1) a y1_1))
def p_f3z_l1_s := fun ν0 ra a m b μ i j y1_1 => @p_f3z_l1.eq_2 ν0 ra a m b i j y1_1 μ
def p_f3z_l4 (ν0 : Nat) (ra : LN) (a : Int) (m : Int) (b : Int) (gd : Int) (j15 : Int) (y3_1 : LN) (k4_6 : Int → LN → LN) : Nat → Int → LN → LN
 | 0, _, _ => []
 | μ4 + 1, k17, y4_1 => (bif decide ((gd : Int) < k17) then (p_f3z_l4 ν0 ra a m b gd j15 y3_1 k4_6 μ4 (k17 - 1) (((((y4_1).set (k17 : Int).toNat ((((y4_1).getD ((k17 - 1) : Int).toNat 0))))).set ((k17 - 1) : Int).toNat ((((y4_1).getD (k17 : Int).toNat 0)))))) else (k4_6 k17 y4_1))
def p_f3z_l4_s := fun ν0 ra a m b gd j15 y3_1 k4_6 μ4 k17 y4_1 => @p_f3z_l4.eq_2 ν0 ra a m b gd j15 y3_1 k4_6 k17 y4_1 μ4
def p_f3z_l3 (ν0 : Nat) (ra : LN) (a : Int) (m : Int) (b : Int) : Nat → Int → Int → LN → LN
 | 0, _, _, _ => []
 | μ + 1, gd, j15, y3_1 => (bif decide ((gd : Int) < j15) then (bif !(decide (((p_f6z (((y3_1).getD (m : Int).toNat 0)) (((y3_1).getD (((gd + j15) / 2) : Int).toNat 0))) : Int) < 0)) then (p_f3z_l3 ν0 ra a m b μ (((((gd + j15) / 2)) + 1)) j15 y3_1) else (p_f3z_l3 ν0 ra a m b μ gd (((gd + j15) / 2)) y3_1)) else (p_f3z_l4 ν0 ra a m b gd j15 y3_1 (fun (k17 : Int) (y4_1 : LN) => y4_1) (Int.toNat (m - gd) + 1) m y3_1))
def p_f3z_l3_s := fun ν0 ra a m b μ gd j15 y3_1 => @p_f3z_l3.eq_2 ν0 ra a m b gd j15 y3_1 μ
def p_f3z_l5 (ν0 : Nat) (ra : LN) (a : Int) (m : Int) (b : Int) : Nat → Int → Int → LN → LN
 | 0, _, _, _ => []
 | μ + 1, start, r, y5_1 => (bif decide ((start : Int) < r) then (bif !(decide (((p_f6z (((y5_1).getD (((((((((a + b) / 2)) + m)) - 1)) - (((start + r) / 2))) : Int).toNat 0)) (((y5_1).getD (((start + r) / 2) : Int).toNat 0))) : Int) < 0)) then (p_f3z_l5 ν0 ra a m b μ (((((start + r) / 2)) + 1)) r y5_1) else (p_f3z_l5 ν0 ra a m b μ start (((start + r) / 2)) y5_1)) else (bif decide ((start : Int) < m) then (bif decide ((m : Int) < ((((((a + b) / 2)) + m)) - start)) then (bif decide ((a : Int) < start) then (bif decide ((start : Int) < ((a + b) / 2)) then (bif decide ((((a + b) / 2) : Int) < ((((((a + b) / 2)) + m)) - start)) then (bif decide ((((((((a + b) / 2)) + m)) - start) : Int) < b) then (rsymM ν0 ((rsymM ν0 ((p_f4z y5_1 start m (((((((a + b) / 2)) + m)) - start)))) a start (((a + b) / 2)))) (((a + b) / 2)) (((((((a + b) / 2)) + m)) - start)) b) else (rsymM ν0 ((p_f4z y5_1 start m (((((((a + b) / 2)) + m)) - start)))) a start (((a + b) / 2)))) else (rsymM ν0 ((p_f4z y5_1 start m (((((((a + b) / 2)) + m)) - start)))) a start (((a + b) / 2)))) else (bif decide ((((a + b) / 2) : Int) < ((((((a + b) / 2)) + m)) - start)) then (bif decide ((((((((a + b) / 2)) + m)) - start) : Int) < b) then (rsymM ν0 ((p_f4z y5_1 start m (((((((a + b) / 2)) + m)) - start)))) (((a + b) / 2)) (((((((a + b) / 2)) + m)) - start)) b) else (p_f4z y5_1 start m (((((((a + b) / 2)) + m)) - start)))) else (p_f4z y5_1 start m (((((((a + b) / 2)) + m)) - start))))) else (bif decide ((((a + b) / 2) : Int) < ((((((a + b) / 2)) + m)) - start)) then (bif decide ((((((((a + b) / 2)) + m)) - start) : Int) < b) then (rsymM ν0 ((p_f4z y5_1 start m (((((((a + b) / 2)) + m)) - start)))) (((a + b) / 2)) (((((((a + b) / 2)) + m)) - start)) b) else (p_f4z y5_1 start m (((((((a + b) / 2)) + m)) - start)))) else (p_f4z y5_1 start m (((((((a + b) / 2)) + m)) - start))))) else (bif decide ((a : Int) < start) then (bif decide ((start : Int) < ((a + b) / 2)) then (bif decide ((((a + b) / 2) : Int) < ((((((a + b) / 2)) + m)) - start)) then (bif decide ((((((((a + b) / 2)) + m)) - start) : Int) < b) then (rsymM ν0 ((rsymM ν0 y5_1 a start (((a + b) / 2)))) (((a + b) / 2)) (((((((a + b) / 2)) + m)) - start)) b) else (rsymM ν0 y5_1 a start (((a + b) / 2)))) else (rsymM ν0 y5_1 a start (((a + b) / 2)))) else (bif decide ((((a + b) / 2) : Int) < ((((((a + b) / 2)) + m)) - start)) then (bif decide ((((((((a + b) / 2)) + m)) - start) : Int) < b) then (rsymM ν0 y5_1 (((a + b) / 2)) (((((((a + b) / 2)) + m)) - start)) b) else y5_1) else y5_1)) else (bif decide ((((a + b) / 2) : Int) < ((((((a + b) / 2)) + m)) - start)) then (bif decide ((((((((a + b) / 2)) + m)) - start) : Int) < b) then (rsymM ν0 y5_1 (((a + b) / 2)) (((((((a + b) / 2)) + m)) - start)) b) else y5_1) else y5_1))) else (bif decide ((a : Int) < start) then (bif decide ((start : Int) < ((a + b) / 2)) then (bif decide ((((a + b) / 2) : Int) < ((((((a + b) / 2)) + m)) - start)) then (bif decide ((((((((a + b) / 2)) + m)) - start) : Int) < b) then (rsymM ν0 ((rsymM ν0 y5_1 a start (((a + b) / 2)))) (((a + b) / 2)) (((((((a + b) / 2)) + m)) - start)) b) else (rsymM ν0 y5_1 a start (((a + b) / 2)))) else (rsymM ν0 y5_1 a start (((a + b) / 2)))) else (bif decide ((((a + b) / 2) : Int) < ((((((a + b) / 2)) + m)) - start)) then (bif decide ((((((((a + b) / 2)) + m)) - start) : Int) < b) then (rsymM ν0 y5_1 (((a + b) / 2)) (((((((a + b) / 2)) + m)) - start)) b) else y5_1) else y5_1)) else (bif decide ((((a + b) / 2) : Int) < ((((((a + b) / 2)) + m)) - start)) then (bif decide ((((((((a + b) / 2)) + m)) - start) : Int) < b) then (rsymM ν0 y5_1 (((a + b) / 2)) (((((((a + b) / 2)) + m)) - start)) b) else y5_1) else y5_1))))
def p_f3z_l5_s := fun ν0 ra a m b μ start r y5_1 => @p_f3z_l5.eq_2 ν0 ra a m b start r y5_1 μ
def p_f3z (ν0 : Nat) (ra : LN) (a : Int) (m : Int) (b : Int) : LN := ((bif ((m - a) : Int) == 1 then (p_f3z_l1 ν0 ra a m b (Int.toNat (b - m) + 1) m b ra) else (bif ((b - m) : Int) == 1 then (p_f3z_l3 ν0 ra a m b (Int.toNat (m - a) + 1) a m ra) else (bif decide ((((a + b) / 2) : Int) < m) then (p_f3z_l5 ν0 ra a m b (Int.toNat (((((a + b) / 2))) - ((((((((a + b) / 2)) + m)) - b)))) + 1) ((((((((a + b) / 2)) + m)) - b))) ((((a + b) / 2))) ra) else (p_f3z_l5 ν0 ra a m b (Int.toNat (m - a) + 1) a m ra)))))
def p_f3z_eq := @p_f3z.eq_1
def T_f3z_n (ν : Nat) (ia : OA) (ja : Nat) (ka : Nat) (a : Int) (m : Int) (b : Int) (H : AHeap) (K : AHeap → Prop) : Prop := ∃ lo : Nat, ∃ (ra : LN), OwnS fF H lo ia ja ka ra ∧ ra.length < 1073741824 ∧ 0 ≤ a ∧ a < m ∧ m < b ∧ b ≤ ra.length ∧ b - a ≤ ν ∧ ((∀ H' : AHeap, KeepA ia H H' → OwnS fF H' lo ia ja ka (rsymM ν ra a m b) → K  H'))
def T_f3z (ia : OA) (ja : Nat) (ka : Nat) (a : Int) (m : Int) (b : Int) (H : AHeap) (K : AHeap → Prop) : Prop := T_f3z_n (b - a).toNat ia ja ka a m b H K
theorem T_f3z_n_i {ν : Nat} {ia : OA} {ja : Nat} {ka : Nat} {a : Int} {m : Int} {b : Int} {H : AHeap} {K : AHeap → Prop} (h : ∃ lo : Nat, ∃ (ra : LN), OwnS fF H lo ia ja ka ra ∧ ra.length < 1073741824 ∧ 0 ≤ a ∧ a < m ∧ m < b ∧ b ≤ ra.length ∧ b - a ≤ ν ∧ ((∀ H' : AHeap, KeepA ia H H' → OwnS fF H' lo ia ja ka (rsymM ν ra a m b) → K  H'))) : T_f3z_n ν ia ja ka a m b H K := h
theorem T_f3z_i {ia : OA} {ja : Nat} {ka : Nat} {a : Int} {m : Int} {b : Int} {H : AHeap} {K : AHeap → Prop} (h : ∃ lo : Nat, ∃ (ra : LN), OwnS fF H lo ia ja ka ra ∧ ra.length < 1073741824 ∧ 0 ≤ a ∧ a < m ∧ m < b ∧ b ≤ ra.length ∧ b - a ≤ ((b - a).toNat) ∧ ((∀ H' : AHeap, KeepA ia H H' → OwnS fF H' lo ia ja ka (rsymM ((b - a).toNat) ra a m b) → K  H'))) : T_f3z ia ja ka a m b H K := h
theorem sym_l2 (ν : Nat) (l : LN) (a m b i j : Int) (y1 : LN) : ∀ (μ : Nat) (k : Int) (y : LN), i - k ≤ μ → 0 ≤ k →
  p_f3z_l2 ν l a m b i j y1 (fun _ y => y) (μ + 1) k y = So.upTo (i - 1 - k).toNat y k.toNat := by
 intro μ
 induction μ with
 | zero =>
  intro k y h1 h2
  rw [p_f3z_l2_s, decide_eq_false ω2, cond_false, show (i - 1 - k).toNat = 0 by omega]; rfl
 | succ μ ih =>
  intro k y h1 h2
  rw [p_f3z_l2_s]
  by_cases h : k < i - 1
  ·obtain ⟨n, hn⟩ : ∃ n, (i - 1 - k).toNat = n + 1 := ⟨(i - 1 - k).toNat - 1, by omega⟩
   rw [decide_eq_true h, cond_true, ih _ _ ω2 ω2, hn, show (i - 1 - (k + 1)).toNat = n by omega, show (k + 1).toNat = k.toNat + 1 by omega]; rfl
  ·rw [decide_eq_false h, cond_false, show (i - 1 - k).toNat = 0 by omega]; rfl
theorem sym_l1 (ν : Nat) (l : LN) (a m b : Int) (y : LN) (ha : 0 ≤ a) : ∀ (μ : Nat) (i j : Int), j - i ≤ μ → 0 ≤ i → i ≤ j →
  p_f3z_l1 ν l a m b (μ + 1) i j y = So.upTo (So.bs (fun h => So.lt_ kappa (So.at_ y h) (So.at_ y a.toNat)) μ i.toNat j.toNat - 1 - a.toNat) y a.toNat := by
 intro μ
 induction μ with
 | zero =>
  intro i j h1 h2 h3
  rw [p_f3z_l1_s, decide_eq_false ω2, cond_false, sym_l2 _ _ _ _ _ _ _ _ _ _ _ ω2 ha]
  unfold So.bs
  rw [show (i - 1 - a).toNat = i.toNat - 1 - a.toNat by omega]
 | succ μ ih =>
  intro i j h1 h2 h3
  rw [p_f3z_l1_s]
  unfold So.bs
  by_cases h : i < j
  ·rw [decide_eq_true h, cond_true, cmp_neg, if_pos ω2]
   have e : So.lt_ kappa (y.getD ((i + j) / 2).toNat 0) (y.getD a.toNat 0) = So.lt_ kappa (So.at_ y ((i.toNat + j.toNat) / 2)) (So.at_ y a.toNat) := by
    rw [show ((i + j) / 2).toNat = (i.toNat + j.toNat) / 2 by omega]; rfl
   rw [e]
   cases hc : So.lt_ kappa (So.at_ y ((i.toNat + j.toNat) / 2)) (So.at_ y a.toNat)
   ·rw [cond_false, ih _ _ ω2 h2 ω2, show ((i + j) / 2).toNat = (i.toNat + j.toNat) / 2 by omega]; simp
   ·rw [cond_true, ih _ _ ω2 ω2 ω2, show ((i + j) / 2 + 1).toNat = (i.toNat + j.toNat) / 2 + 1 by omega]; simp
  ·rw [decide_eq_false h, cond_false, sym_l2 _ _ _ _ _ _ _ _ _ _ _ ω2 ha, if_neg ω2, show (i - 1 - a).toNat = i.toNat - 1 - a.toNat by omega]
theorem sym_l4 (ν : Nat) (l : LN) (a m b i j : Int) (y1 : LN) : ∀ (μ : Nat) (k : Int) (y : LN), k - i ≤ μ → 0 ≤ i →
  p_f3z_l4 ν l a m b i j y1 (fun _ y => y) (μ + 1) k y = So.downTo (k - i).toNat y k.toNat := by
 intro μ
 induction μ with
 | zero =>
  intro k y h1 h2
  rw [p_f3z_l4_s, decide_eq_false ω2, cond_false, show (k - i).toNat = 0 by omega]; rfl
 | succ μ ih =>
  intro k y h1 h2
  rw [p_f3z_l4_s]
  by_cases h : i < k
  ·obtain ⟨n, hn⟩ : ∃ n, (k - i).toNat = n + 1 := ⟨(k - i).toNat - 1, by omega⟩
   rw [decide_eq_true h, cond_true, ih _ _ ω2 ω2, hn, show (k - 1 - i).toNat = n by omega, show (k - 1).toNat = k.toNat - 1 by omega]; rfl
  ·rw [decide_eq_false h, cond_false, show (k - i).toNat = 0 by omega]; rfl
theorem sym_l3 (ν : Nat) (l : LN) (a m b : Int) (y : LN) : ∀ (μ : Nat) (i j : Int), j - i ≤ μ → 0 ≤ i → i ≤ j →
  p_f3z_l3 ν l a m b (μ + 1) i j y = So.downTo (m.toNat - So.bs (fun h => !(So.lt_ kappa (So.at_ y m.toNat) (So.at_ y h))) μ i.toNat j.toNat) y m.toNat := by
 intro μ
 induction μ with
 | zero =>
  intro i j h1 h2 h3
  rw [p_f3z_l3_s, decide_eq_false ω2, cond_false, sym_l4 _ _ _ _ _ _ _ _ _ _ _ ω2 h2]
  unfold So.bs
  rw [show (m - i).toNat = m.toNat - i.toNat by omega]
 | succ μ ih =>
  intro i j h1 h2 h3
  rw [p_f3z_l3_s]
  unfold So.bs
  by_cases h : i < j
  ·rw [decide_eq_true h, cond_true, cmp_neg, if_pos ω2]
   have e : So.lt_ kappa (y.getD m.toNat 0) (y.getD ((i + j) / 2).toNat 0) = So.lt_ kappa (So.at_ y m.toNat) (So.at_ y ((i.toNat + j.toNat) / 2)) := by
    rw [show ((i + j) / 2).toNat = (i.toNat + j.toNat) / 2 by omega]; rfl
   rw [e]
   cases hc : So.lt_ kappa (So.at_ y m.toNat) (So.at_ y ((i.toNat + j.toNat) / 2))
   ·rw [Bool.not_false, cond_true, ih _ _ ω2 ω2 ω2, show ((i + j) / 2 + 1).toNat = (i.toNat + j.toNat) / 2 + 1 by omega]; simp
   ·rw [Bool.not_true, cond_false, ih _ _ ω2 h2 ω2, show ((i + j) / 2).toNat = (i.toNat + j.toNat) / 2 by omega]; simp
  ·rw [decide_eq_false h, cond_false, sym_l4 _ _ _ _ _ _ _ _ _ _ _ ω2 h2, if_neg ω2, show (m - i).toNat = m.toNat - i.toNat by omega]
def symT (ν : Nat) (y : LN) (a m b s e mid : Nat) : LN :=
 let l1 := if s < m ∧ m < e then So.rot (e - s + 1) y m (m - s) (e - m) else y
 let l2 := if a < s ∧ s < mid then So.symM kappa ν l1 a s mid else l1
 if mid < e ∧ e < b then So.symM kappa ν l2 mid e b else l2
theorem sym_l5 (ν : Nat) (l : LN) (a m b : Int) (y : LN) (ha : 0 ≤ a) (ham : a < m) (hmb : m < b) : ∀ (μ : Nat) (s r : Int), r - s ≤ μ → a ≤ s → s ≤ r → r ≤ m → r ≤ (a + b) / 2 → (a + b) / 2 + m - b ≤ s →
  p_f3z_l5 ν l a m b (μ + 1) s r y =
   symT ν y a.toNat m.toNat b.toNat (So.bs (fun c => !(So.lt_ kappa (So.at_ y ((a.toNat + b.toNat) / 2 + m.toNat - 1 - c)) (So.at_ y c))) μ s.toNat r.toNat)
    ((a.toNat + b.toNat) / 2 + m.toNat - So.bs (fun c => !(So.lt_ kappa (So.at_ y ((a.toNat + b.toNat) / 2 + m.toNat - 1 - c)) (So.at_ y c))) μ s.toNat r.toNat) ((a.toNat + b.toNat) / 2) := by
 have base : ∀ (μ : Nat) (s r : Int), a ≤ s → s ≤ m → s ≤ (a + b) / 2 → (a + b) / 2 + m - b ≤ s → ¬ s < r → p_f3z_l5 ν l a m b (μ + 1) s r y =
   symT ν y a.toNat m.toNat b.toNat s.toNat ((a.toNat + b.toNat) / 2 + m.toNat - s.toNat) ((a.toNat + b.toNat) / 2) := by
  intro μ s r h1 h2 h3 h4 h
  rw [p_f3z_l5_s, decide_eq_false h, cond_false]
  generalize hmid : (a + b) / 2 = mid
  rw [show (a.toNat + b.toNat) / 2 = mid.toNat by omega, show mid.toNat + m.toNat - s.toNat = (mid + m - s).toNat by omega]
  generalize he : mid + m - s = e
  have eR : s < m → m < e → p_f4z y s m e = So.rot (e.toNat - s.toNat + 1) y m.toNat (m.toNat - s.toNat) (e.toNat - m.toNat) := fun g1 g2 => by
   rw [slices_rotate_eq y s m e ω2 g1 g2, show (e - s).toNat = e.toNat - s.toNat by omega, show (m - s).toNat = m.toNat - s.toNat by omega, show (e - m).toNat = e.toNat - m.toNat by omega]
  have fin5 : ∀ X Y : LN, (bif decide ((mid : Int) < e) then (bif decide ((e : Int) < b) then X else Y) else Y) = if mid.toNat < e.toNat ∧ e.toNat < b.toNat then X else Y := fun X Y => by
   by_cases c5 : mid < e
   ·by_cases c6 : e < b
    ·rw [decide_eq_true c5, decide_eq_true c6, cond_true, cond_true, if_pos ⟨by omega, by omega⟩]
    ·rw [decide_eq_true c5, decide_eq_false c6, cond_true, cond_false, if_neg ω2]
   ·rw [decide_eq_false c5, cond_false, if_neg ω2]
  have mid5 : ∀ L : LN, (bif decide ((a : Int) < s) then (bif decide ((s : Int) < mid) then (bif decide ((mid : Int) < e) then (bif decide ((e : Int) < b) then So.symM kappa ν (So.symM kappa ν L a.toNat s.toNat mid.toNat) mid.toNat e.toNat b.toNat else So.symM kappa ν L a.toNat s.toNat mid.toNat) else So.symM kappa ν L a.toNat s.toNat mid.toNat)
     else (bif decide ((mid : Int) < e) then (bif decide ((e : Int) < b) then So.symM kappa ν L mid.toNat e.toNat b.toNat else L) else L)) else (bif decide ((mid : Int) < e) then (bif decide ((e : Int) < b) then So.symM kappa ν L mid.toNat e.toNat b.toNat else L) else L)) =
    (let l2 := if a.toNat < s.toNat ∧ s.toNat < mid.toNat then So.symM kappa ν L a.toNat s.toNat mid.toNat else L
     if mid.toNat < e.toNat ∧ e.toNat < b.toNat then So.symM kappa ν l2 mid.toNat e.toNat b.toNat else l2) := fun L => by
   simp only [fin5]
   by_cases c3 : a < s
   ·by_cases c4 : s < mid
    ·rw [decide_eq_true c3, decide_eq_true c4, cond_true, cond_true, if_pos (c := a.toNat < s.toNat ∧ s.toNat < mid.toNat) ⟨by omega, by omega⟩]
    ·rw [decide_eq_true c3, decide_eq_false c4, cond_true, cond_false, if_neg (c := a.toNat < s.toNat ∧ s.toNat < mid.toNat) ω2]
   ·rw [decide_eq_false c3, cond_false, if_neg (c := a.toNat < s.toNat ∧ s.toNat < mid.toNat) ω2]
  unfold symT
  simp only [rsymM, mid5]
  by_cases c1 : s < m
  ·by_cases c2 : m < e
   ·rw [decide_eq_true c1, decide_eq_true c2, cond_true, cond_true, if_pos (c := s.toNat < m.toNat ∧ m.toNat < e.toNat) ⟨by omega, by omega⟩, eR c1 c2]
   ·rw [decide_eq_true c1, decide_eq_false c2, cond_true, cond_false, if_neg (c := s.toNat < m.toNat ∧ m.toNat < e.toNat) ω2]
  ·rw [decide_eq_false c1, cond_false, if_neg (c := s.toNat < m.toNat ∧ m.toNat < e.toNat) ω2]
 intro μ
 induction μ with
 | zero =>
  intro s r h1 h2 h3 h4 h5 h6
  rw [base 0 s r h2 ω2 ω2 h6 ω2]
  rfl
 | succ μ ih =>
  intro s r h1 h2 h3 h4 h5 h6
  by_cases h : s < r
  ·rw [p_f3z_l5_s, decide_eq_true h, cond_true, cmp_neg]
   unfold So.bs
   rw [if_pos (show s.toNat < r.toNat by omega)]
   have e : So.lt_ kappa (y.getD ((a + b) / 2 + m - 1 - (s + r) / 2).toNat 0) (y.getD ((s + r) / 2).toNat 0) = So.lt_ kappa (So.at_ y ((a.toNat + b.toNat) / 2 + m.toNat - 1 - (s.toNat + r.toNat) / 2)) (So.at_ y ((s.toNat + r.toNat) / 2)) := by
    rw [show ((a + b) / 2 + m - 1 - (s + r) / 2).toNat = (a.toNat + b.toNat) / 2 + m.toNat - 1 - (s.toNat + r.toNat) / 2 by omega, show ((s + r) / 2).toNat = (s.toNat + r.toNat) / 2 by omega]; rfl
   rw [e]
   cases hc : So.lt_ kappa (So.at_ y ((a.toNat + b.toNat) / 2 + m.toNat - 1 - (s.toNat + r.toNat) / 2)) (So.at_ y ((s.toNat + r.toNat) / 2))
   ·rw [Bool.not_false, cond_true, ih _ _ ω2 ω2 ω2 h4 h5 ω2, show ((s + r) / 2 + 1).toNat = (s.toNat + r.toNat) / 2 + 1 by omega]; simp
   ·rw [Bool.not_true, cond_false, ih _ _ ω2 h2 ω2 ω2 ω2 h6, show ((s + r) / 2).toNat = (s.toNat + r.toNat) / 2 by omega]; simp
  ·rw [base _ s r h2 ω2 ω2 h6 h]
   unfold So.bs
   rw [if_neg ω2]
theorem rot_more : ∀ (f : Nat) (l : LN) (m i j : Nat), i + j ≤ f → 0 < i → 0 < j → So.rot (f + 1) l m i j = So.rot f l m i j := by
 intro f
 induction f with
 | zero => intro l m i j h1 h2; omega
 | succ f ih =>
  intro l m i j h1 h2 h3
  conv => lhs; rw [So.rot]
  conv => rhs; rw [So.rot]
  split
  ·rfl
  ·split
   ·exact ih _ _ _ _ ω2 ω2 h3
   ·exact ih _ _ _ _ ω2 h2 ω2
theorem rsymM_eq (ν : Nat) (l : LN) (a m b : Int) (ha : 0 ≤ a) (ham : a < m) (hmb : m < b) : rsymM (ν + 1) l a m b = p_f3z ν l a m b := by
 rw [p_f3z_eq]
 unfold rsymM So.symM
 by_cases c1 : m - a = 1
 ·rw [show ((m - a : Int) == 1) = true by simpa using c1, cond_true, if_pos ω2, sym_l1 _ _ _ _ _ _ ha _ _ _ ω2 ω2 ω2]
  rw [show (b - m).toNat = b.toNat - m.toNat by omega]
 ·rw [show ((m - a : Int) == 1) = false by simpa using c1, cond_false, if_neg ω2]
  by_cases c2 : b - m = 1
  ·rw [show ((b - m : Int) == 1) = true by simpa using c2, cond_true, if_pos ω2, sym_l3 _ _ _ _ _ _ _ _ _ ω2 ω2 ω2]
   rw [show (m - a).toNat = m.toNat - a.toNat by omega]
  ·rw [show ((b - m : Int) == 1) = false by simpa using c2, cond_false, if_neg ω2]
   have tl : ∀ (y : LN) (s e mid : Nat), symT ν y a.toNat m.toNat b.toNat s e mid =
     (let l1 := if s < m.toNat ∧ m.toNat < e then So.rot (e - s) y m.toNat (m.toNat - s) (e - m.toNat) else y
      let l2 := if a.toNat < s ∧ s < mid then So.symM kappa ν l1 a.toNat s mid else l1
      if mid < e ∧ e < b.toNat then So.symM kappa ν l2 mid e b.toNat else l2) := by
    intro y s e mid
    unfold symT
    have : (if s < m.toNat ∧ m.toNat < e then So.rot (e - s + 1) y m.toNat (m.toNat - s) (e - m.toNat) else y) = (if s < m.toNat ∧ m.toNat < e then So.rot (e - s) y m.toNat (m.toNat - s) (e - m.toNat) else y) := by
     split
     ·exact rot_more _ _ _ _ _ ω2 ω2 ω2
     ·rfl
    simp only [this]
   by_cases c3 : (a + b) / 2 < m
   ·rw [decide_eq_true c3, cond_true, sym_l5 ν l a m b l ha ham hmb _ _ _ ω2 ω2 ω2 ω2 ω2 ω2, tl]
    simp only [if_pos (show (a.toNat + b.toNat) / 2 < m.toNat by omega)]
    rw [show ((a + b) / 2 - ((a + b) / 2 + m - b)).toNat = (a.toNat + b.toNat) / 2 - ((a.toNat + b.toNat) / 2 + m.toNat - b.toNat) by omega,
     show ((a + b) / 2 + m - b).toNat = (a.toNat + b.toNat) / 2 + m.toNat - b.toNat by omega, show ((a + b) / 2).toNat = (a.toNat + b.toNat) / 2 by omega]
   ·rw [decide_eq_false c3, cond_false, sym_l5 ν l a m b l ha ham hmb _ _ _ ω2 ω2 ω2 ω2 ω2 ω2, tl]
    simp only [if_neg (show ¬ (a.toNat + b.toNat) / 2 < m.toNat by omega)]
    rw [show (m - a).toNat = m.toNat - a.toNat by omega]
/-! f3z: function 227 -/
def F_f3z_n (ν : Nat) : List Value → AHeap → (Value → AHeap → Prop) → Prop
 | [.slice ia ja ka, .int .i64 a, .int .i64 m, .int .i64 b, .func (.func 174) ⟨[]⟩ ⟨[]⟩], H, K => T_f3z_n ν ia ja ka a m b H fun  (H' : AHeap) => K (.tuple #[]) H'
 | _, _, _ => False
def S_f3z_n (ν : Nat) : FSpec := { F := F_f3z_n ν, quiet := false, tame := false }
def F_f3z : List Value → AHeap → (Value → AHeap → Prop) → Prop
 | [.slice ia ja ka, .int .i64 a, .int .i64 m, .int .i64 b, .func (.func 174) ⟨[]⟩ ⟨[]⟩], H, K => T_f3z ia ja ka a m b H fun  (H' : AHeap) => K (.tuple #[]) H'
 | _, _, _ => False
def S_f3z : FSpec := { F := F_f3z, quiet := false, tame := false }
def E_f3z (ν : Nat) : Env := envOf [(999999, quietMark), (174, S_f6z), (241, S_f4z), (227, S_f3z_n ν)]
theorem f3z_vc {ν0 : Nat} (ia : OA) (ja : Nat) (ka : Nat) (a : Int) (m : Int) (b : Int) (H : AHeap) (K : Value → AHeap → Prop) : bodyL Try.prog (E_f3z ν0) Try.f227 [.slice ia ja ka, .int .i64 a, .int .i64 m, .int .i64 b, .func (.func 174) #[] #[]] H K =
 (Br ((IntKind.wrap .i64 (m - a) : Int) == 1) (loopK (exL Try.prog (E_f3z ν0) (cl (cl (cl (cr (cr (cl (cr (cl (bodyC Try.f227))))))))) 3091 0 [(0, 1027)]) (.slice ia ja ka :: .int .i64 a :: ud2 (.func (.func 174) #[] #[] :: ud5 (.int .i64 m :: .int .i64 b :: ud208 []))) H (blockQ 0 (seqQ (exL Try.prog (E_f3z ν0) (cr (cr (cr (cl (cr (cl (bodyC Try.f227))))))) 31 0 []) (seqQ (exL Try.prog (E_f3z ν0) (cr (bodyC Try.f227)) 0 0 []) (retK Try.prog Try.f227 K))))) (Br ((IntKind.wrap .i64 (b - m) : Int) == 1) (loopK (exL Try.prog (E_f3z ν0) (cl (cl (cl (cr (cr (cl (cr (cl (cr (bodyC Try.f227)))))))))) 49173 0 [(4, 16389)]) (.slice ia ja ka :: ud :: .int .i64 m :: ud :: .func (.func 174) #[] #[] :: ud9 (.int .i64 a :: .int .i64 m :: ud204 [])) H (blockQ 4 (seqQ (exL Try.prog (E_f3z ν0) (cr (cr (cr (cl (cr (cl (cr (bodyC Try.f227)))))))) 31 0 []) (seqQ (exL Try.prog (E_f3z ν0) (cr (cr (bodyC Try.f227))) 0 0 []) (retK Try.prog Try.f227 K))))) ((0 : Int) ≤ 1 ∧ Br (decide ((IntKind.wrap .i64 (Int.fdiv (IntKind.wrap .u64 (IntKind.wrap .i64 (a + b))) (2 ^ (min (1 : Int).toNat (IntKind.bits .u64)))) : Int) < m)) (loopK (exL Try.prog (E_f3z ν0) (cl (cl (cl (cr (cr (cr (cr (cr (cr (cr (bodyC Try.f227))))))))))) 8126495 0 [(8, 1835039)]) (.slice ia ja ka :: .int .i64 a :: .int .i64 m :: .int .i64 b :: .func (.func 174) #[] #[] :: ud13 (.int .i64 (IntKind.wrap .i64 (Int.fdiv (IntKind.wrap .u64 (IntKind.wrap .i64 (a + b))) (2 ^ (min (1 : Int).toNat (IntKind.bits .u64))))) :: .int .i64 (IntKind.wrap .i64 ((IntKind.wrap .i64 (Int.fdiv (IntKind.wrap .u64 (IntKind.wrap .i64 (a + b))) (2 ^ (min (1 : Int).toNat (IntKind.bits .u64))))) + m)) :: .int .i64 (IntKind.wrap .i64 ((IntKind.wrap .i64 ((IntKind.wrap .i64 (Int.fdiv (IntKind.wrap .u64 (IntKind.wrap .i64 (a + b))) (2 ^ (min (1 : Int).toNat (IntKind.bits .u64))))) + m)) - b)) :: .int .i64 (IntKind.wrap .i64 (Int.fdiv (IntKind.wrap .u64 (IntKind.wrap .i64 (a + b))) (2 ^ (min (1 : Int).toNat (IntKind.bits .u64))))) :: .int .i64 (IntKind.wrap .i64 ((IntKind.wrap .i64 ((IntKind.wrap .i64 (Int.fdiv (IntKind.wrap .u64 (IntKind.wrap .i64 (a + b))) (2 ^ (min (1 : Int).toNat (IntKind.bits .u64))))) + m)) - 1)) :: ud197 [])) H (blockQ 8 (seqQ (exL Try.prog (E_f3z ν0) (cr (cr (cr (cr (cr (cr (cr (cr (bodyC Try.f227))))))))) 0 0 []) (retK Try.prog Try.f227 K)))) (loopK (exL Try.prog (E_f3z ν0) (cl (cl (cl (cr (cr (cr (cr (cr (cr (cr (bodyC Try.f227))))))))))) 8126495 0 [(8, 1835039)]) (.slice ia ja ka :: .int .i64 a :: .int .i64 m :: .int .i64 b :: .func (.func 174) #[] #[] :: ud13 (.int .i64 (IntKind.wrap .i64 (Int.fdiv (IntKind.wrap .u64 (IntKind.wrap .i64 (a + b))) (2 ^ (min (1 : Int).toNat (IntKind.bits .u64))))) :: .int .i64 (IntKind.wrap .i64 ((IntKind.wrap .i64 (Int.fdiv (IntKind.wrap .u64 (IntKind.wrap .i64 (a + b))) (2 ^ (min (1 : Int).toNat (IntKind.bits .u64))))) + m)) :: .int .i64 a :: .int .i64 m :: .int .i64 (IntKind.wrap .i64 ((IntKind.wrap .i64 ((IntKind.wrap .i64 (Int.fdiv (IntKind.wrap .u64 (IntKind.wrap .i64 (a + b))) (2 ^ (min (1 : Int).toNat (IntKind.bits .u64))))) + m)) - 1)) :: ud197 [])) H (blockQ 8 (seqQ (exL Try.prog (E_f3z ν0) (cr (cr (cr (cr (cr (cr (cr (cr (bodyC Try.f227))))))))) 0 0 []) (retK Try.prog Try.f227 K))))))) := by kernel_rfl
abbrev f3z_P1 (a : Int) (ia : OA) (ka : Nat) (ja : Nat) (i : Int) (j : Int)  : List Value := (.slice ia ja ka :: .int .i64 a :: ud2 (.func (.func 174) #[] #[] :: ud5 (.int .i64 i :: .int .i64 j :: ud208 [])))
theorem f3z_r1 {ν0 : Nat} (a : Int) (ia : OA) (ka : Nat) (ja : Nat) (i : Int) (j : Int)  (H : AHeap) (R : Post) : exL Try.prog (E_f3z ν0) (cl (cl (cl (cr (cr (cl (cr (cl (bodyC Try.f227))))))))) 3091 0 [(0, 1027)] (f3z_P1 a ia ka ja i j) H R =
 (Br (decide ((i : Int) < j)) ((0 : Int) ≤ 1 ∧ (0 : Int) ≤ IntKind.wrap .i64 (Int.fdiv (IntKind.wrap .u64 (IntKind.wrap .i64 (i + j))) (2 ^ (min (1 : Int).toNat (IntKind.bits .u64)))) ∧ IntKind.wrap .i64 (Int.fdiv (IntKind.wrap .u64 (IntKind.wrap .i64 (i + j))) (2 ^ (min (1 : Int).toNat (IntKind.bits .u64)))) < (ja : Int) ∧ ∃ b1 f1, (ia : OA) = some ⟨b1, f1, none⟩ ∧ ∃ x1 : Nat,  rdC H b1 (f1 + (IntKind.wrap .i64 (Int.fdiv (IntKind.wrap .u64 (IntKind.wrap .i64 (i + j))) (2 ^ (min (1 : Int).toNat (IntKind.bits .u64)))) : Int).toNat * 1) = some (.float .f32 x1) ∧ (0 : Int) ≤ a ∧ a < (ja : Int) ∧ ∃ b2 f2, (ia : OA) = some ⟨b2, f2, none⟩ ∧ ∃ x2 : Nat,  rdC H b2 (f2 + (a : Int).toNat * 1) = some (.float .f32 x2) ∧ T_f6z x1 x2 H fun (r1 : Int) (H1 : AHeap) => Br (decide ((r1 : Int) < 0)) (R .normal (.slice ia ja ka :: .int .i64 a :: ud2 (.func (.func 174) #[] #[] :: ud5 (.int .i64 (IntKind.wrap .i64 ((IntKind.wrap .i64 (Int.fdiv (IntKind.wrap .u64 (IntKind.wrap .i64 (i + j))) (2 ^ (min (1 : Int).toNat (IntKind.bits .u64))))) + 1)) :: .int .i64 j :: ud208 []))) H1) (R .normal (.slice ia ja ka :: .int .i64 a :: ud2 (.func (.func 174) #[] #[] :: ud5 (.int .i64 i :: .int .i64 (IntKind.wrap .i64 (Int.fdiv (IntKind.wrap .u64 (IntKind.wrap .i64 (i + j))) (2 ^ (min (1 : Int).toNat (IntKind.bits .u64))))) :: ud208 []))) H1)) (R (.exit 0) (.slice ia ja ka :: .int .i64 a :: ud8 (.int .i64 i :: ud209 [])) H)) := by kernel_rfl
def f3z_I1 (a : Int) (ia : OA) (ka : Nat) (ja : Nat) (Inv : Nat → Int → Int → AHeap → Prop) : Nat → List Value → AHeap → Prop := fun μ tm H => ∃ (i : Int), ∃ (j : Int), tm = (f3z_P1 a ia ka ja i j) ∧ Inv μ i j H
theorem f3z_L1 {ν0 : Nat} (a : Int) (ia : OA) (ka : Nat) (ja : Nat) {Q : Post} (Inv : Nat → Int → Int → AHeap → Prop) (ν : Nat) (i : Int) (j : Int)  (H : AHeap) (h0 : Inv ν i j H)
  (hs : ∀ (μ : Nat) (i : Int) (j : Int)  (H : AHeap), Inv μ i j H → exL Try.prog (E_f3z ν0) (cl (cl (cl (cr (cr (cl (cr (cl (bodyC Try.f227))))))))) 3091 0 [(0, 1027)] (f3z_P1 a ia ka ja i j) H (loopQ (f3z_I1 a ia ka ja Inv) μ Q)) : loopK (exL Try.prog (E_f3z ν0) (cl (cl (cl (cr (cr (cl (cr (cl (bodyC Try.f227))))))))) 3091 0 [(0, 1027)]) (f3z_P1 a ia ka ja i j) H Q :=
 ⟨f3z_I1 a ia ka ja Inv, ν, ⟨i, j, rfl, h0⟩, fun μ tm H h => by obtain ⟨i, j, rfl, hI⟩ := h; exact hs μ i j  H hI⟩
theorem f3z_n1 {a : Int} {ia : OA} {ka : Nat} {ja : Nat} {Q : Post} {Inv : Nat → Int → Int → AHeap → Prop} {μ : Nat} (μ' : Nat) {i : Int} {j : Int}  {H : AHeap} (hm : μ' < μ) (hI : Inv μ' i j H) : loopQ (f3z_I1 a ia ka ja Inv) μ Q .normal (f3z_P1 a ia ka ja i j) H := ⟨μ', hm, i, j, rfl, hI⟩
theorem f3z_x1_0 {ν0 : Nat} (a : Int) (ia : OA) (ka : Nat) (ja : Nat) (i : Int) (H : AHeap) (K : Value → AHeap → Prop)  {I : Nat → List Value → AHeap → Prop} {μ : Nat} : loopQ I μ (blockQ 0 (seqQ (exL Try.prog (E_f3z ν0) (cr (cr (cr (cl (cr (cl (bodyC Try.f227))))))) 31 0 []) (seqQ (exL Try.prog (E_f3z ν0) (cr (bodyC Try.f227)) 0 0 []) (retK Try.prog Try.f227 K)))) (.exit 0) (.slice ia ja ka :: .int .i64 a :: ud8 (.int .i64 i :: ud209 [])) H =
 (loopK (exL Try.prog (E_f3z ν0) (cl (cl (cr (cl (cr (cr (cr (cl (cr (cl (bodyC Try.f227))))))))))) 9217 0 [(2, 0)]) (.slice ia ja ka :: ud9 (.int .i64 i :: ud2 (.int .i64 a :: ud206 []))) H (blockQ 2 (seqQ (exL Try.prog (E_f3z ν0) (cr (cr (cr (cr (cl (cr (cl (bodyC Try.f227)))))))) 31 0 []) (seqQ (exL Try.prog (E_f3z ν0) (cr (bodyC Try.f227)) 0 0 []) (retK Try.prog Try.f227 K))))) := by kernel_rfl
abbrev f3z_P2 (ia : OA) (ka : Nat) (ja : Nat) (i : Int) (k : Int)  : List Value := (.slice ia ja ka :: ud9 (.int .i64 i :: ud2 (.int .i64 k :: ud206 [])))
theorem f3z_r2 {ν0 : Nat} (ia : OA) (ka : Nat) (ja : Nat) (i : Int) (k : Int)  (H : AHeap) (R : Post) : exL Try.prog (E_f3z ν0) (cl (cl (cr (cl (cr (cr (cr (cl (cr (cl (bodyC Try.f227))))))))))) 9217 0 [(2, 0)] (f3z_P2 ia ka ja i k) H R =
 (Br (decide ((k : Int) < IntKind.wrap .i64 (i - 1))) ((0 : Int) ≤ IntKind.wrap .i64 (k + 1) ∧ IntKind.wrap .i64 (k + 1) < (ja : Int) ∧ ∃ b3 f3, (ia : OA) = some ⟨b3, f3, none⟩ ∧ ∃ x3 : Nat,  rdC H b3 (f3 + (IntKind.wrap .i64 (k + 1) : Int).toNat * 1) = some (.float .f32 x3) ∧ (0 : Int) ≤ k ∧ k < (ja : Int) ∧ ∃ b4 f4, (ia : OA) = some ⟨b4, f4, none⟩ ∧ ∃ x4 : Nat,  rdC H b4 (f4 + (k : Int).toNat * 1) = some (.float .f32 x4) ∧ (0 : Int) ≤ k ∧ k < (ja : Int) ∧ ∃ b5 f5, (ia : OA) = some ⟨b5, f5, none⟩ ∧ isOwn H b5 ∧ (∃ l, rdN H b5 (f5 + (k : Int).toNat * 1) 1 = some l) ∧ Lt (setC H b5 (f5 + (k : Int).toNat * 1) (.float .f32 x3)) fun H2 => (0 : Int) ≤ IntKind.wrap .i64 (k + 1) ∧ IntKind.wrap .i64 (k + 1) < (ja : Int) ∧ ∃ b6 f6, (ia : OA) = some ⟨b6, f6, none⟩ ∧ isOwn H2 b6 ∧ (∃ l, rdN H2 b6 (f6 + (IntKind.wrap .i64 (k + 1) : Int).toNat * 1) 1 = some l) ∧ Lt (setC H2 b6 (f6 + (IntKind.wrap .i64 (k + 1) : Int).toNat * 1) (.float .f32 x4)) fun H3 => R .normal (.slice ia ja ka :: ud9 (.int .i64 i :: ud2 (.int .i64 (IntKind.wrap .i64 (k + 1)) :: ud206 []))) H3) (R (.exit 2) (ud220 []) H)) := by kernel_rfl
def f3z_I2 (ia : OA) (ka : Nat) (ja : Nat) (i : Int) (Inv : Nat → Int → AHeap → Prop) : Nat → List Value → AHeap → Prop := fun μ tm H => ∃ (k : Int), tm = (f3z_P2 ia ka ja i k) ∧ Inv μ k H
theorem f3z_L2 {ν0 : Nat} (ia : OA) (ka : Nat) (ja : Nat) (i : Int) {Q : Post} (Inv : Nat → Int → AHeap → Prop) (ν : Nat) (k : Int)  (H : AHeap) (h0 : Inv ν k H)
  (hs : ∀ (μ : Nat) (k : Int)  (H : AHeap), Inv μ k H → exL Try.prog (E_f3z ν0) (cl (cl (cr (cl (cr (cr (cr (cl (cr (cl (bodyC Try.f227))))))))))) 9217 0 [(2, 0)] (f3z_P2 ia ka ja i k) H (loopQ (f3z_I2 ia ka ja i Inv) μ Q)) : loopK (exL Try.prog (E_f3z ν0) (cl (cl (cr (cl (cr (cr (cr (cl (cr (cl (bodyC Try.f227))))))))))) 9217 0 [(2, 0)]) (f3z_P2 ia ka ja i k) H Q :=
 ⟨f3z_I2 ia ka ja i Inv, ν, ⟨k, rfl, h0⟩, fun μ tm H h => by obtain ⟨k, rfl, hI⟩ := h; exact hs μ k  H hI⟩
theorem f3z_n2 {ia : OA} {ka : Nat} {ja : Nat} {i : Int} {Q : Post} {Inv : Nat → Int → AHeap → Prop} {μ : Nat} (μ' : Nat) {k : Int}  {H : AHeap} (hm : μ' < μ) (hI : Inv μ' k H) : loopQ (f3z_I2 ia ka ja i Inv) μ Q .normal (f3z_P2 ia ka ja i k) H := ⟨μ', hm, k, rfl, hI⟩
theorem f3z_x2_2 {ν0 : Nat}  (H : AHeap) (K : Value → AHeap → Prop)  {I : Nat → List Value → AHeap → Prop} {μ : Nat} : loopQ I μ (blockQ 2 (seqQ (exL Try.prog (E_f3z ν0) (cr (cr (cr (cr (cl (cr (cl (bodyC Try.f227)))))))) 31 0 []) (seqQ (exL Try.prog (E_f3z ν0) (cr (bodyC Try.f227)) 0 0 []) (retK Try.prog Try.f227 K)))) (.exit 2) (ud220 []) H =
 (K (.tuple #[]) H) := by kernel_rfl
abbrev f3z_P3 (ia : OA) (ka : Nat) (ja : Nat) (m : Int) (gd : Int) (j15 : Int)  : List Value := (.slice ia ja ka :: ud :: .int .i64 m :: ud :: .func (.func 174) #[] #[] :: ud9 (.int .i64 gd :: .int .i64 j15 :: ud204 []))
theorem f3z_r3 {ν0 : Nat} (ia : OA) (ka : Nat) (ja : Nat) (m : Int) (gd : Int) (j15 : Int)  (H : AHeap) (R : Post) : exL Try.prog (E_f3z ν0) (cl (cl (cl (cr (cr (cl (cr (cl (cr (bodyC Try.f227)))))))))) 49173 0 [(4, 16389)] (f3z_P3 ia ka ja m gd j15) H R =
 (Br (decide ((gd : Int) < j15)) ((0 : Int) ≤ 1 ∧ (0 : Int) ≤ m ∧ m < (ja : Int) ∧ ∃ b7 f7, (ia : OA) = some ⟨b7, f7, none⟩ ∧ ∃ x5 : Nat,  rdC H b7 (f7 + (m : Int).toNat * 1) = some (.float .f32 x5) ∧ (0 : Int) ≤ IntKind.wrap .i64 (Int.fdiv (IntKind.wrap .u64 (IntKind.wrap .i64 (gd + j15))) (2 ^ (min (1 : Int).toNat (IntKind.bits .u64)))) ∧ IntKind.wrap .i64 (Int.fdiv (IntKind.wrap .u64 (IntKind.wrap .i64 (gd + j15))) (2 ^ (min (1 : Int).toNat (IntKind.bits .u64)))) < (ja : Int) ∧ ∃ b8 f8, (ia : OA) = some ⟨b8, f8, none⟩ ∧ ∃ x6 : Nat,  rdC H b8 (f8 + (IntKind.wrap .i64 (Int.fdiv (IntKind.wrap .u64 (IntKind.wrap .i64 (gd + j15))) (2 ^ (min (1 : Int).toNat (IntKind.bits .u64)))) : Int).toNat * 1) = some (.float .f32 x6) ∧ T_f6z x5 x6 H fun (r2 : Int) (H4 : AHeap) => Br (!(decide ((r2 : Int) < 0))) (R .normal (.slice ia ja ka :: ud :: .int .i64 m :: ud :: .func (.func 174) #[] #[] :: ud9 (.int .i64 (IntKind.wrap .i64 ((IntKind.wrap .i64 (Int.fdiv (IntKind.wrap .u64 (IntKind.wrap .i64 (gd + j15))) (2 ^ (min (1 : Int).toNat (IntKind.bits .u64))))) + 1)) :: .int .i64 j15 :: ud204 [])) H4) (R .normal (.slice ia ja ka :: ud :: .int .i64 m :: ud :: .func (.func 174) #[] #[] :: ud9 (.int .i64 gd :: .int .i64 (IntKind.wrap .i64 (Int.fdiv (IntKind.wrap .u64 (IntKind.wrap .i64 (gd + j15))) (2 ^ (min (1 : Int).toNat (IntKind.bits .u64))))) :: ud204 [])) H4)) (R (.exit 4) (.slice ia ja ka :: ud :: .int .i64 m :: ud11 (.int .i64 gd :: ud205 [])) H)) := by kernel_rfl
def f3z_I3 (ia : OA) (ka : Nat) (ja : Nat) (m : Int) (Inv : Nat → Int → Int → AHeap → Prop) : Nat → List Value → AHeap → Prop := fun μ tm H => ∃ (gd : Int), ∃ (j15 : Int), tm = (f3z_P3 ia ka ja m gd j15) ∧ Inv μ gd j15 H
theorem f3z_L3 {ν0 : Nat} (ia : OA) (ka : Nat) (ja : Nat) (m : Int) {Q : Post} (Inv : Nat → Int → Int → AHeap → Prop) (ν : Nat) (gd : Int) (j15 : Int)  (H : AHeap) (h0 : Inv ν gd j15 H)
  (hs : ∀ (μ : Nat) (gd : Int) (j15 : Int)  (H : AHeap), Inv μ gd j15 H → exL Try.prog (E_f3z ν0) (cl (cl (cl (cr (cr (cl (cr (cl (cr (bodyC Try.f227)))))))))) 49173 0 [(4, 16389)] (f3z_P3 ia ka ja m gd j15) H (loopQ (f3z_I3 ia ka ja m Inv) μ Q)) : loopK (exL Try.prog (E_f3z ν0) (cl (cl (cl (cr (cr (cl (cr (cl (cr (bodyC Try.f227)))))))))) 49173 0 [(4, 16389)]) (f3z_P3 ia ka ja m gd j15) H Q :=
 ⟨f3z_I3 ia ka ja m Inv, ν, ⟨gd, j15, rfl, h0⟩, fun μ tm H h => by obtain ⟨gd, j15, rfl, hI⟩ := h; exact hs μ gd j15  H hI⟩
theorem f3z_n3 {ia : OA} {ka : Nat} {ja : Nat} {m : Int} {Q : Post} {Inv : Nat → Int → Int → AHeap → Prop} {μ : Nat} (μ' : Nat) {gd : Int} {j15 : Int}  {H : AHeap} (hm : μ' < μ) (hI : Inv μ' gd j15 H) : loopQ (f3z_I3 ia ka ja m Inv) μ Q .normal (f3z_P3 ia ka ja m gd j15) H := ⟨μ', hm, gd, j15, rfl, hI⟩
theorem f3z_x3_4 {ν0 : Nat} (ia : OA) (ka : Nat) (ja : Nat) (m : Int) (gd : Int) (H : AHeap) (K : Value → AHeap → Prop)  {I : Nat → List Value → AHeap → Prop} {μ : Nat} : loopQ I μ (blockQ 4 (seqQ (exL Try.prog (E_f3z ν0) (cr (cr (cr (cl (cr (cl (cr (bodyC Try.f227)))))))) 31 0 []) (seqQ (exL Try.prog (E_f3z ν0) (cr (cr (bodyC Try.f227))) 0 0 []) (retK Try.prog Try.f227 K)))) (.exit 4) (.slice ia ja ka :: ud :: .int .i64 m :: ud11 (.int .i64 gd :: ud205 [])) H =
 (loopK (exL Try.prog (E_f3z ν0) (cl (cl (cr (cl (cr (cr (cr (cl (cr (cl (cr (bodyC Try.f227)))))))))))) 147457 0 [(6, 0)]) (.slice ia ja ka :: ud13 (.int .i64 gd :: ud2 (.int .i64 m :: ud202 []))) H (blockQ 6 (seqQ (exL Try.prog (E_f3z ν0) (cr (cr (cr (cr (cl (cr (cl (cr (bodyC Try.f227))))))))) 31 0 []) (seqQ (exL Try.prog (E_f3z ν0) (cr (cr (bodyC Try.f227))) 0 0 []) (retK Try.prog Try.f227 K))))) := by kernel_rfl
abbrev f3z_P4 (ia : OA) (ka : Nat) (ja : Nat) (gd : Int) (k17 : Int)  : List Value := (.slice ia ja ka :: ud13 (.int .i64 gd :: ud2 (.int .i64 k17 :: ud202 [])))
theorem f3z_r4 {ν0 : Nat} (ia : OA) (ka : Nat) (ja : Nat) (gd : Int) (k17 : Int)  (H : AHeap) (R : Post) : exL Try.prog (E_f3z ν0) (cl (cl (cr (cl (cr (cr (cr (cl (cr (cl (cr (bodyC Try.f227)))))))))))) 147457 0 [(6, 0)] (f3z_P4 ia ka ja gd k17) H R =
 (Br (decide ((gd : Int) < k17)) ((0 : Int) ≤ IntKind.wrap .i64 (k17 - 1) ∧ IntKind.wrap .i64 (k17 - 1) < (ja : Int) ∧ ∃ b9 f9, (ia : OA) = some ⟨b9, f9, none⟩ ∧ ∃ x7 : Nat,  rdC H b9 (f9 + (IntKind.wrap .i64 (k17 - 1) : Int).toNat * 1) = some (.float .f32 x7) ∧ (0 : Int) ≤ k17 ∧ k17 < (ja : Int) ∧ ∃ b10 f10, (ia : OA) = some ⟨b10, f10, none⟩ ∧ ∃ x8 : Nat,  rdC H b10 (f10 + (k17 : Int).toNat * 1) = some (.float .f32 x8) ∧ (0 : Int) ≤ k17 ∧ k17 < (ja : Int) ∧ ∃ b11 f11, (ia : OA) = some ⟨b11, f11, none⟩ ∧ isOwn H b11 ∧ (∃ l, rdN H b11 (f11 + (k17 : Int).toNat * 1) 1 = some l) ∧ Lt (setC H b11 (f11 + (k17 : Int).toNat * 1) (.float .f32 x7)) fun H5 => (0 : Int) ≤ IntKind.wrap .i64 (k17 - 1) ∧ IntKind.wrap .i64 (k17 - 1) < (ja : Int) ∧ ∃ b12 f12, (ia : OA) = some ⟨b12, f12, none⟩ ∧ isOwn H5 b12 ∧ (∃ l, rdN H5 b12 (f12 + (IntKind.wrap .i64 (k17 - 1) : Int).toNat * 1) 1 = some l) ∧ Lt (setC H5 b12 (f12 + (IntKind.wrap .i64 (k17 - 1) : Int).toNat * 1) (.float .f32 x8)) fun H6 => R .normal (.slice ia ja ka :: ud13 (.int .i64 gd :: ud2 (.int .i64 (IntKind.wrap .i64 (k17 - 1)) :: ud202 []))) H6) (R (.exit 6) (ud220 []) H)) := by kernel_rfl
def f3z_I4 (ia : OA) (ka : Nat) (ja : Nat) (gd : Int) (Inv : Nat → Int → AHeap → Prop) : Nat → List Value → AHeap → Prop := fun μ tm H => ∃ (k17 : Int), tm = (f3z_P4 ia ka ja gd k17) ∧ Inv μ k17 H
theorem f3z_L4 {ν0 : Nat} (ia : OA) (ka : Nat) (ja : Nat) (gd : Int) {Q : Post} (Inv : Nat → Int → AHeap → Prop) (ν : Nat) (k17 : Int)  (H : AHeap) (h0 : Inv ν k17 H)
  (hs : ∀ (μ : Nat) (k17 : Int)  (H : AHeap), Inv μ k17 H → exL Try.prog (E_f3z ν0) (cl (cl (cr (cl (cr (cr (cr (cl (cr (cl (cr (bodyC Try.f227)))))))))))) 147457 0 [(6, 0)] (f3z_P4 ia ka ja gd k17) H (loopQ (f3z_I4 ia ka ja gd Inv) μ Q)) : loopK (exL Try.prog (E_f3z ν0) (cl (cl (cr (cl (cr (cr (cr (cl (cr (cl (cr (bodyC Try.f227)))))))))))) 147457 0 [(6, 0)]) (f3z_P4 ia ka ja gd k17) H Q :=
 ⟨f3z_I4 ia ka ja gd Inv, ν, ⟨k17, rfl, h0⟩, fun μ tm H h => by obtain ⟨k17, rfl, hI⟩ := h; exact hs μ k17  H hI⟩
theorem f3z_n4 {ia : OA} {ka : Nat} {ja : Nat} {gd : Int} {Q : Post} {Inv : Nat → Int → AHeap → Prop} {μ : Nat} (μ' : Nat) {k17 : Int}  {H : AHeap} (hm : μ' < μ) (hI : Inv μ' k17 H) : loopQ (f3z_I4 ia ka ja gd Inv) μ Q .normal (f3z_P4 ia ka ja gd k17) H := ⟨μ', hm, k17, rfl, hI⟩
theorem f3z_x4_6 {ν0 : Nat}  (H : AHeap) (K : Value → AHeap → Prop)  {I : Nat → List Value → AHeap → Prop} {μ : Nat} : loopQ I μ (blockQ 6 (seqQ (exL Try.prog (E_f3z ν0) (cr (cr (cr (cr (cl (cr (cl (cr (bodyC Try.f227))))))))) 31 0 []) (seqQ (exL Try.prog (E_f3z ν0) (cr (cr (bodyC Try.f227))) 0 0 []) (retK Try.prog Try.f227 K)))) (.exit 6) (ud220 []) H =
 (K (.tuple #[]) H) := by kernel_rfl
abbrev f3z_P5 (a : Int) (b : Int) (ia : OA) (ka : Nat) (ja : Nat) (m : Int) (z5_18 : Int) (z5_19 : Int) (z5_22 : Int) (start : Int) (r : Int)  : List Value := (.slice ia ja ka :: .int .i64 a :: .int .i64 m :: .int .i64 b :: .func (.func 174) #[] #[] :: ud13 (.int .i64 z5_18 :: .int .i64 z5_19 :: .int .i64 start :: .int .i64 r :: .int .i64 z5_22 :: ud197 []))
theorem f3z_r5 {ν0 : Nat} (a : Int) (b : Int) (ia : OA) (ka : Nat) (ja : Nat) (m : Int) (z5_18 : Int) (z5_19 : Int) (z5_22 : Int) (start : Int) (r : Int)  (H : AHeap) (R : Post) : exL Try.prog (E_f3z ν0) (cl (cl (cl (cr (cr (cr (cr (cr (cr (cr (bodyC Try.f227))))))))))) 8126495 0 [(8, 1835039)] (f3z_P5 a b ia ka ja m z5_18 z5_19 z5_22 start r) H R =
 (Br (decide ((start : Int) < r)) ((0 : Int) ≤ 1 ∧ (0 : Int) ≤ IntKind.wrap .i64 (z5_22 - (IntKind.wrap .i64 (Int.fdiv (IntKind.wrap .u64 (IntKind.wrap .i64 (start + r))) (2 ^ (min (1 : Int).toNat (IntKind.bits .u64)))))) ∧ IntKind.wrap .i64 (z5_22 - (IntKind.wrap .i64 (Int.fdiv (IntKind.wrap .u64 (IntKind.wrap .i64 (start + r))) (2 ^ (min (1 : Int).toNat (IntKind.bits .u64)))))) < (ja : Int) ∧ ∃ b13 f13, (ia : OA) = some ⟨b13, f13, none⟩ ∧ ∃ x9 : Nat,  rdC H b13 (f13 + (IntKind.wrap .i64 (z5_22 - (IntKind.wrap .i64 (Int.fdiv (IntKind.wrap .u64 (IntKind.wrap .i64 (start + r))) (2 ^ (min (1 : Int).toNat (IntKind.bits .u64)))))) : Int).toNat * 1) = some (.float .f32 x9) ∧ (0 : Int) ≤ IntKind.wrap .i64 (Int.fdiv (IntKind.wrap .u64 (IntKind.wrap .i64 (start + r))) (2 ^ (min (1 : Int).toNat (IntKind.bits .u64)))) ∧ IntKind.wrap .i64 (Int.fdiv (IntKind.wrap .u64 (IntKind.wrap .i64 (start + r))) (2 ^ (min (1 : Int).toNat (IntKind.bits .u64)))) < (ja : Int) ∧ ∃ b14 f14, (ia : OA) = some ⟨b14, f14, none⟩ ∧ ∃ x10 : Nat,  rdC H b14 (f14 + (IntKind.wrap .i64 (Int.fdiv (IntKind.wrap .u64 (IntKind.wrap .i64 (start + r))) (2 ^ (min (1 : Int).toNat (IntKind.bits .u64)))) : Int).toNat * 1) = some (.float .f32 x10) ∧ T_f6z x9 x10 H fun (r3 : Int) (H7 : AHeap) => Br (!(decide ((r3 : Int) < 0))) (R .normal (.slice ia ja ka :: .int .i64 a :: .int .i64 m :: .int .i64 b :: .func (.func 174) #[] #[] :: ud13 (.int .i64 z5_18 :: .int .i64 z5_19 :: .int .i64 (IntKind.wrap .i64 ((IntKind.wrap .i64 (Int.fdiv (IntKind.wrap .u64 (IntKind.wrap .i64 (start + r))) (2 ^ (min (1 : Int).toNat (IntKind.bits .u64))))) + 1)) :: .int .i64 r :: .int .i64 z5_22 :: ud197 [])) H7) (R .normal (.slice ia ja ka :: .int .i64 a :: .int .i64 m :: .int .i64 b :: .func (.func 174) #[] #[] :: ud13 (.int .i64 z5_18 :: .int .i64 z5_19 :: .int .i64 start :: .int .i64 (IntKind.wrap .i64 (Int.fdiv (IntKind.wrap .u64 (IntKind.wrap .i64 (start + r))) (2 ^ (min (1 : Int).toNat (IntKind.bits .u64))))) :: .int .i64 z5_22 :: ud197 [])) H7)) (R (.exit 8) (.slice ia ja ka :: .int .i64 a :: .int .i64 m :: .int .i64 b :: .func (.func 174) #[] #[] :: ud13 (.int .i64 z5_18 :: .int .i64 z5_19 :: .int .i64 start :: ud199 [])) H)) := by kernel_rfl
def f3z_I5 (a : Int) (b : Int) (ia : OA) (ka : Nat) (ja : Nat) (m : Int) (z5_18 : Int) (z5_19 : Int) (z5_22 : Int) (Inv : Nat → Int → Int → AHeap → Prop) : Nat → List Value → AHeap → Prop := fun μ tm H => ∃ (start : Int), ∃ (r : Int), tm = (f3z_P5 a b ia ka ja m z5_18 z5_19 z5_22 start r) ∧ Inv μ start r H
theorem f3z_L5 {ν0 : Nat} (a : Int) (b : Int) (ia : OA) (ka : Nat) (ja : Nat) (m : Int) (z5_18 : Int) (z5_19 : Int) (z5_22 : Int) {Q : Post} (Inv : Nat → Int → Int → AHeap → Prop) (ν : Nat) (start : Int) (r : Int)  (H : AHeap) (h0 : Inv ν start r H)
  (hs : ∀ (μ : Nat) (start : Int) (r : Int)  (H : AHeap), Inv μ start r H → exL Try.prog (E_f3z ν0) (cl (cl (cl (cr (cr (cr (cr (cr (cr (cr (bodyC Try.f227))))))))))) 8126495 0 [(8, 1835039)] (f3z_P5 a b ia ka ja m z5_18 z5_19 z5_22 start r) H (loopQ (f3z_I5 a b ia ka ja m z5_18 z5_19 z5_22 Inv) μ Q)) : loopK (exL Try.prog (E_f3z ν0) (cl (cl (cl (cr (cr (cr (cr (cr (cr (cr (bodyC Try.f227))))))))))) 8126495 0 [(8, 1835039)]) (f3z_P5 a b ia ka ja m z5_18 z5_19 z5_22 start r) H Q :=
 ⟨f3z_I5 a b ia ka ja m z5_18 z5_19 z5_22 Inv, ν, ⟨start, r, rfl, h0⟩, fun μ tm H h => by obtain ⟨start, r, rfl, hI⟩ := h; exact hs μ start r  H hI⟩
theorem f3z_n5 {a : Int} {b : Int} {ia : OA} {ka : Nat} {ja : Nat} {m : Int} {z5_18 : Int} {z5_19 : Int} {z5_22 : Int} {Q : Post} {Inv : Nat → Int → Int → AHeap → Prop} {μ : Nat} (μ' : Nat) {start : Int} {r : Int}  {H : AHeap} (hm : μ' < μ) (hI : Inv μ' start r H) : loopQ (f3z_I5 a b ia ka ja m z5_18 z5_19 z5_22 Inv) μ Q .normal (f3z_P5 a b ia ka ja m z5_18 z5_19 z5_22 start r) H := ⟨μ', hm, start, r, rfl, hI⟩
theorem f3z_x5_8 {ν0 : Nat} (a : Int) (b : Int) (ia : OA) (ka : Nat) (ja : Nat) (m : Int) (z5_18 : Int) (z5_19 : Int) (start : Int) (H : AHeap) (K : Value → AHeap → Prop)  {I : Nat → List Value → AHeap → Prop} {μ : Nat} : loopQ I μ (blockQ 8 (seqQ (exL Try.prog (E_f3z ν0) (cr (cr (cr (cr (cr (cr (cr (cr (bodyC Try.f227))))))))) 0 0 []) (retK Try.prog Try.f227 K))) (.exit 8) (.slice ia ja ka :: .int .i64 a :: .int .i64 m :: .int .i64 b :: .func (.func 174) #[] #[] :: ud13 (.int .i64 z5_18 :: .int .i64 z5_19 :: .int .i64 start :: ud199 [])) H =
 (Br (decide ((start : Int) < m)) (Br (decide ((m : Int) < IntKind.wrap .i64 (z5_19 - start))) (T_f4z ia ja ka start m (IntKind.wrap .i64 (z5_19 - start)) H fun  (H8 : AHeap) => Br (decide ((a : Int) < start)) (Br (decide ((start : Int) < z5_18)) (T_f3z_n ν0 ia ja ka a start z5_18 H8 fun  (H9 : AHeap) => Br (decide ((z5_18 : Int) < IntKind.wrap .i64 (z5_19 - start))) (Br (decide ((IntKind.wrap .i64 (z5_19 - start) : Int) < b)) (T_f3z_n ν0 ia ja ka z5_18 (IntKind.wrap .i64 (z5_19 - start)) b H9 fun  (H10 : AHeap) => K (.tuple #[]) H10) (K (.tuple #[]) H9)) (K (.tuple #[]) H9)) (Br (decide ((z5_18 : Int) < IntKind.wrap .i64 (z5_19 - start))) (Br (decide ((IntKind.wrap .i64 (z5_19 - start) : Int) < b)) (T_f3z_n ν0 ia ja ka z5_18 (IntKind.wrap .i64 (z5_19 - start)) b H8 fun  (H11 : AHeap) => K (.tuple #[]) H11) (K (.tuple #[]) H8)) (K (.tuple #[]) H8))) (Br (decide ((z5_18 : Int) < IntKind.wrap .i64 (z5_19 - start))) (Br (decide ((IntKind.wrap .i64 (z5_19 - start) : Int) < b)) (T_f3z_n ν0 ia ja ka z5_18 (IntKind.wrap .i64 (z5_19 - start)) b H8 fun  (H12 : AHeap) => K (.tuple #[]) H12) (K (.tuple #[]) H8)) (K (.tuple #[]) H8))) (Br (decide ((a : Int) < start)) (Br (decide ((start : Int) < z5_18)) (T_f3z_n ν0 ia ja ka a start z5_18 H fun  (H13 : AHeap) => Br (decide ((z5_18 : Int) < IntKind.wrap .i64 (z5_19 - start))) (Br (decide ((IntKind.wrap .i64 (z5_19 - start) : Int) < b)) (T_f3z_n ν0 ia ja ka z5_18 (IntKind.wrap .i64 (z5_19 - start)) b H13 fun  (H14 : AHeap) => K (.tuple #[]) H14) (K (.tuple #[]) H13)) (K (.tuple #[]) H13)) (Br (decide ((z5_18 : Int) < IntKind.wrap .i64 (z5_19 - start))) (Br (decide ((IntKind.wrap .i64 (z5_19 - start) : Int) < b)) (T_f3z_n ν0 ia ja ka z5_18 (IntKind.wrap .i64 (z5_19 - start)) b H fun  (H15 : AHeap) => K (.tuple #[]) H15) (K (.tuple #[]) H)) (K (.tuple #[]) H))) (Br (decide ((z5_18 : Int) < IntKind.wrap .i64 (z5_19 - start))) (Br (decide ((IntKind.wrap .i64 (z5_19 - start) : Int) < b)) (T_f3z_n ν0 ia ja ka z5_18 (IntKind.wrap .i64 (z5_19 - start)) b H fun  (H16 : AHeap) => K (.tuple #[]) H16) (K (.tuple #[]) H)) (K (.tuple #[]) H)))) (Br (decide ((a : Int) < start)) (Br (decide ((start : Int) < z5_18)) (T_f3z_n ν0 ia ja ka a start z5_18 H fun  (H17 : AHeap) => Br (decide ((z5_18 : Int) < IntKind.wrap .i64 (z5_19 - start))) (Br (decide ((IntKind.wrap .i64 (z5_19 - start) : Int) < b)) (T_f3z_n ν0 ia ja ka z5_18 (IntKind.wrap .i64 (z5_19 - start)) b H17 fun  (H18 : AHeap) => K (.tuple #[]) H18) (K (.tuple #[]) H17)) (K (.tuple #[]) H17)) (Br (decide ((z5_18 : Int) < IntKind.wrap .i64 (z5_19 - start))) (Br (decide ((IntKind.wrap .i64 (z5_19 - start) : Int) < b)) (T_f3z_n ν0 ia ja ka z5_18 (IntKind.wrap .i64 (z5_19 - start)) b H fun  (H19 : AHeap) => K (.tuple #[]) H19) (K (.tuple #[]) H)) (K (.tuple #[]) H))) (Br (decide ((z5_18 : Int) < IntKind.wrap .i64 (z5_19 - start))) (Br (decide ((IntKind.wrap .i64 (z5_19 - start) : Int) < b)) (T_f3z_n ν0 ia ja ka z5_18 (IntKind.wrap .i64 (z5_19 - start)) b H fun  (H20 : AHeap) => K (.tuple #[]) H20) (K (.tuple #[]) H)) (K (.tuple #[]) H)))) := by kernel_rfl
theorem E_f3z_ok (ν : Nat) (ih : FnOk Try.prog 227 (S_f3z_n ν)) : ∀ g, FnOk Try.prog g (E_f3z ν g) := FnOk.envOf (by
 intro x hx
 simp only [List.mem_cons, List.not_mem_nil, or_false] at hx
 rcases hx with rfl | rfl | rfl | rfl
 ·exact quietMark_ok _
 ·exact f6z_ok
 ·exact f4z_ok
 ·exact ih)
theorem f3z_main {ν0 : Nat} (ia : OA) (ja : Nat) (ka : Nat) (a : Int) (m : Int) (b : Int) (H : AHeap) (K : Value → AHeap → Prop) (h : T_f3z_n (ν0 + 1) ia ja ka a m b H fun  (H' : AHeap) => K (.tuple #[]) H') : bodyL Try.prog (E_f3z ν0) Try.f227 [.slice ia ja ka, .int .i64 a, .int .i64 m, .int .i64 b, .func (.func 174) #[] #[]] H K := by
 rw [f3z_vc]
 obtain ⟨lo, ra, i_data, bd_344, pr0, pr1, pr2, pr3, pr4, hk⟩ := h
 obtain rfl := i_data.len
 have up_m := i_data.up
 have lo_m := i_data.lo
 rw [rsymM_eq ν0 ra a m b (by assumption) (by assumption) (by assumption)] at hk
 have e : (p_f3z ν0 ra a m b) = _ := rfl
 have e := e.trans (p_f3z_eq ν0 ra a m b)
 have g0 := KeepA.refl ia H
 rw [show IntKind.wrap .i64 (m - a) = (m - a) from wrap64 ω2 ω2]
 refine Br.intro (fun c_1 => ?_) (fun c_1 => ?_)
 ·have e := e.trans (cond_t c_1)
  have c_1' := ieq_t c_1
  refine f3z_L1 _ _ _ _ (fun (μ : Nat) (i : Int) (j : Int) (H_1 : AHeap) => ∃ (y1_1 : LN), OwnS fF H_1 lo ia ra.length ka y1_1 ∧ y1_1.length = (ra).length ∧ H.length ≤ H_1.length ∧ KeepA ia H H_1 ∧ m ≤ i ∧ i ≤ j ∧ j ≤ b ∧ j - i ≤ (μ : Int) ∧ p_f3z ν0 ra a m b = p_f3z_l1 ν0 ra a m b (μ + 1) i j y1_1) (Int.toNat (b - m)) _ _ H ?_ ?_
  ·exact ⟨_, i_data, ω20, ω2, g0, ω7, ω7, ω7, ω2, e⟩
  ·intro μ i j  H_1 hI
   obtain ⟨y1_1, r_2, y3, n4, g_5, v6, v7, v8, hμ, e⟩ := hI
   rw [f3z_r1]
   have e := e.trans (p_f3z_l1_s ν0 ra a m b μ i j y1_1)
   have l9 := g_5.1
   refine Br.intro (fun c10 => ?_) (fun c10 => ?_)
   ·have e := e.trans (cond_t c10)
    have c_10' := of_decide_eq_true c10
    rw [show IntKind.wrap .i64 (i + j) = (i + j) from wrap64 ω2 ω2]
    refine ⟨by decide, ?_⟩
    rw [shr1 (x := (i + j)) ω2 ω2]
    rw [show IntKind.wrap .i64 ((i + j) / 2) = ((i + j) / 2) from wrap64 ω2 ω2]
    obtain ⟨b_11, f_12, q13⟩ := (r_2.isL).pos ω0
    refine ⟨by omega, by omega, b_11, f_12, q13, ?_⟩
    refine ⟨((y1_1).getD (((i + j) / 2) : Int).toNat 0), (r_2.isL).rd (Grow.refl _) q13 ω2 _, ?_⟩
    obtain ⟨b_14, f15, q16⟩ := (r_2.isL).pos ω0
    refine ⟨by omega, by omega, b_14, f15, q16, ?_⟩
    refine ⟨((y1_1).getD (a : Int).toNat 0), (r_2.isL).rd (Grow.refl _) q16 ω2 _, ?_⟩
    refine T_f6z_i ?_
    refine Br.intro (fun c17 => ?_) (fun c17 => ?_)
    ·have e := e.trans (cond_t c17)
     have c_17' := of_decide_eq_true c17
     rw [show IntKind.wrap .i64 ((((i + j) / 2)) + 1) = ((((i + j) / 2)) + 1) from wrap64 ω2 ω2]
     refine f3z_n1 (μ - 1) ω17 ⟨_, r_2, ω13, ω2, g_5, ω1, ω1, ω1, ω17, ω12⟩
    ·have e := e.trans (cond_f c17)
     have c_17' := of_decide_eq_false c17
     refine f3z_n1 (μ - 1) ω17 ⟨_, r_2, ω13, ω2, g_5, ω1, ω1, ω1, ω17, ω12⟩
   ·have e := e.trans (cond_f c10)
    have c_10' := of_decide_eq_false c10
    rw [f3z_x1_0]
    refine f3z_L2 _ _ _ _ (fun (μ2 : Nat) (k : Int) (H_2 : AHeap) => ∃ (y2_1 : LN), OwnS fF H_2 lo ia ra.length ka y2_1 ∧ y2_1.length = (ra).length ∧ H.length ≤ H_2.length ∧ KeepA ia H H_2 ∧ a ≤ k ∧ k ≤ i ∧ i - k ≤ (μ2 : Int) ∧ p_f3z ν0 ra a m b = p_f3z_l2 ν0 ra a m b i j y1_1 (fun (k : Int) (y2_1 : LN) => y2_1) (μ2 + 1) k y2_1) (Int.toNat (i - a)) _ H_1 ?_ ?_
    ·exact ⟨_, r_2, ω20, ω2, g_5, ω7, ω7, ω2, e⟩
    ·intro μ2 k  H_2 hI
     obtain ⟨y2_1, r_18, y19, n20, g21, v22, v23, hμ, e⟩ := hI
     rw [f3z_r2]
     have e := e.trans (p_f3z_l2_s ν0 ra a m b i j y1_1 (fun (k : Int) (y2_1 : LN) => y2_1) μ2 k y2_1)
     have l24 := g21.1
     rw [show IntKind.wrap .i64 (i - 1) = (i - 1) from wrap64 ω2 ω2]
     refine Br.intro (fun c_25 => ?_) (fun c_25 => ?_)
     ·have e := e.trans (cond_t c_25)
      have c_25' := of_decide_eq_true c_25
      rw [show IntKind.wrap .i64 (k + 1) = (k + 1) from wrap64 ω2 ω2]
      obtain ⟨b26, f27, q28⟩ := (r_18.isL).pos ω0
      refine ⟨by omega, by omega, b26, f27, q28, ?_⟩
      refine ⟨((y2_1).getD ((k + 1) : Int).toNat 0), (r_18.isL).rd (Grow.refl _) q28 ω2 _, ?_⟩
      obtain ⟨b29, f_30, q31⟩ := (r_18.isL).pos ω0
      refine ⟨by omega, by omega, b29, f_30, q31, ?_⟩
      refine ⟨((y2_1).getD (k : Int).toNat 0), (r_18.isL).rd (Grow.refl _) q31 ω2 _, ?_⟩
      obtain ⟨b_32, f_33, q34⟩ := (r_18.isL).pos ω0
      refine ⟨by omega, by omega, b_32, f_33, q34, ?_⟩
      refine Lt.setS r_18 q34 ω11 (fun H_3 hl_35 o37 k36 => ?_)
      have l38 := k36.1
      have g39 := g21.transA k36
      have l40 := g39.1
      obtain ⟨b41, f_42, q43⟩ := (o37.isL).pos ω0
      refine ⟨by omega, by omega, b41, f_42, q43, ?_⟩
      refine Lt.setS o37 q43 ω11 (fun H_4 hl_44 o46 k45 => ?_)
      have l47 := k45.1
      have g48 := g39.transA k45
      have l49 := g48.1
      refine f3z_n2 (μ2 - 1) ω17 ⟨_, o46, ω13, ω2, g48, ω1, ω1, ω17, ω22⟩
     ·have e := e.trans (cond_f c_25)
      have c_25' := of_decide_eq_false c_25
      rw [f3z_x2_2]
      rw [e] at hk
      exact hk H_2 g21 r_18
 ·have e := e.trans (cond_f c_1)
  have c_1' := ieq_f c_1
  rw [show IntKind.wrap .i64 (b - m) = (b - m) from wrap64 ω2 ω2]
  refine Br.intro (fun c50 => ?_) (fun c50 => ?_)
  ·have e := e.trans (cond_t c50)
   have c_50' := ieq_t c50
   refine f3z_L3 _ _ _ _ (fun (μ : Nat) (gd : Int) (j15 : Int) (H_5 : AHeap) => ∃ (y3_1 : LN), OwnS fF H_5 lo ia ra.length ka y3_1 ∧ y3_1.length = (ra).length ∧ H.length ≤ H_5.length ∧ KeepA ia H H_5 ∧ a ≤ gd ∧ gd ≤ j15 ∧ j15 ≤ m ∧ j15 - gd ≤ (μ : Int) ∧ p_f3z ν0 ra a m b = p_f3z_l3 ν0 ra a m b (μ + 1) gd j15 y3_1) (Int.toNat (m - a)) _ _ H ?_ ?_
   ·exact ⟨_, i_data, ω20, ω2, g0, ω7, ω7, ω7, ω2, e⟩
   ·intro μ gd j15  H_5 hI
    obtain ⟨y3_1, r51, y52, n53, g54, v55, v56, v57, hμ, e⟩ := hI
    rw [f3z_r3]
    have e := e.trans (p_f3z_l3_s ν0 ra a m b μ gd j15 y3_1)
    have l58 := g54.1
    refine Br.intro (fun c59 => ?_) (fun c59 => ?_)
    ·have e := e.trans (cond_t c59)
     have c_59' := of_decide_eq_true c59
     rw [show IntKind.wrap .i64 (gd + j15) = (gd + j15) from wrap64 ω2 ω2]
     refine ⟨by decide, ?_⟩
     rw [shr1 (x := (gd + j15)) ω2 ω2]
     rw [show IntKind.wrap .i64 ((gd + j15) / 2) = ((gd + j15) / 2) from wrap64 ω2 ω2]
     obtain ⟨b60, f61, q62⟩ := (r51.isL).pos ω0
     refine ⟨by omega, by omega, b60, f61, q62, ?_⟩
     refine ⟨((y3_1).getD (m : Int).toNat 0), (r51.isL).rd (Grow.refl _) q62 ω2 _, ?_⟩
     obtain ⟨b63, f_64, q65⟩ := (r51.isL).pos ω0
     refine ⟨by omega, by omega, b63, f_64, q65, ?_⟩
     refine ⟨((y3_1).getD (((gd + j15) / 2) : Int).toNat 0), (r51.isL).rd (Grow.refl _) q65 ω2 _, ?_⟩
     refine T_f6z_i ?_
     refine Br.intro (fun c66 => ?_) (fun c66 => ?_)
     ·have e := e.trans (cond_t c66)
      have c_66n := nf_of_t c66
      have c_66n' := of_decide_eq_false c_66n
      rw [show IntKind.wrap .i64 ((((gd + j15) / 2)) + 1) = ((((gd + j15) / 2)) + 1) from wrap64 ω2 ω2]
      refine f3z_n3 (μ - 1) ω17 ⟨_, r51, ω13, ω2, g54, ω1, ω1, ω1, ω17, ω12⟩
     ·have e := e.trans (cond_f c66)
      have c_66n := nt_of_f c66
      have c_66n' := of_decide_eq_true c_66n
      refine f3z_n3 (μ - 1) ω17 ⟨_, r51, ω13, ω2, g54, ω1, ω1, ω1, ω17, ω12⟩
    ·have e := e.trans (cond_f c59)
     have c_59' := of_decide_eq_false c59
     rw [f3z_x3_4]
     refine f3z_L4 _ _ _ _ (fun (μ4 : Nat) (k17 : Int) (H_6 : AHeap) => ∃ (y4_1 : LN), OwnS fF H_6 lo ia ra.length ka y4_1 ∧ y4_1.length = (ra).length ∧ H.length ≤ H_6.length ∧ KeepA ia H H_6 ∧ gd ≤ k17 ∧ k17 ≤ m ∧ k17 - gd ≤ (μ4 : Int) ∧ p_f3z ν0 ra a m b = p_f3z_l4 ν0 ra a m b gd j15 y3_1 (fun (k17 : Int) (y4_1 : LN) => y4_1) (μ4 + 1) k17 y4_1) (Int.toNat (m - gd)) _ H_5 ?_ ?_
     ·exact ⟨_, r51, ω20, ω2, g54, ω7, ω7, ω2, e⟩
     ·intro μ4 k17  H_6 hI
      obtain ⟨y4_1, r67, y68, n69, g70, v71, v72, hμ, e⟩ := hI
      rw [f3z_r4]
      have e := e.trans (p_f3z_l4_s ν0 ra a m b gd j15 y3_1 (fun (k17 : Int) (y4_1 : LN) => y4_1) μ4 k17 y4_1)
      have l73 := g70.1
      refine Br.intro (fun c74 => ?_) (fun c74 => ?_)
      ·have e := e.trans (cond_t c74)
       have c_74' := of_decide_eq_true c74
       rw [show IntKind.wrap .i64 (k17 - 1) = (k17 - 1) from wrap64 ω2 ω2]
       obtain ⟨b75, f76, q77⟩ := (r67.isL).pos ω0
       refine ⟨by omega, by omega, b75, f76, q77, ?_⟩
       refine ⟨((y4_1).getD ((k17 - 1) : Int).toNat 0), (r67.isL).rd (Grow.refl _) q77 ω2 _, ?_⟩
       obtain ⟨b78, f79, q80⟩ := (r67.isL).pos ω0
       refine ⟨by omega, by omega, b78, f79, q80, ?_⟩
       refine ⟨((y4_1).getD (k17 : Int).toNat 0), (r67.isL).rd (Grow.refl _) q80 ω2 _, ?_⟩
       obtain ⟨b81, f82, q83⟩ := (r67.isL).pos ω0
       refine ⟨by omega, by omega, b81, f82, q83, ?_⟩
       refine Lt.setS r67 q83 ω11 (fun H_7 hl_84 o86 k85 => ?_)
       have l87 := k85.1
       have g88 := g70.transA k85
       have l89 := g88.1
       obtain ⟨b90, f91, q92⟩ := (o86.isL).pos ω0
       refine ⟨by omega, by omega, b90, f91, q92, ?_⟩
       refine Lt.setS o86 q92 ω11 (fun H_8 hl_93 o95 k94 => ?_)
       have l96 := k94.1
       have g97 := g88.transA k94
       have l98 := g97.1
       refine f3z_n4 (μ4 - 1) ω17 ⟨_, o95, ω13, ω2, g97, ω1, ω1, ω17, (by rw [show μ4 - 1 + 1 = μ4 from by first | omega]; exact e)⟩
      ·have e := e.trans (cond_f c74)
       have c_74' := of_decide_eq_false c74
       rw [f3z_x4_6]
       rw [e] at hk
       exact hk H_6 g70 r67
  ·have e := e.trans (cond_f c50)
   have c_50' := ieq_f c50
   rw [show IntKind.wrap .i64 (a + b) = (a + b) from wrap64 ω2 ω2]
   refine ⟨by decide, ?_⟩
   rw [shr1 (x := (a + b)) ω2 ω2]
   rw [show IntKind.wrap .i64 ((a + b) / 2) = ((a + b) / 2) from wrap64 ω2 ω2]
   rw [show IntKind.wrap .i64 ((((a + b) / 2)) + m) = ((((a + b) / 2)) + m) from wrap64 ω2 ω2]
   refine Br.intro (fun c99 => ?_) (fun c99 => ?_)
   ·have e := e.trans (cond_t c99)
    have c_99' := of_decide_eq_true c99
    rw [show IntKind.wrap .i64 ((((((a + b) / 2)) + m)) - b) = ((((((a + b) / 2)) + m)) - b) from wrap64 ω2 ω2]
    rw [show IntKind.wrap .i64 ((((((a + b) / 2)) + m)) - 1) = ((((((a + b) / 2)) + m)) - 1) from wrap64 ω2 ω2]
    refine f3z_L5 _ _ _ _ _ _ _ _ _ (fun (μ : Nat) (start : Int) (r : Int) (H_9 : AHeap) => ∃ (y5_1 : LN), OwnS fF H_9 lo ia ra.length ka y5_1 ∧ y5_1.length = (ra).length ∧ H.length ≤ H_9.length ∧ KeepA ia H H_9 ∧ a ≤ start ∧ start ≤ r ∧ r ≤ m ∧ r ≤ (a + b) / 2 ∧ (a + b) / 2 + m - b ≤ start ∧ r - start ≤ (μ : Int) ∧ p_f3z ν0 ra a m b = p_f3z_l5 ν0 ra a m b (μ + 1) start r y5_1) (Int.toNat (((((a + b) / 2))) - ((((((((a + b) / 2)) + m)) - b))))) _ _ H ?_ ?_
    ·exact ⟨_, i_data, ω20, ω2, g0, ω7, ω7, ω7, ω7, ω7, ω2, e⟩
    ·intro μ start r  H_9 hI
     obtain ⟨y5_1, r100, y101, n102, g103, v104, v105, v106, v107, v108, hμ, e⟩ := hI
     rw [f3z_r5]
     have e := e.trans (p_f3z_l5_s ν0 ra a m b μ start r y5_1)
     have l109 := g103.1
     refine Br.intro (fun c110 => ?_) (fun c110 => ?_)
     ·have e := e.trans (cond_t c110)
      have c_110' := of_decide_eq_true c110
      rw [show IntKind.wrap .i64 (start + r) = (start + r) from wrap64 ω2 ω2]
      refine ⟨by decide, ?_⟩
      rw [shr1 (x := (start + r)) ω2 ω2]
      rw [show IntKind.wrap .i64 ((start + r) / 2) = ((start + r) / 2) from wrap64 ω2 ω2]
      rw [show IntKind.wrap .i64 ((((((((a + b) / 2)) + m)) - 1)) - (((start + r) / 2))) = ((((((((a + b) / 2)) + m)) - 1)) - (((start + r) / 2))) from wrap64 ω2 ω2]
      obtain ⟨b111, f_112, q113⟩ := (r100.isL).pos ω0
      refine ⟨by omega, by omega, b111, f_112, q113, ?_⟩
      refine ⟨((y5_1).getD (((((((((a + b) / 2)) + m)) - 1)) - (((start + r) / 2))) : Int).toNat 0), (r100.isL).rd (Grow.refl _) q113 ω2 _, ?_⟩
      obtain ⟨b114, f115, q116⟩ := (r100.isL).pos ω0
      refine ⟨by omega, by omega, b114, f115, q116, ?_⟩
      refine ⟨((y5_1).getD (((start + r) / 2) : Int).toNat 0), (r100.isL).rd (Grow.refl _) q116 ω2 _, ?_⟩
      refine T_f6z_i ?_
      refine Br.intro (fun c117 => ?_) (fun c117 => ?_)
      ·have e := e.trans (cond_t c117)
       have c_117n := nf_of_t c117
       have c_117n' := of_decide_eq_false c_117n
       rw [show IntKind.wrap .i64 ((((start + r) / 2)) + 1) = ((((start + r) / 2)) + 1) from wrap64 ω2 ω2]
       refine f3z_n5 (μ - 1) ω17 ⟨_, r100, ω13, ω2, g103, ω1, ω1, ω1, ω1, ω1, ω17, ω12⟩
      ·have e := e.trans (cond_f c117)
       have c_117n := nt_of_f c117
       have c_117n' := of_decide_eq_true c_117n
       refine f3z_n5 (μ - 1) ω17 ⟨_, r100, ω13, ω2, g103, ω1, ω1, ω1, ω1, ω1, ω17, ω12⟩
     ·have e := e.trans (cond_f c110)
      have c_110' := of_decide_eq_false c110
      rw [f3z_x5_8]
      rw [show IntKind.wrap .i64 ((((((a + b) / 2)) + m)) - start) = ((((((a + b) / 2)) + m)) - start) from wrap64 ω2 ω2]
      refine Br.intro (fun c118 => ?_) (fun c118 => ?_)
      ·have e := e.trans (cond_t c118)
       have c_118' := of_decide_eq_true c118
       refine Br.intro (fun c119 => ?_) (fun c119 => ?_)
       ·have e := e.trans (cond_t c119)
        have c_119' := of_decide_eq_true c119
        refine T_f4z_i ⟨_, _, r100, ω0, ω4, ω4, ω4, ω4, (fun H_10 k121 o122 => ?_)⟩
        have z120 := slices_rotate_len y5_1 start m (((((((a + b) / 2)) + m)) - start)) ω2 ω2 ω2
        have l123 := k121.1
        have g124 := g103.transA k121
        have l125 := g124.1
        refine Br.intro (fun c126 => ?_) (fun c126 => ?_)
        ·have e := e.trans (cond_t c126)
         have c_126' := of_decide_eq_true c126
         refine Br.intro (fun c127 => ?_) (fun c127 => ?_)
         ·have e := e.trans (cond_t c127)
          have c_127' := of_decide_eq_true c127
          refine T_f3z_n_i ⟨_, _, o122, ω0, ω4, ω4, ω4, ω4, ω4, (fun H_11 k129 o130 => ?_)⟩
          have z128 := rsymM_len ν0 ((p_f4z y5_1 start m (((((((a + b) / 2)) + m)) - start)))) a start (((a + b) / 2))
          have l131 := k129.1
          have g132 := g124.transA k129
          have l133 := g132.1
          refine Br.intro (fun c134 => ?_) (fun c134 => ?_)
          ·have e := e.trans (cond_t c134)
           have c_134' := of_decide_eq_true c134
           refine Br.intro (fun c135 => ?_) (fun c135 => ?_)
           ·have e := e.trans (cond_t c135)
            have c_135' := of_decide_eq_true c135
            refine T_f3z_n_i ⟨_, _, o130, ω0, ω4, ω4, ω4, ω4, ω4, (fun H_12 k137 o138 => ?_)⟩
            have z136 := rsymM_len ν0 ((rsymM ν0 ((p_f4z y5_1 start m (((((((a + b) / 2)) + m)) - start)))) a start (((a + b) / 2)))) (((a + b) / 2)) (((((((a + b) / 2)) + m)) - start)) b
            have l139 := k137.1
            have g140 := g132.transA k137
            have l141 := g140.1
            rw [e] at hk
            exact hk H_12 g140 o138
           ·have e := e.trans (cond_f c135)
            have c_135' := of_decide_eq_false c135
            rw [e] at hk
            exact hk H_11 g132 o130
          ·have e := e.trans (cond_f c134)
           have c_134' := of_decide_eq_false c134
           rw [e] at hk
           exact hk H_11 g132 o130
         ·have e := e.trans (cond_f c127)
          have c_127' := of_decide_eq_false c127
          refine Br.intro (fun c142 => ?_) (fun c142 => ?_)
          ·have e := e.trans (cond_t c142)
           have c_142' := of_decide_eq_true c142
           refine Br.intro (fun c143 => ?_) (fun c143 => ?_)
           ·have e := e.trans (cond_t c143)
            have c_143' := of_decide_eq_true c143
            refine T_f3z_n_i ⟨_, _, o122, ω0, ω4, ω4, ω4, ω4, ω4, (fun H_13 k145 o146 => ?_)⟩
            have z144 := rsymM_len ν0 ((p_f4z y5_1 start m (((((((a + b) / 2)) + m)) - start)))) (((a + b) / 2)) (((((((a + b) / 2)) + m)) - start)) b
            have l147 := k145.1
            have g148 := g124.transA k145
            have l149 := g148.1
            rw [e] at hk
            exact hk H_13 g148 o146
           ·have e := e.trans (cond_f c143)
            have c_143' := of_decide_eq_false c143
            rw [e] at hk
            exact hk H_10 g124 o122
          ·have e := e.trans (cond_f c142)
           have c_142' := of_decide_eq_false c142
           rw [e] at hk
           exact hk H_10 g124 o122
        ·have e := e.trans (cond_f c126)
         have c_126' := of_decide_eq_false c126
         refine Br.intro (fun c150 => ?_) (fun c150 => ?_)
         ·have e := e.trans (cond_t c150)
          have c_150' := of_decide_eq_true c150
          refine Br.intro (fun c151 => ?_) (fun c151 => ?_)
          ·have e := e.trans (cond_t c151)
           have c_151' := of_decide_eq_true c151
           refine T_f3z_n_i ⟨_, _, o122, ω0, ω4, ω4, ω4, ω4, ω4, (fun H_14 k153 o154 => ?_)⟩
           have z152 := rsymM_len ν0 ((p_f4z y5_1 start m (((((((a + b) / 2)) + m)) - start)))) (((a + b) / 2)) (((((((a + b) / 2)) + m)) - start)) b
           have l155 := k153.1
           have g156 := g124.transA k153
           have l157 := g156.1
           rw [e] at hk
           exact hk H_14 g156 o154
          ·have e := e.trans (cond_f c151)
           have c_151' := of_decide_eq_false c151
           rw [e] at hk
           exact hk H_10 g124 o122
         ·have e := e.trans (cond_f c150)
          have c_150' := of_decide_eq_false c150
          rw [e] at hk
          exact hk H_10 g124 o122
       ·have e := e.trans (cond_f c119)
        have c_119' := of_decide_eq_false c119
        refine Br.intro (fun c158 => ?_) (fun c158 => ?_)
        ·have e := e.trans (cond_t c158)
         have c_158' := of_decide_eq_true c158
         refine Br.intro (fun c159 => ?_) (fun c159 => ?_)
         ·have e := e.trans (cond_t c159)
          have c_159' := of_decide_eq_true c159
          refine T_f3z_n_i ⟨_, _, r100, ω0, ω4, ω4, ω4, ω4, ω4, (fun H_15 k161 o162 => ?_)⟩
          have z160 := rsymM_len ν0 y5_1 a start (((a + b) / 2))
          have l163 := k161.1
          have g164 := g103.transA k161
          have l165 := g164.1
          refine Br.intro (fun c166 => ?_) (fun c166 => ?_)
          ·have e := e.trans (cond_t c166)
           have c_166' := of_decide_eq_true c166
           refine Br.intro (fun c167 => ?_) (fun c167 => ?_)
           ·have e := e.trans (cond_t c167)
            have c_167' := of_decide_eq_true c167
            refine T_f3z_n_i ⟨_, _, o162, ω0, ω4, ω4, ω4, ω4, ω4, (fun H_16 k169 o170 => ?_)⟩
            have z168 := rsymM_len ν0 ((rsymM ν0 y5_1 a start (((a + b) / 2)))) (((a + b) / 2)) (((((((a + b) / 2)) + m)) - start)) b
            have l171 := k169.1
            have g172 := g164.transA k169
            have l173 := g172.1
            rw [e] at hk
            exact hk H_16 g172 o170
           ·have e := e.trans (cond_f c167)
            have c_167' := of_decide_eq_false c167
            rw [e] at hk
            exact hk H_15 g164 o162
          ·have e := e.trans (cond_f c166)
           have c_166' := of_decide_eq_false c166
           rw [e] at hk
           exact hk H_15 g164 o162
         ·have e := e.trans (cond_f c159)
          have c_159' := of_decide_eq_false c159
          refine Br.intro (fun c174 => ?_) (fun c174 => ?_)
          ·have e := e.trans (cond_t c174)
           have c_174' := of_decide_eq_true c174
           refine Br.intro (fun c175 => ?_) (fun c175 => ?_)
           ·have e := e.trans (cond_t c175)
            have c_175' := of_decide_eq_true c175
            refine T_f3z_n_i ⟨_, _, r100, ω0, ω4, ω4, ω4, ω4, ω4, (fun H_17 k177 o178 => ?_)⟩
            have z176 := rsymM_len ν0 y5_1 (((a + b) / 2)) (((((((a + b) / 2)) + m)) - start)) b
            have l179 := k177.1
            have g180 := g103.transA k177
            have l181 := g180.1
            rw [e] at hk
            exact hk H_17 g180 o178
           ·have e := e.trans (cond_f c175)
            have c_175' := of_decide_eq_false c175
            rw [e] at hk
            exact hk H_9 g103 r100
          ·have e := e.trans (cond_f c174)
           have c_174' := of_decide_eq_false c174
           rw [e] at hk
           exact hk H_9 g103 r100
        ·have e := e.trans (cond_f c158)
         have c_158' := of_decide_eq_false c158
         refine Br.intro (fun c182 => ?_) (fun c182 => ?_)
         ·have e := e.trans (cond_t c182)
          have c_182' := of_decide_eq_true c182
          refine Br.intro (fun c183 => ?_) (fun c183 => ?_)
          ·have e := e.trans (cond_t c183)
           have c_183' := of_decide_eq_true c183
           refine T_f3z_n_i ⟨_, _, r100, ω0, ω4, ω4, ω4, ω4, ω4, (fun H_18 k185 o186 => ?_)⟩
           have z184 := rsymM_len ν0 y5_1 (((a + b) / 2)) (((((((a + b) / 2)) + m)) - start)) b
           have l187 := k185.1
           have g188 := g103.transA k185
           have l189 := g188.1
           rw [e] at hk
           exact hk H_18 g188 o186
          ·have e := e.trans (cond_f c183)
           have c_183' := of_decide_eq_false c183
           rw [e] at hk
           exact hk H_9 g103 r100
         ·have e := e.trans (cond_f c182)
          have c_182' := of_decide_eq_false c182
          rw [e] at hk
          exact hk H_9 g103 r100
      ·have e := e.trans (cond_f c118)
       have c_118' := of_decide_eq_false c118
       refine Br.intro (fun c190 => ?_) (fun c190 => ?_)
       ·have e := e.trans (cond_t c190)
        have c_190' := of_decide_eq_true c190
        refine Br.intro (fun c191 => ?_) (fun c191 => ?_)
        ·have e := e.trans (cond_t c191)
         have c_191' := of_decide_eq_true c191
         refine T_f3z_n_i ⟨_, _, r100, ω0, ω4, ω4, ω4, ω4, ω4, (fun H_19 k193 o194 => ?_)⟩
         have z192 := rsymM_len ν0 y5_1 a start (((a + b) / 2))
         have l195 := k193.1
         have g196 := g103.transA k193
         have l197 := g196.1
         refine Br.intro (fun c198 => ?_) (fun c198 => ?_)
         ·have e := e.trans (cond_t c198)
          have c_198' := of_decide_eq_true c198
          refine Br.intro (fun c199 => ?_) (fun c199 => ?_)
          ·have e := e.trans (cond_t c199)
           have c_199' := of_decide_eq_true c199
           refine T_f3z_n_i ⟨_, _, o194, ω0, ω4, ω4, ω4, ω4, ω4, (fun H_20 k201 o202 => ?_)⟩
           have z200 := rsymM_len ν0 ((rsymM ν0 y5_1 a start (((a + b) / 2)))) (((a + b) / 2)) (((((((a + b) / 2)) + m)) - start)) b
           have l203 := k201.1
           have g204 := g196.transA k201
           have l205 := g204.1
           rw [e] at hk
           exact hk H_20 g204 o202
          ·have e := e.trans (cond_f c199)
           have c_199' := of_decide_eq_false c199
           rw [e] at hk
           exact hk H_19 g196 o194
         ·have e := e.trans (cond_f c198)
          have c_198' := of_decide_eq_false c198
          rw [e] at hk
          exact hk H_19 g196 o194
        ·have e := e.trans (cond_f c191)
         have c_191' := of_decide_eq_false c191
         refine Br.intro (fun c206 => ?_) (fun c206 => ?_)
         ·have e := e.trans (cond_t c206)
          have c_206' := of_decide_eq_true c206
          refine Br.intro (fun c207 => ?_) (fun c207 => ?_)
          ·have e := e.trans (cond_t c207)
           have c_207' := of_decide_eq_true c207
           refine T_f3z_n_i ⟨_, _, r100, ω0, ω4, ω4, ω4, ω4, ω4, (fun H_21 k209 o210 => ?_)⟩
           have z208 := rsymM_len ν0 y5_1 (((a + b) / 2)) (((((((a + b) / 2)) + m)) - start)) b
           have l211 := k209.1
           have g212 := g103.transA k209
           have l213 := g212.1
           rw [e] at hk
           exact hk H_21 g212 o210
          ·have e := e.trans (cond_f c207)
           have c_207' := of_decide_eq_false c207
           rw [e] at hk
           exact hk H_9 g103 r100
         ·have e := e.trans (cond_f c206)
          have c_206' := of_decide_eq_false c206
          rw [e] at hk
          exact hk H_9 g103 r100
       ·have e := e.trans (cond_f c190)
        have c_190' := of_decide_eq_false c190
        refine Br.intro (fun c214 => ?_) (fun c214 => ?_)
        ·have e := e.trans (cond_t c214)
         have c_214' := of_decide_eq_true c214
         refine Br.intro (fun c215 => ?_) (fun c215 => ?_)
         ·have e := e.trans (cond_t c215)
          have c_215' := of_decide_eq_true c215
          refine T_f3z_n_i ⟨_, _, r100, ω0, ω4, ω4, ω4, ω4, ω4, (fun H_22 k217 o218 => ?_)⟩
          have z216 := rsymM_len ν0 y5_1 (((a + b) / 2)) (((((((a + b) / 2)) + m)) - start)) b
          have l219 := k217.1
          have g220 := g103.transA k217
          have l221 := g220.1
          rw [e] at hk
          exact hk H_22 g220 o218
         ·have e := e.trans (cond_f c215)
          have c_215' := of_decide_eq_false c215
          rw [e] at hk
          exact hk H_9 g103 r100
        ·have e := e.trans (cond_f c214)
         have c_214' := of_decide_eq_false c214
         rw [e] at hk
         exact hk H_9 g103 r100
   ·have e := e.trans (cond_f c99)
    have c_99' := of_decide_eq_false c99
    rw [show IntKind.wrap .i64 ((((((a + b) / 2)) + m)) - 1) = ((((((a + b) / 2)) + m)) - 1) from wrap64 ω2 ω2]
    refine f3z_L5 _ _ _ _ _ _ _ _ _ (fun (μ : Nat) (start : Int) (r : Int) (H_23 : AHeap) => ∃ (y5_1 : LN), OwnS fF H_23 lo ia ra.length ka y5_1 ∧ y5_1.length = (ra).length ∧ H.length ≤ H_23.length ∧ KeepA ia H H_23 ∧ a ≤ start ∧ start ≤ r ∧ r ≤ m ∧ r ≤ (a + b) / 2 ∧ (a + b) / 2 + m - b ≤ start ∧ r - start ≤ (μ : Int) ∧ p_f3z ν0 ra a m b = p_f3z_l5 ν0 ra a m b (μ + 1) start r y5_1) (Int.toNat (m - a)) _ _ H ?_ ?_
    ·exact ⟨_, i_data, ω20, ω2, g0, ω7, ω7, ω7, ω7, ω7, ω2, e⟩
    ·intro μ start r  H_23 hI
     obtain ⟨y5_1, r222, y223, n224, g225, v226, v227, v228, v229, v230, hμ, e⟩ := hI
     rw [f3z_r5]
     have e := e.trans (p_f3z_l5_s ν0 ra a m b μ start r y5_1)
     have l231 := g225.1
     refine Br.intro (fun c232 => ?_) (fun c232 => ?_)
     ·have e := e.trans (cond_t c232)
      have c_232' := of_decide_eq_true c232
      rw [show IntKind.wrap .i64 (start + r) = (start + r) from wrap64 ω2 ω2]
      refine ⟨by decide, ?_⟩
      rw [shr1 (x := (start + r)) ω2 ω2]
      rw [show IntKind.wrap .i64 ((start + r) / 2) = ((start + r) / 2) from wrap64 ω2 ω2]
      rw [show IntKind.wrap .i64 ((((((((a + b) / 2)) + m)) - 1)) - (((start + r) / 2))) = ((((((((a + b) / 2)) + m)) - 1)) - (((start + r) / 2))) from wrap64 ω2 ω2]
      obtain ⟨b233, f234, q235⟩ := (r222.isL).pos ω0
      refine ⟨by omega, by omega, b233, f234, q235, ?_⟩
      refine ⟨((y5_1).getD (((((((((a + b) / 2)) + m)) - 1)) - (((start + r) / 2))) : Int).toNat 0), (r222.isL).rd (Grow.refl _) q235 ω2 _, ?_⟩
      obtain ⟨b236, f237, q238⟩ := (r222.isL).pos ω0
      refine ⟨by omega, by omega, b236, f237, q238, ?_⟩
      refine ⟨((y5_1).getD (((start + r) / 2) : Int).toNat 0), (r222.isL).rd (Grow.refl _) q238 ω2 _, ?_⟩
      refine T_f6z_i ?_
      refine Br.intro (fun c239 => ?_) (fun c239 => ?_)
      ·have e := e.trans (cond_t c239)
       have c_239n := nf_of_t c239
       have c_239n' := of_decide_eq_false c_239n
       rw [show IntKind.wrap .i64 ((((start + r) / 2)) + 1) = ((((start + r) / 2)) + 1) from wrap64 ω2 ω2]
       refine f3z_n5 (μ - 1) ω17 ⟨_, r222, ω13, ω2, g225, ω1, ω1, ω1, ω1, ω1, ω17, ω12⟩
      ·have e := e.trans (cond_f c239)
       have c_239n := nt_of_f c239
       have c_239n' := of_decide_eq_true c_239n
       refine f3z_n5 (μ - 1) ω17 ⟨_, r222, ω13, ω2, g225, ω1, ω1, ω1, ω1, ω1, ω17, ω12⟩
     ·have e := e.trans (cond_f c232)
      have c_232' := of_decide_eq_false c232
      rw [f3z_x5_8]
      rw [show IntKind.wrap .i64 ((((((a + b) / 2)) + m)) - start) = ((((((a + b) / 2)) + m)) - start) from wrap64 ω2 ω2]
      refine Br.intro (fun c240 => ?_) (fun c240 => ?_)
      ·have e := e.trans (cond_t c240)
       have c_240' := of_decide_eq_true c240
       refine Br.intro (fun c241 => ?_) (fun c241 => ?_)
       ·have e := e.trans (cond_t c241)
        have c_241' := of_decide_eq_true c241
        refine T_f4z_i ⟨_, _, r222, ω0, ω4, ω4, ω4, ω4, (fun H_24 k243 o244 => ?_)⟩
        have z242 := slices_rotate_len y5_1 start m (((((((a + b) / 2)) + m)) - start)) ω2 ω2 ω2
        have l245 := k243.1
        have g246 := g225.transA k243
        have l247 := g246.1
        refine Br.intro (fun c248 => ?_) (fun c248 => ?_)
        ·have e := e.trans (cond_t c248)
         have c_248' := of_decide_eq_true c248
         refine Br.intro (fun c249 => ?_) (fun c249 => ?_)
         ·have e := e.trans (cond_t c249)
          have c_249' := of_decide_eq_true c249
          refine T_f3z_n_i ⟨_, _, o244, ω0, ω4, ω4, ω4, ω4, ω4, (fun H_25 k251 o252 => ?_)⟩
          have z250 := rsymM_len ν0 ((p_f4z y5_1 start m (((((((a + b) / 2)) + m)) - start)))) a start (((a + b) / 2))
          have l253 := k251.1
          have g254 := g246.transA k251
          have l255 := g254.1
          refine Br.intro (fun c256 => ?_) (fun c256 => ?_)
          ·have e := e.trans (cond_t c256)
           have c_256' := of_decide_eq_true c256
           refine Br.intro (fun c257 => ?_) (fun c257 => ?_)
           ·have e := e.trans (cond_t c257)
            have c_257' := of_decide_eq_true c257
            refine T_f3z_n_i ⟨_, _, o252, ω0, ω4, ω4, ω4, ω4, ω4, (fun H_26 k259 o260 => ?_)⟩
            have z258 := rsymM_len ν0 ((rsymM ν0 ((p_f4z y5_1 start m (((((((a + b) / 2)) + m)) - start)))) a start (((a + b) / 2)))) (((a + b) / 2)) (((((((a + b) / 2)) + m)) - start)) b
            have l261 := k259.1
            have g262 := g254.transA k259
            have l263 := g262.1
            rw [e] at hk
            exact hk H_26 g262 o260
           ·have e := e.trans (cond_f c257)
            have c_257' := of_decide_eq_false c257
            rw [e] at hk
            exact hk H_25 g254 o252
          ·have e := e.trans (cond_f c256)
           have c_256' := of_decide_eq_false c256
           rw [e] at hk
           exact hk H_25 g254 o252
         ·have e := e.trans (cond_f c249)
          have c_249' := of_decide_eq_false c249
          refine Br.intro (fun c264 => ?_) (fun c264 => ?_)
          ·have e := e.trans (cond_t c264)
           have c_264' := of_decide_eq_true c264
           refine Br.intro (fun c265 => ?_) (fun c265 => ?_)
           ·have e := e.trans (cond_t c265)
            have c_265' := of_decide_eq_true c265
            refine T_f3z_n_i ⟨_, _, o244, ω0, ω4, ω4, ω4, ω4, ω4, (fun H_27 k267 o268 => ?_)⟩
            have z266 := rsymM_len ν0 ((p_f4z y5_1 start m (((((((a + b) / 2)) + m)) - start)))) (((a + b) / 2)) (((((((a + b) / 2)) + m)) - start)) b
            have l269 := k267.1
            have g270 := g246.transA k267
            have l271 := g270.1
            rw [e] at hk
            exact hk H_27 g270 o268
           ·have e := e.trans (cond_f c265)
            have c_265' := of_decide_eq_false c265
            rw [e] at hk
            exact hk H_24 g246 o244
          ·have e := e.trans (cond_f c264)
           have c_264' := of_decide_eq_false c264
           rw [e] at hk
           exact hk H_24 g246 o244
        ·have e := e.trans (cond_f c248)
         have c_248' := of_decide_eq_false c248
         refine Br.intro (fun c272 => ?_) (fun c272 => ?_)
         ·have e := e.trans (cond_t c272)
          have c_272' := of_decide_eq_true c272
          refine Br.intro (fun c273 => ?_) (fun c273 => ?_)
          ·have e := e.trans (cond_t c273)
           have c_273' := of_decide_eq_true c273
           refine T_f3z_n_i ⟨_, _, o244, ω0, ω4, ω4, ω4, ω4, ω4, (fun H_28 k275 o276 => ?_)⟩
           have z274 := rsymM_len ν0 ((p_f4z y5_1 start m (((((((a + b) / 2)) + m)) - start)))) (((a + b) / 2)) (((((((a + b) / 2)) + m)) - start)) b
           have l277 := k275.1
           have g278 := g246.transA k275
           have l279 := g278.1
           rw [e] at hk
           exact hk H_28 g278 o276
          ·have e := e.trans (cond_f c273)
           have c_273' := of_decide_eq_false c273
           rw [e] at hk
           exact hk H_24 g246 o244
         ·have e := e.trans (cond_f c272)
          have c_272' := of_decide_eq_false c272
          rw [e] at hk
          exact hk H_24 g246 o244
       ·have e := e.trans (cond_f c241)
        have c_241' := of_decide_eq_false c241
        refine Br.intro (fun c280 => ?_) (fun c280 => ?_)
        ·have e := e.trans (cond_t c280)
         have c_280' := of_decide_eq_true c280
         refine Br.intro (fun c281 => ?_) (fun c281 => ?_)
         ·have e := e.trans (cond_t c281)
          have c_281' := of_decide_eq_true c281
          refine T_f3z_n_i ⟨_, _, r222, ω0, ω4, ω4, ω4, ω4, ω4, (fun H_29 k283 o284 => ?_)⟩
          have z282 := rsymM_len ν0 y5_1 a start (((a + b) / 2))
          have l285 := k283.1
          have g286 := g225.transA k283
          have l287 := g286.1
          refine Br.intro (fun c288 => ?_) (fun c288 => ?_)
          ·have e := e.trans (cond_t c288)
           have c_288' := of_decide_eq_true c288
           refine Br.intro (fun c289 => ?_) (fun c289 => ?_)
           ·have e := e.trans (cond_t c289)
            have c_289' := of_decide_eq_true c289
            refine T_f3z_n_i ⟨_, _, o284, ω0, ω4, ω4, ω4, ω4, ω4, (fun H_30 k291 o292 => ?_)⟩
            have z290 := rsymM_len ν0 ((rsymM ν0 y5_1 a start (((a + b) / 2)))) (((a + b) / 2)) (((((((a + b) / 2)) + m)) - start)) b
            have l293 := k291.1
            have g294 := g286.transA k291
            have l295 := g294.1
            rw [e] at hk
            exact hk H_30 g294 o292
           ·have e := e.trans (cond_f c289)
            have c_289' := of_decide_eq_false c289
            rw [e] at hk
            exact hk H_29 g286 o284
          ·have e := e.trans (cond_f c288)
           have c_288' := of_decide_eq_false c288
           rw [e] at hk
           exact hk H_29 g286 o284
         ·have e := e.trans (cond_f c281)
          have c_281' := of_decide_eq_false c281
          refine Br.intro (fun c296 => ?_) (fun c296 => ?_)
          ·have e := e.trans (cond_t c296)
           have c_296' := of_decide_eq_true c296
           refine Br.intro (fun c297 => ?_) (fun c297 => ?_)
           ·have e := e.trans (cond_t c297)
            have c_297' := of_decide_eq_true c297
            refine T_f3z_n_i ⟨_, _, r222, ω0, ω4, ω4, ω4, ω4, ω4, (fun H_31 k299 o300 => ?_)⟩
            have z298 := rsymM_len ν0 y5_1 (((a + b) / 2)) (((((((a + b) / 2)) + m)) - start)) b
            have l301 := k299.1
            have g302 := g225.transA k299
            have l303 := g302.1
            rw [e] at hk
            exact hk H_31 g302 o300
           ·have e := e.trans (cond_f c297)
            have c_297' := of_decide_eq_false c297
            rw [e] at hk
            exact hk H_23 g225 r222
          ·have e := e.trans (cond_f c296)
           have c_296' := of_decide_eq_false c296
           rw [e] at hk
           exact hk H_23 g225 r222
        ·have e := e.trans (cond_f c280)
         have c_280' := of_decide_eq_false c280
         refine Br.intro (fun c304 => ?_) (fun c304 => ?_)
         ·have e := e.trans (cond_t c304)
          have c_304' := of_decide_eq_true c304
          refine Br.intro (fun c305 => ?_) (fun c305 => ?_)
          ·have e := e.trans (cond_t c305)
           have c_305' := of_decide_eq_true c305
           refine T_f3z_n_i ⟨_, _, r222, ω0, ω4, ω4, ω4, ω4, ω4, (fun H_32 k307 o308 => ?_)⟩
           have z306 := rsymM_len ν0 y5_1 (((a + b) / 2)) (((((((a + b) / 2)) + m)) - start)) b
           have l309 := k307.1
           have g310 := g225.transA k307
           have l311 := g310.1
           rw [e] at hk
           exact hk H_32 g310 o308
          ·have e := e.trans (cond_f c305)
           have c_305' := of_decide_eq_false c305
           rw [e] at hk
           exact hk H_23 g225 r222
         ·have e := e.trans (cond_f c304)
          have c_304' := of_decide_eq_false c304
          rw [e] at hk
          exact hk H_23 g225 r222
      ·have e := e.trans (cond_f c240)
       have c_240' := of_decide_eq_false c240
       refine Br.intro (fun c312 => ?_) (fun c312 => ?_)
       ·have e := e.trans (cond_t c312)
        have c_312' := of_decide_eq_true c312
        refine Br.intro (fun c313 => ?_) (fun c313 => ?_)
        ·have e := e.trans (cond_t c313)
         have c_313' := of_decide_eq_true c313
         refine T_f3z_n_i ⟨_, _, r222, ω0, ω4, ω4, ω4, ω4, ω4, (fun H_33 k315 o316 => ?_)⟩
         have z314 := rsymM_len ν0 y5_1 a start (((a + b) / 2))
         have l317 := k315.1
         have g318 := g225.transA k315
         have l319 := g318.1
         refine Br.intro (fun c320 => ?_) (fun c320 => ?_)
         ·have e := e.trans (cond_t c320)
          have c_320' := of_decide_eq_true c320
          refine Br.intro (fun c321 => ?_) (fun c321 => ?_)
          ·have e := e.trans (cond_t c321)
           have c_321' := of_decide_eq_true c321
           refine T_f3z_n_i ⟨_, _, o316, ω0, ω4, ω4, ω4, ω4, ω4, (fun H_34 k323 o324 => ?_)⟩
           have z322 := rsymM_len ν0 ((rsymM ν0 y5_1 a start (((a + b) / 2)))) (((a + b) / 2)) (((((((a + b) / 2)) + m)) - start)) b
           have l325 := k323.1
           have g326 := g318.transA k323
           have l327 := g326.1
           rw [e] at hk
           exact hk H_34 g326 o324
          ·have e := e.trans (cond_f c321)
           have c_321' := of_decide_eq_false c321
           rw [e] at hk
           exact hk H_33 g318 o316
         ·have e := e.trans (cond_f c320)
          have c_320' := of_decide_eq_false c320
          rw [e] at hk
          exact hk H_33 g318 o316
        ·have e := e.trans (cond_f c313)
         have c_313' := of_decide_eq_false c313
         refine Br.intro (fun c328 => ?_) (fun c328 => ?_)
         ·have e := e.trans (cond_t c328)
          have c_328' := of_decide_eq_true c328
          refine Br.intro (fun c329 => ?_) (fun c329 => ?_)
          ·have e := e.trans (cond_t c329)
           have c_329' := of_decide_eq_true c329
           refine T_f3z_n_i ⟨_, _, r222, ω0, ω4, ω4, ω4, ω4, ω4, (fun H_35 k331 o332 => ?_)⟩
           have z330 := rsymM_len ν0 y5_1 (((a + b) / 2)) (((((((a + b) / 2)) + m)) - start)) b
           have l333 := k331.1
           have g334 := g225.transA k331
           have l335 := g334.1
           rw [e] at hk
           exact hk H_35 g334 o332
          ·have e := e.trans (cond_f c329)
           have c_329' := of_decide_eq_false c329
           rw [e] at hk
           exact hk H_23 g225 r222
         ·have e := e.trans (cond_f c328)
          have c_328' := of_decide_eq_false c328
          rw [e] at hk
          exact hk H_23 g225 r222
       ·have e := e.trans (cond_f c312)
        have c_312' := of_decide_eq_false c312
        refine Br.intro (fun c336 => ?_) (fun c336 => ?_)
        ·have e := e.trans (cond_t c336)
         have c_336' := of_decide_eq_true c336
         refine Br.intro (fun c337 => ?_) (fun c337 => ?_)
         ·have e := e.trans (cond_t c337)
          have c_337' := of_decide_eq_true c337
          refine T_f3z_n_i ⟨_, _, r222, ω0, ω4, ω4, ω4, ω4, ω4, (fun H_36 k339 o340 => ?_)⟩
          have z338 := rsymM_len ν0 y5_1 (((a + b) / 2)) (((((((a + b) / 2)) + m)) - start)) b
          have l341 := k339.1
          have g342 := g225.transA k339
          have l343 := g342.1
          rw [e] at hk
          exact hk H_36 g342 o340
         ·have e := e.trans (cond_f c337)
          have c_337' := of_decide_eq_false c337
          rw [e] at hk
          exact hk H_23 g225 r222
        ·have e := e.trans (cond_f c336)
         have c_336' := of_decide_eq_false c336
         rw [e] at hk
         exact hk H_23 g225 r222
theorem f3z_ok_n : ∀ ν, FnOk Try.prog 227 (S_f3z_n ν) := by
 intro ν
 induction ν with
 | zero =>
  refine FnOk.never fun args H K hk => ?_
  simp only [S_f3z_n] at hk
  unfold F_f3z_n at hk
  split at hk
  ·obtain ⟨lo, ra, i_data, bd_344, pr0, pr1, pr2, pr3, pr4, k⟩ := hk
   omega
  ·exact hk
 | succ ν ih =>
  refine FnOk.body mix_ok (E_f3z_ok ν ih) Try.func227 rfl ω15 ω15 ?_ ?_ ?_ ?_ ?_
  ·intro args H K K' h hk
   simp only [S_f3z_n] at *
   unfold F_f3z_n at *
   split at hk
   ·obtain ⟨lo, ra, i_data, bd_344, pr0, pr1, pr2, pr3, pr4, k⟩ := hk
    exact ⟨lo, ra, i_data, bd_344, pr0, pr1, pr2, pr3, pr4, (fun H' gg ow => h _ _ (k H' gg ow))⟩
   ·exact hk.elim
  ·intro hq; cases hq
  ·intro args H K hk
   simp only [S_f3z_n] at *
   unfold F_f3z_n at *
   split at hk
   ·obtain ⟨lo, ra, i_data, bd_344, pr0, pr1, pr2, pr3, pr4, k⟩ := hk
    exact (i_data.put _ (by exact rsymM_len _ _ _ _ _)).elim fun H1 h => ⟨_, _, k H1 h.1 h.2⟩
   ·exact hk.elim
  ·intro hq; cases hq
  ·have mm := @f3z_main ν
   have ml := fun (args : List Value) (H : AHeap) (K : Value → AHeap → Prop) => bodyL_body (P := Try.prog) (env := (E_f3z ν) ) (fn := Try.f227) (args := args) (H := H) (K := K) (E_f3z_ok ν ih) 
   revert mm ml
   generalize bodyK Try.prog (E_f3z ν) Try.f227 = Q
   generalize bodyL Try.prog (E_f3z ν) Try.f227 = QL
   intro mm ml args H K hk
   simp only [S_f3z_n] at *
   unfold F_f3z_n at *
   split at hk
   ·exact ml _ H K (mm _ _ _ _ _ _ H K hk)
   ·exact hk.elim
theorem f3z_ok : FnOk Try.prog 227 S_f3z := FnOk.union rfl rfl (fun args H K hk => by
 simp only [S_f3z] at hk
 unfold F_f3z at hk
 split at hk
 ·exact ⟨S_f3z_n _, f3z_ok_n _, fun K' => Iff.rfl⟩
 ·exact hk.elim)

def p_f5z_l3 (ra : LN) (n : Int) (a : Int) (b : Int) (y1_1 : LN) (blockSize : Int) (a_7 : Int) (b_8 : Int) (y2_1 : LN) (k3_4 : Int → Int → LN → LN) : Nat → Int → Int → LN → LN
 | 0, _, _, _ => []
 | μ3 + 1, a_7', b_8', y3_1 => (bif decide ((b_8' : Int) ≤ n) then (p_f5z_l3 ra n a b y1_1 blockSize a_7 b_8 y2_1 k3_4 μ3 b_8' ((b_8' + (2 * blockSize))) ((rsymM ((b_8' - a_7').toNat) y3_1 a_7' (a_7' + blockSize) b_8'))) else (k3_4 a_7' b_8' y3_1))
def p_f5z_l3_s := fun ra n a b y1_1 blockSize a_7 b_8 y2_1 k3_4 μ3 a_7' b_8' y3_1 => @p_f5z_l3.eq_2 ra n a b y1_1 blockSize a_7 b_8 y2_1 k3_4 a_7' b_8' y3_1 μ3
def p_f5z_l2 (ra : LN) (n : Int) (a : Int) (b : Int) (y1_1 : LN) (k2_2 : Int → Int → Int → LN → LN) : Nat → Int → Int → Int → LN → LN
 | 0, _, _, _, _ => []
 | μ2 + 1, blockSize, a_7, b_8, y2_1 => (bif decide ((blockSize : Int) < n) then (p_f5z_l3 ra n a b y1_1 blockSize a_7 b_8 y2_1 (fun (a_7' : Int) (b_8' : Int) (y3_1 : LN) => (bif decide (((a_7' + blockSize) : Int) < n) then (p_f5z_l2 ra n a b y1_1 k2_2 μ2 (blockSize * 2) a_7' b_8' ((rsymM ((n - a_7').toNat) y3_1 a_7' (a_7' + blockSize) n))) else (p_f5z_l2 ra n a b y1_1 k2_2 μ2 (blockSize * 2) a_7' b_8' y3_1))) (Int.toNat (n - (0 : Int)) + 1) (0 : Int) (2 * blockSize) y2_1) else (k2_2 blockSize a_7 b_8 y2_1))
def p_f5z_l2_s := fun ra n a b y1_1 k2_2 μ2 blockSize a_7 b_8 y2_1 => @p_f5z_l2.eq_2 ra n a b y1_1 k2_2 blockSize a_7 b_8 y2_1 μ2
def p_f5z_l1 (ra : LN) (n : Int) : Nat → Int → Int → LN → LN
 | 0, _, _, _ => []
 | μ + 1, a, b, y1_1 => (bif decide ((b : Int) ≤ n) then (p_f5z_l1 ra n μ b (b + 20) (p_f1z y1_1 a b)) else (p_f5z_l2 ra n a b y1_1 (fun (blockSize : Int) (a_7 : Int) (b_8 : Int) (y2_1 : LN) => y2_1) (Int.toNat (n - (20 : Int)) + 1) (20 : Int) a b (p_f1z y1_1 a n)))
def p_f5z_l1_s := fun ra n μ a b y1_1 => @p_f5z_l1.eq_2 ra n a b y1_1 μ
def p_f5z (ra : LN) (n : Int) : LN := (p_f5z_l1 ra n (Int.toNat (n - (0 : Int)) + 1) (0 : Int) (20 : Int) ra)
def p_f5z_eq := @p_f5z.eq_1
def T_f5z (ia : OA) (ja : Nat) (ka : Nat) (n : Int) (H : AHeap) (K : AHeap → Prop) : Prop := ∃ lo : Nat, ∃ (ra : LN), OwnS fF H lo ia ja ka ra ∧ ra.length < 1073741824 ∧ n = ra.length ∧ ((∀ H' : AHeap, KeepA ia H H' → OwnS fF H' lo ia ja ka (p_f5z ra n) → K  H'))
theorem T_f5z_i {ia : OA} {ja : Nat} {ka : Nat} {n : Int} {H : AHeap} {K : AHeap → Prop} (h : ∃ lo : Nat, ∃ (ra : LN), OwnS fF H lo ia ja ka ra ∧ ra.length < 1073741824 ∧ n = ra.length ∧ ((∀ H' : AHeap, KeepA ia H H' → OwnS fF H' lo ia ja ka (p_f5z ra n) → K  H'))) : T_f5z ia ja ka n H K := h
theorem st_l3 (l : LN) (n a0 b0 : Int) (y1 : LN) (s a7 b8 : Int) (y2 : LN) (k : Int → Int → LN → LN) (G : LN → LN) (hs : 0 < s)
  (hk : ∀ (a b : Int) (y : LN), 0 ≤ a → a ≤ n → (y.length : Int) = n → k a b y = G (if a.toNat + s.toNat < y.length then So.symM kappa (y.length - a.toNat) y a.toNat (a.toNat + s.toNat) y.length else y)) :
  ∀ (μ : Nat) (a b : Int) (y : LN), n - a ≤ μ → 0 ≤ a → a ≤ n → b = a + 2 * s → (y.length : Int) = n →
   p_f5z_l3 l n a0 b0 y1 s a7 b8 y2 k (μ + 1) a b y = G (So.mrgs kappa s.toNat (μ + 1) y a.toNat) := by
 intro μ
 induction μ with
 | zero =>
  intro a b y h1 h2 h3 h4 h5
  rw [p_f5z_l3_s, decide_eq_false ω2, cond_false, hk a b y h2 h3 h5]
  unfold So.mrgs
  rw [if_neg (c := a.toNat + 2 * s.toNat ≤ y.length) ω2]
 | succ μ ih =>
  intro a b y h1 h2 h3 h4 h5
  rw [p_f5z_l3_s]
  unfold So.mrgs
  by_cases h : b ≤ n
  ·rw [decide_eq_true h, cond_true, if_pos (c := a.toNat + 2 * s.toNat ≤ y.length) ω2, ih b (b + 2 * s) _ ω2 ω2 h rfl (by rw [rsymM_len]; exact h5)]
   unfold rsymM
   rw [show (b - a).toNat = 2 * s.toNat by omega, show (a + s).toNat = a.toNat + s.toNat by omega, show b.toNat = a.toNat + 2 * s.toNat by omega]
  ·rw [decide_eq_false h, cond_false, if_neg (c := a.toNat + 2 * s.toNat ≤ y.length) ω2, hk a b y h2 h3 h5]
theorem mrgs_length (κ : Nat → Int) (s : Nat) : ∀ (f : Nat) (l : LN) (a : Nat), (So.mrgs κ s f l a).length = l.length
 | 0, _, _ => rfl
 | f + 1, l, a => by
  unfold So.mrgs
  split
  ·rw [mrgs_length κ s f, So.symM_length]
  ·split
   ·rw [So.symM_length]
   ·rfl
theorem stb_length (κ : Nat → Int) : ∀ (f : Nat) (l : LN) (s : Nat), (So.stb κ f l s).length = l.length
 | 0, _, _ => rfl
 | f + 1, l, s => by
  unfold So.stb
  split
  ·rw [stb_length κ f, mrgs_length]
  ·rfl
theorem blks_length (κ : Nat → Int) (s : Nat) : ∀ (f : Nat) (l : LN) (a : Nat), (So.blks κ s f l a).length = l.length
 | 0, _, _ => rfl
 | f + 1, l, a => by
  unfold So.blks
  split
  ·rw [blks_length κ s f, So.insS_length]
  ·rw [So.insS_length]
theorem st_l2 (l : LN) (n a0 b0 : Int) (y1 : LN) : ∀ (μ : Nat) (s a7 b8 : Int) (y : LN), n - s ≤ μ → 0 < s → (y.length : Int) = n →
  p_f5z_l2 l n a0 b0 y1 (fun _ _ _ y => y) (μ + 1) s a7 b8 y = So.stb kappa (μ + 1) y s.toNat := by
 intro μ
 induction μ with
 | zero =>
  intro s a7 b8 y h1 h2 h3
  rw [p_f5z_l2_s, decide_eq_false ω2, cond_false]
  unfold So.stb
  rw [if_neg ω2]
 | succ μ ih =>
  intro s a7 b8 y h1 h2 h3
  rw [p_f5z_l2_s]
  unfold So.stb
  by_cases h : s < n
  ·rw [decide_eq_true h, cond_true, if_pos ω2]
   rw [st_l3 l n a0 b0 y1 s a7 b8 y _ (fun y => So.stb kappa (μ + 1) y (2 * s.toNat)) h2 ?_ _ 0 _ y ω2 ω2 ω2 ω2 h3]
   ·rw [show (n - 0).toNat = y.length by omega]; rfl
   ·intro a b y' g1 g2 g3
    by_cases hc : a + s < n
    ·rw [decide_eq_true hc, cond_true, if_pos ω2, ih (s * 2) a b _ ω2 ω2 (by rw [rsymM_len]; exact g3)]
     unfold rsymM
     rw [show (n - a).toNat = y'.length - a.toNat by omega, show (a + s).toNat = a.toNat + s.toNat by omega, show n.toNat = y'.length by omega, show (s * 2).toNat = 2 * s.toNat by omega]
    ·rw [decide_eq_false hc, cond_false, if_neg ω2, ih (s * 2) a b _ ω2 ω2 g3, show (s * 2).toNat = 2 * s.toNat by omega]
  ·rw [decide_eq_false h, cond_false, if_neg ω2]
theorem st_l1 (l : LN) (n : Int) : ∀ (μ : Nat) (a b : Int) (y : LN), n - a ≤ μ → 0 ≤ a → b = a + 20 → (y.length : Int) = n →
  p_f5z_l1 l n (μ + 1) a b y = So.stb kappa ((n - 20).toNat + 1) (So.blks kappa 20 (μ + 1) y a.toNat) 20 := by
 intro μ
 induction μ with
 | zero =>
  intro a b y h1 h2 h3 h4
  rw [p_f5z_l1_s, decide_eq_false ω2, cond_false, slices_insertionSort_eq _ _ _ h2, st_l2 _ _ _ _ _ _ _ _ _ _ ω2 ω2 (by rw [So.insS_length]; exact h4)]
  unfold So.blks
  rw [if_neg ω2, show (n - (a + 1)).toNat = y.length - a.toNat - 1 by omega]; rfl
 | succ μ ih =>
  intro a b y h1 h2 h3 h4
  rw [p_f5z_l1_s]
  unfold So.blks
  by_cases h : b ≤ n
  ·rw [decide_eq_true h, cond_true, if_pos ω2, slices_insertionSort_eq _ _ _ h2, ih b (b + 20) _ ω2 ω2 rfl (by rw [So.insS_length]; exact h4)]
   rw [show (b - (a + 1)).toNat = 20 - 1 by omega, show b.toNat = a.toNat + 20 by omega]
  ·rw [decide_eq_false h, cond_false, slices_insertionSort_eq _ _ _ h2, st_l2 _ _ _ _ _ _ _ _ _ _ ω2 ω2 (by rw [So.insS_length]; exact h4), if_neg ω2]
   rw [show (n - (a + 1)).toNat = y.length - a.toNat - 1 by omega]; rfl
theorem slices_stable_eq (l : LN) (n : Int) (h : n = l.length) : p_f5z l n = So.stb kappa ((n - 20).toNat + 1) (So.blks kappa 20 (n.toNat + 1) l 0) 20 := by
 rw [p_f5z_eq, st_l1 l n _ 0 20 l ω2 ω2 ω2 h.symm, show (n - 0).toNat = n.toNat by omega]; rfl
theorem slices_stable_len (l : LN) (n : Int) (h : n = l.length) : (p_f5z l n).length = l.length := by
 rw [slices_stable_eq l n h, stb_length, blks_length]
theorem slices_stable_ss (l : LN) (n : Int) (h : n = l.length) : So.SS kappa l (p_f5z l n) := by
 rw [slices_stable_eq l n h]
 have := So.blks_spec (κ := kappa) 20 ω32 (n.toNat + 1) l [] 0 ω2 rfl (by simp)
 simp only [List.flatten_nil, List.nil_append] at this
 refine So.SS.behind this.2 (So.stb_spec _ _ _ ω32 ?_ this.1)
 rw [this.2.length]; omega
/-! f5z: function 202 -/
def E_f5z : Env := envOf [(226, S_f1z), (227, S_f3z)]
def F_f5z : List Value → AHeap → (Value → AHeap → Prop) → Prop
 | [.slice ia ja ka, .int .i64 n, .func (.func 174) ⟨[]⟩ ⟨[]⟩], H, K => T_f5z ia ja ka n H fun  (H' : AHeap) => K (.tuple #[]) H'
 | _, _, _ => False
def S_f5z : FSpec := { F := F_f5z, quiet := false, tame := false }
theorem f5z_vc (ia : OA) (ja : Nat) (ka : Nat) (n : Int) (H : AHeap) (K : Value → AHeap → Prop) : bodyL Try.prog E_f5z Try.f202 [.slice ia ja ka, .int .i64 n, .func (.func 174) #[] #[]] H K =
 (loopK (exL Try.prog E_f5z (cl (cl (cl (cr (cr (bodyC Try.f202)))))) 455 0 [(0, 199)]) (.slice ia ja ka :: .int .i64 n :: .func (.func 174) #[] #[] :: ud3 (.int .i64 20 :: .int .i64 0 :: .int .i64 20 :: ud54 [])) H (blockQ 0 (seqQ (exL Try.prog E_f5z (cr (cr (cr (bodyC Try.f202)))) 0 0 []) (retK Try.prog Try.f202 K)))) := by kernel_rfl
abbrev f5z_P1 (ia : OA) (ka : Nat) (ja : Nat) (n : Int) (a : Int) (b : Int)  : List Value := (.slice ia ja ka :: .int .i64 n :: .func (.func 174) #[] #[] :: ud3 (.int .i64 20 :: .int .i64 a :: .int .i64 b :: ud54 []))
theorem f5z_r1 (ia : OA) (ka : Nat) (ja : Nat) (n : Int) (a : Int) (b : Int)  (H : AHeap) (R : Post) : exL Try.prog E_f5z (cl (cl (cl (cr (cr (bodyC Try.f202)))))) 455 0 [(0, 199)] (f5z_P1 ia ka ja n a b) H R =
 (Br (decide ((b : Int) ≤ n)) (T_f1z ia ja ka a b H fun  (H1 : AHeap) => R .normal (.slice ia ja ka :: .int .i64 n :: .func (.func 174) #[] #[] :: ud3 (.int .i64 20 :: .int .i64 b :: .int .i64 (IntKind.wrap .i64 (b + 20)) :: ud54 [])) H1) (R (.exit 0) (.slice ia ja ka :: .int .i64 n :: .func (.func 174) #[] #[] :: ud3 (.int .i64 20 :: .int .i64 a :: ud55 [])) H)) := by kernel_rfl
def f5z_I1 (ia : OA) (ka : Nat) (ja : Nat) (n : Int) (Inv : Nat → Int → Int → AHeap → Prop) : Nat → List Value → AHeap → Prop := fun μ tm H => ∃ (a : Int), ∃ (b : Int), tm = (f5z_P1 ia ka ja n a b) ∧ Inv μ a b H
theorem f5z_L1 (ia : OA) (ka : Nat) (ja : Nat) (n : Int) {Q : Post} (Inv : Nat → Int → Int → AHeap → Prop) (ν : Nat) (a : Int) (b : Int)  (H : AHeap) (h0 : Inv ν a b H)
  (hs : ∀ (μ : Nat) (a : Int) (b : Int)  (H : AHeap), Inv μ a b H → exL Try.prog E_f5z (cl (cl (cl (cr (cr (bodyC Try.f202)))))) 455 0 [(0, 199)] (f5z_P1 ia ka ja n a b) H (loopQ (f5z_I1 ia ka ja n Inv) μ Q)) : loopK (exL Try.prog E_f5z (cl (cl (cl (cr (cr (bodyC Try.f202)))))) 455 0 [(0, 199)]) (f5z_P1 ia ka ja n a b) H Q :=
 ⟨f5z_I1 ia ka ja n Inv, ν, ⟨a, b, rfl, h0⟩, fun μ tm H h => by obtain ⟨a, b, rfl, hI⟩ := h; exact hs μ a b  H hI⟩
theorem f5z_n1 {ia : OA} {ka : Nat} {ja : Nat} {n : Int} {Q : Post} {Inv : Nat → Int → Int → AHeap → Prop} {μ : Nat} (μ' : Nat) {a : Int} {b : Int}  {H : AHeap} (hm : μ' < μ) (hI : Inv μ' a b H) : loopQ (f5z_I1 ia ka ja n Inv) μ Q .normal (f5z_P1 ia ka ja n a b) H := ⟨μ', hm, a, b, rfl, hI⟩
theorem f5z_x1_0 (ia : OA) (ka : Nat) (ja : Nat) (n : Int) (a : Int) (H : AHeap) (K : Value → AHeap → Prop)  {I : Nat → List Value → AHeap → Prop} {μ : Nat} : loopQ I μ (blockQ 0 (seqQ (exL Try.prog E_f5z (cr (cr (cr (bodyC Try.f202)))) 0 0 []) (retK Try.prog Try.f202 K))) (.exit 0) (.slice ia ja ka :: .int .i64 n :: .func (.func 174) #[] #[] :: ud3 (.int .i64 20 :: .int .i64 a :: ud55 [])) H =
 (T_f1z ia ja ka a n H fun  (H2 : AHeap) => loopK (exL Try.prog E_f5z (cl (cl (cr (cr (cr (cr (bodyC Try.f202))))))) 71 0 [(2, 0)]) (.slice ia ja ka :: .int .i64 n :: .func (.func 174) #[] #[] :: ud3 (.int .i64 20 :: ud56 [])) H2 (blockQ 2 (retK Try.prog Try.f202 K))) := by kernel_rfl
abbrev f5z_P2 (ia : OA) (ka : Nat) (ja : Nat) (n : Int) (blockSize : Int)  : List Value := (.slice ia ja ka :: .int .i64 n :: .func (.func 174) #[] #[] :: ud3 (.int .i64 blockSize :: ud56 []))
theorem f5z_r2 (ia : OA) (ka : Nat) (ja : Nat) (n : Int) (blockSize : Int)  (H : AHeap) (R : Post) : exL Try.prog E_f5z (cl (cl (cr (cr (cr (cr (bodyC Try.f202))))))) 71 0 [(2, 0)] (f5z_P2 ia ka ja n blockSize) H R =
 (Br (decide ((blockSize : Int) < n)) (loopK (exL Try.prog E_f5z (cl (cl (cl (cr (cl (cr (cl (cl (cr (cr (cr (cr (bodyC Try.f202))))))))))))) 455 0 [(4, 199), (3, 71), (2, 0)]) (.slice ia ja ka :: .int .i64 n :: .func (.func 174) #[] #[] :: ud3 (.int .i64 blockSize :: .int .i64 0 :: .int .i64 (IntKind.wrap .i64 (2 * blockSize)) :: ud54 [])) H (blockQ 4 (seqQ (exL Try.prog E_f5z (cr (cr (cl (cr (cl (cl (cr (cr (cr (cr (bodyC Try.f202))))))))))) 71 0 [(3, 71), (2, 0)]) (blockQ 3 (R))))) (R (.exit 2) (ud63 []) H)) := by kernel_rfl
def f5z_I2 (ia : OA) (ka : Nat) (ja : Nat) (n : Int) (Inv : Nat → Int → AHeap → Prop) : Nat → List Value → AHeap → Prop := fun μ tm H => ∃ (blockSize : Int), tm = (f5z_P2 ia ka ja n blockSize) ∧ Inv μ blockSize H
theorem f5z_L2 (ia : OA) (ka : Nat) (ja : Nat) (n : Int) {Q : Post} (Inv : Nat → Int → AHeap → Prop) (ν : Nat) (blockSize : Int)  (H : AHeap) (h0 : Inv ν blockSize H)
  (hs : ∀ (μ : Nat) (blockSize : Int)  (H : AHeap), Inv μ blockSize H → exL Try.prog E_f5z (cl (cl (cr (cr (cr (cr (bodyC Try.f202))))))) 71 0 [(2, 0)] (f5z_P2 ia ka ja n blockSize) H (loopQ (f5z_I2 ia ka ja n Inv) μ Q)) : loopK (exL Try.prog E_f5z (cl (cl (cr (cr (cr (cr (bodyC Try.f202))))))) 71 0 [(2, 0)]) (f5z_P2 ia ka ja n blockSize) H Q :=
 ⟨f5z_I2 ia ka ja n Inv, ν, ⟨blockSize, rfl, h0⟩, fun μ tm H h => by obtain ⟨blockSize, rfl, hI⟩ := h; exact hs μ blockSize  H hI⟩
theorem f5z_n2 {ia : OA} {ka : Nat} {ja : Nat} {n : Int} {Q : Post} {Inv : Nat → Int → AHeap → Prop} {μ : Nat} (μ' : Nat) {blockSize : Int}  {H : AHeap} (hm : μ' < μ) (hI : Inv μ' blockSize H) : loopQ (f5z_I2 ia ka ja n Inv) μ Q .normal (f5z_P2 ia ka ja n blockSize) H := ⟨μ', hm, blockSize, rfl, hI⟩
theorem f5z_x2_2  (H : AHeap) (K : Value → AHeap → Prop)  {I : Nat → List Value → AHeap → Prop} {μ : Nat} : loopQ I μ (blockQ 2 (retK Try.prog Try.f202 K)) (.exit 2) (ud63 []) H =
 (K (.tuple #[]) H) := by kernel_rfl
abbrev f5z_P3 (blockSize : Int) (ia : OA) (ka : Nat) (ja : Nat) (n : Int) (a_7' : Int) (b_8' : Int)  : List Value := (.slice ia ja ka :: .int .i64 n :: .func (.func 174) #[] #[] :: ud3 (.int .i64 blockSize :: .int .i64 a_7' :: .int .i64 b_8' :: ud54 []))
theorem f5z_r3 (blockSize : Int) (ia : OA) (ka : Nat) (ja : Nat) (n : Int) (a_7' : Int) (b_8' : Int)  (H : AHeap) (R : Post) : exL Try.prog E_f5z (cl (cl (cl (cr (cl (cr (cl (cl (cr (cr (cr (cr (bodyC Try.f202))))))))))))) 455 0 [(4, 199), (3, 71), (2, 0)] (f5z_P3 blockSize ia ka ja n a_7' b_8') H R =
 (Br (decide ((b_8' : Int) ≤ n)) (T_f3z ia ja ka a_7' (IntKind.wrap .i64 (a_7' + blockSize)) b_8' H fun  (H3 : AHeap) => R .normal (.slice ia ja ka :: .int .i64 n :: .func (.func 174) #[] #[] :: ud3 (.int .i64 blockSize :: .int .i64 b_8' :: .int .i64 (IntKind.wrap .i64 (b_8' + (IntKind.wrap .i64 (2 * blockSize)))) :: ud54 [])) H3) (R (.exit 4) (.slice ia ja ka :: .int .i64 n :: .func (.func 174) #[] #[] :: ud3 (.int .i64 blockSize :: .int .i64 a_7' :: ud55 [])) H)) := by kernel_rfl
def f5z_I3 (blockSize : Int) (ia : OA) (ka : Nat) (ja : Nat) (n : Int) (Inv : Nat → Int → Int → AHeap → Prop) : Nat → List Value → AHeap → Prop := fun μ tm H => ∃ (a_7' : Int), ∃ (b_8' : Int), tm = (f5z_P3 blockSize ia ka ja n a_7' b_8') ∧ Inv μ a_7' b_8' H
theorem f5z_L3 (blockSize : Int) (ia : OA) (ka : Nat) (ja : Nat) (n : Int) {Q : Post} (Inv : Nat → Int → Int → AHeap → Prop) (ν : Nat) (a_7' : Int) (b_8' : Int)  (H : AHeap) (h0 : Inv ν a_7' b_8' H)
  (hs : ∀ (μ : Nat) (a_7' : Int) (b_8' : Int)  (H : AHeap), Inv μ a_7' b_8' H → exL Try.prog E_f5z (cl (cl (cl (cr (cl (cr (cl (cl (cr (cr (cr (cr (bodyC Try.f202))))))))))))) 455 0 [(4, 199), (3, 71), (2, 0)] (f5z_P3 blockSize ia ka ja n a_7' b_8') H (loopQ (f5z_I3 blockSize ia ka ja n Inv) μ Q)) : loopK (exL Try.prog E_f5z (cl (cl (cl (cr (cl (cr (cl (cl (cr (cr (cr (cr (bodyC Try.f202))))))))))))) 455 0 [(4, 199), (3, 71), (2, 0)]) (f5z_P3 blockSize ia ka ja n a_7' b_8') H Q :=
 ⟨f5z_I3 blockSize ia ka ja n Inv, ν, ⟨a_7', b_8', rfl, h0⟩, fun μ tm H h => by obtain ⟨a_7', b_8', rfl, hI⟩ := h; exact hs μ a_7' b_8'  H hI⟩
theorem f5z_n3 {blockSize : Int} {ia : OA} {ka : Nat} {ja : Nat} {n : Int} {Q : Post} {Inv : Nat → Int → Int → AHeap → Prop} {μ : Nat} (μ' : Nat) {a_7' : Int} {b_8' : Int}  {H : AHeap} (hm : μ' < μ) (hI : Inv μ' a_7' b_8' H) : loopQ (f5z_I3 blockSize ia ka ja n Inv) μ Q .normal (f5z_P3 blockSize ia ka ja n a_7' b_8') H := ⟨μ', hm, a_7', b_8', rfl, hI⟩
theorem f5z_x3_4 (blockSize : Int) (ia : OA) (ka : Nat) (ja : Nat) (n : Int) (a_7' : Int) (H : AHeap)  (R : Post) {I : Nat → List Value → AHeap → Prop} {μ : Nat} : loopQ I μ (blockQ 4 (seqQ (exL Try.prog E_f5z (cr (cr (cl (cr (cl (cl (cr (cr (cr (cr (bodyC Try.f202))))))))))) 71 0 [(3, 71), (2, 0)]) (blockQ 3 (R)))) (.exit 4) (.slice ia ja ka :: .int .i64 n :: .func (.func 174) #[] #[] :: ud3 (.int .i64 blockSize :: .int .i64 a_7' :: ud55 [])) H =
 (Br (decide ((IntKind.wrap .i64 (a_7' + blockSize) : Int) < n)) (T_f3z ia ja ka a_7' (IntKind.wrap .i64 (a_7' + blockSize)) n H fun  (H4 : AHeap) => R .normal (.slice ia ja ka :: .int .i64 n :: .func (.func 174) #[] #[] :: ud3 (.int .i64 (IntKind.wrap .i64 (blockSize * 2)) :: ud56 [])) H4) (R .normal (.slice ia ja ka :: .int .i64 n :: .func (.func 174) #[] #[] :: ud3 (.int .i64 (IntKind.wrap .i64 (blockSize * 2)) :: ud56 [])) H)) := by kernel_rfl
theorem E_f5z_ok : ∀ g, FnOk Try.prog g (E_f5z g) := FnOk.envOf (by
 intro x hx
 simp only [List.mem_cons, List.not_mem_nil, or_false] at hx
 rcases hx with rfl | rfl
 ·exact f1z_ok
 ·exact f3z_ok)
theorem f5z_main (ia : OA) (ja : Nat) (ka : Nat) (n : Int) (H : AHeap) (K : Value → AHeap → Prop) (h : T_f5z ia ja ka n H fun  (H' : AHeap) => K (.tuple #[]) H') : bodyL Try.prog E_f5z Try.f202 [.slice ia ja ka, .int .i64 n, .func (.func 174) #[] #[]] H K := by
 rw [f5z_vc]
 obtain ⟨lo, ra, i_data, bd_52, pr0, hk⟩ := h
 obtain rfl := i_data.len
 have up_m := i_data.up
 have lo_m := i_data.lo
 have e : (p_f5z ra n) = _ := rfl
 have e := e.trans (p_f5z_eq ra n)
 have g0 := KeepA.refl ia H
 refine f5z_L1 _ _ _ _ (fun (μ : Nat) (a : Int) (b : Int) (H_1 : AHeap) => ∃ (y1_1 : LN), OwnS fF H_1 lo ia ra.length ka y1_1 ∧ y1_1.length = (ra).length ∧ H.length ≤ H_1.length ∧ KeepA ia H H_1 ∧ 0 ≤ a ∧ b = a + 20 ∧ a ≤ n ∧ n - a ≤ (μ : Int) ∧ p_f5z ra n = p_f5z_l1 ra n (μ + 1) a b y1_1) (Int.toNat (n - (0 : Int))) _ _ H ?_ ?_
 ·exact ⟨_, i_data, ω20, ω2, g0, ω7, ω7, ω7, ω2, e⟩
 ·intro μ a b  H_1 hI
  obtain ⟨y1_1, r_1, y_2, n3, g_4, v5, v6, v7, hμ, e⟩ := hI
  rw [f5z_r1]
  have e := e.trans (p_f5z_l1_s ra n μ a b y1_1)
  have l8 := g_4.1
  refine Br.intro (fun c9 => ?_) (fun c9 => ?_)
  ·have e := e.trans (cond_t c9)
   have c_9' := of_decide_eq_true c9
   refine T_f1z_i ⟨_, _, r_1, ω0, ω4, ω4, ω4, (fun H_2 k11 o12 => ?_)⟩
   have z10 := slices_insertionSort_len y1_1 a b ω2
   have l13 := k11.1
   have g14 := g_4.transA k11
   have l15 := g14.1
   rw [show IntKind.wrap .i64 (b + 20) = (b + 20) from wrap64 ω2 ω2]
   refine f5z_n1 (μ - 1) ω17 ⟨_, o12, ω13, ω2, g14, ω1, ω1, ω1, ω17, ω12⟩
  ·have e := e.trans (cond_f c9)
   have c_9' := of_decide_eq_false c9
   rw [f5z_x1_0]
   refine T_f1z_i ⟨_, _, r_1, ω0, ω4, ω4, ω4, (fun H_3 k17 o18 => ?_)⟩
   have z16 := slices_insertionSort_len y1_1 a n ω2
   have l19 := k17.1
   have g20 := g_4.transA k17
   have l21 := g20.1
   refine f5z_L2 _ _ _ _ (fun (μ2 : Nat) (blockSize : Int) (H_4 : AHeap) => ∃ (a_7 : Int), ∃ (b_8 : Int), ∃ (y2_1 : LN), OwnS fF H_4 lo ia ra.length ka y2_1 ∧ y2_1.length = (ra).length ∧ H.length ≤ H_4.length ∧ KeepA ia H H_4 ∧ 20 ≤ blockSize ∧ blockSize ≤ 2147483648 ∧ n - blockSize ≤ (μ2 : Int) ∧ p_f5z ra n = p_f5z_l2 ra n a b y1_1 (fun (blockSize : Int) (a_7 : Int) (b_8 : Int) (y2_1 : LN) => y2_1) (μ2 + 1) blockSize a_7 b_8 y2_1) (Int.toNat (n - (20 : Int))) _ H_3 ?_ ?_
   ·exact ⟨_, _, _, o18, ω20, ω2, g20, ω7, ω7, ω2, e⟩
   ·intro μ2 blockSize  H_4 hI
    obtain ⟨a_7, b_8, y2_1, r_22, y23, n24, g25, v26, v27, hμ, e⟩ := hI
    rw [f5z_r2]
    have e := e.trans (p_f5z_l2_s ra n a b y1_1 (fun (blockSize : Int) (a_7 : Int) (b_8 : Int) (y2_1 : LN) => y2_1) μ2 blockSize a_7 b_8 y2_1)
    have l28 := g25.1
    refine Br.intro (fun c29 => ?_) (fun c29 => ?_)
    ·have e := e.trans (cond_t c29)
     have c_29' := of_decide_eq_true c29
     rw [show IntKind.wrap .i64 (2 * blockSize) = (2 * blockSize) from wrap64 ω2 ω2]
     refine f5z_L3 _ _ _ _ _ (fun (μ3 : Nat) (a_7' : Int) (b_8' : Int) (H_5 : AHeap) => ∃ (y3_1 : LN), OwnS fF H_5 lo ia ra.length ka y3_1 ∧ y3_1.length = (ra).length ∧ H.length ≤ H_5.length ∧ KeepA ia H H_5 ∧ 0 ≤ a_7' ∧ a_7' ≤ n ∧ b_8' = a_7' + 2 * blockSize ∧ n - a_7' ≤ (μ3 : Int) ∧ p_f5z ra n = p_f5z_l3 ra n a b y1_1 blockSize a_7 b_8 y2_1 (fun (a_7' : Int) (b_8' : Int) (y3_1 : LN) => (bif decide (((a_7' + blockSize) : Int) < n) then (p_f5z_l2 ra n a b y1_1 (fun (blockSize : Int) (a_7 : Int) (b_8 : Int) (y2_1 : LN) => y2_1) μ2 (blockSize * 2) a_7' b_8' ((rsymM ((n - a_7').toNat) y3_1 a_7' (a_7' + blockSize) n))) else (p_f5z_l2 ra n a b y1_1 (fun (blockSize : Int) (a_7 : Int) (b_8 : Int) (y2_1 : LN) => y2_1) μ2 (blockSize * 2) a_7' b_8' y3_1))) (μ3 + 1) a_7' b_8' y3_1) (Int.toNat (n - (0 : Int))) _ _ H_4 ?_ ?_
     ·exact ⟨_, r_22, ω20, ω2, g25, ω7, ω7, ω7, ω2, e⟩
     ·intro μ3 a_7' b_8'  H_5 hI
      obtain ⟨y3_1, r_30, y31, n32, g33, v34, v35, v36, hμ, e⟩ := hI
      rw [f5z_r3]
      have e := e.trans (p_f5z_l3_s ra n a b y1_1 blockSize a_7 b_8 y2_1 (fun (a_7' : Int) (b_8' : Int) (y3_1 : LN) => (bif decide (((a_7' + blockSize) : Int) < n) then (p_f5z_l2 ra n a b y1_1 (fun (blockSize : Int) (a_7 : Int) (b_8 : Int) (y2_1 : LN) => y2_1) μ2 (blockSize * 2) a_7' b_8' ((rsymM ((n - a_7').toNat) y3_1 a_7' (a_7' + blockSize) n))) else (p_f5z_l2 ra n a b y1_1 (fun (blockSize : Int) (a_7 : Int) (b_8 : Int) (y2_1 : LN) => y2_1) μ2 (blockSize * 2) a_7' b_8' y3_1))) μ3 a_7' b_8' y3_1)
      have l37 := g33.1
      refine Br.intro (fun c38 => ?_) (fun c38 => ?_)
      ·have e := e.trans (cond_t c38)
       have c_38' := of_decide_eq_true c38
       rw [show IntKind.wrap .i64 (a_7' + blockSize) = (a_7' + blockSize) from wrap64 ω2 ω2]
       refine T_f3z_i ⟨_, _, r_30, ω0, ω4, ω4, ω4, ω4, ω4, (fun H_6 k40 o41 => ?_)⟩
       have z39 := rsymM_len ((b_8' - a_7').toNat) y3_1 a_7' (a_7' + blockSize) b_8'
       have l42 := k40.1
       have g43 := g33.transA k40
       have l44 := g43.1
       rw [show IntKind.wrap .i64 (2 * blockSize) = (2 * blockSize) from wrap64 ω2 ω2]
       rw [show IntKind.wrap .i64 (b_8' + (2 * blockSize)) = (b_8' + (2 * blockSize)) from wrap64 ω2 ω2]
       refine f5z_n3 (μ3 - 1) ω17 ⟨_, o41, ω13, ω2, g43, ω1, ω1, ω1, ω17, (by rw [show μ3 - 1 + 1 = μ3 from by first | omega]; exact e)⟩
      ·have e := e.trans (cond_f c38)
       have c_38' := of_decide_eq_false c38
       rw [f5z_x3_4]
       rw [show IntKind.wrap .i64 (a_7' + blockSize) = (a_7' + blockSize) from wrap64 ω2 ω2]
       refine Br.intro (fun c45 => ?_) (fun c45 => ?_)
       ·have e := e.trans (cond_t c45)
        have c_45' := of_decide_eq_true c45
        refine T_f3z_i ⟨_, _, r_30, ω0, ω4, ω4, ω4, ω4, ω4, (fun H_7 k47 o48 => ?_)⟩
        have z46 := rsymM_len ((n - a_7').toNat) y3_1 a_7' (a_7' + blockSize) n
        have l49 := k47.1
        have g50 := g33.transA k47
        have l51 := g50.1
        rw [show IntKind.wrap .i64 (blockSize * 2) = (blockSize * 2) from wrap64 ω2 ω2]
        refine f5z_n2 (μ2 - 1) ω17 ⟨_, _, _, o48, ω13, ω2, g50, ω1, ω1, ω17, ω22⟩
       ·have e := e.trans (cond_f c45)
        have c_45' := of_decide_eq_false c45
        rw [show IntKind.wrap .i64 (blockSize * 2) = (blockSize * 2) from wrap64 ω2 ω2]
        refine f5z_n2 (μ2 - 1) ω17 ⟨_, _, _, r_30, ω13, ω2, g33, ω1, ω1, ω17, ω22⟩
    ·have e := e.trans (cond_f c29)
     have c_29' := of_decide_eq_false c29
     rw [f5z_x2_2]
     rw [e] at hk
     exact hk H_4 g25 r_22
theorem f5z_ok : FnOk Try.prog 202 S_f5z := by
 refine FnOk.body mix_ok E_f5z_ok Try.func202 rfl ω15 ω15 ?_ ?_ ?_ ?_ ?_
 ·intro args H K K' h hk
  simp only [S_f5z] at *
  unfold F_f5z at *
  split at hk
  ·obtain ⟨lo, ra, i_data, bd_52, pr0, k⟩ := hk
   exact ⟨lo, ra, i_data, bd_52, pr0, (fun H' gg ow => h _ _ (k H' gg ow))⟩
  ·exact hk.elim
 ·intro hq; cases hq
 ·intro args H K hk
  simp only [S_f5z] at *
  unfold F_f5z at *
  split at hk
  ·obtain ⟨lo, ra, i_data, bd_52, pr0, k⟩ := hk
   exact (i_data.put _ (by exact slices_stable_len _ _ (by assumption))).elim fun H1 h => ⟨_, _, k H1 h.1 h.2⟩
  ·exact hk.elim
 ·intro hq; cases hq
 ·have mm := @f5z_main
  have ml := fun (args : List Value) (H : AHeap) (K : Value → AHeap → Prop) => bodyL_body (P := Try.prog) (env := E_f5z ) (fn := Try.f202) (args := args) (H := H) (K := K) E_f5z_ok 
  revert mm ml
  generalize bodyK Try.prog E_f5z Try.f202 = Q
  generalize bodyL Try.prog E_f5z Try.f202 = QL
  intro mm ml args H K hk
  simp only [S_f5z] at *
  unfold F_f5z at *
  split at hk
  ·exact ml _ H K (mm _ _ _ _ H K hk)
  ·exact hk.elim

def p_f0z (l_x : LN) : LN := (p_f5z l_x (l_x.length : Int))
def p_f0z_eq := @p_f0z.eq_1
def T_f0z (x_a : OA) (x_n : Nat) (x_e : Nat) (H : AHeap) (K : AHeap → Prop) : Prop := ∃ lo : Nat, ∃ (l_x : LN), OwnS fF H lo x_a x_n x_e l_x ∧ l_x.length < 1073741824 ∧ ((∀ H' : AHeap, KeepA x_a H H' → OwnS fF H' lo x_a x_n x_e (p_f0z l_x) → K  H'))
theorem T_f0z_i {x_a : OA} {x_n : Nat} {x_e : Nat} {H : AHeap} {K : AHeap → Prop} (h : ∃ lo : Nat, ∃ (l_x : LN), OwnS fF H lo x_a x_n x_e l_x ∧ l_x.length < 1073741824 ∧ ((∀ H' : AHeap, KeepA x_a H H' → OwnS fF H' lo x_a x_n x_e (p_f0z l_x) → K  H'))) : T_f0z x_a x_n x_e H K := h
theorem slices_SortStable_len (l : LN) : (p_f0z l).length = l.length := by
 rw [p_f0z_eq]; exact slices_stable_len _ _ rfl
theorem slices_SortStable_ss (l : LN) : So.SS kappa l (p_f0z l) := by
 rw [p_f0z_eq]; exact slices_stable_ss _ _ rfl
/-! f0z: function 173 -/
def E_f0z : Env := envOf [(202, S_f5z)]
def F_f0z : List Value → AHeap → (Value → AHeap → Prop) → Prop
 | [.slice x_a x_n x_e, .func (.func 174) ⟨[]⟩ ⟨[]⟩], H, K => T_f0z x_a x_n x_e H fun  (H' : AHeap) => K (.tuple #[]) H'
 | _, _, _ => False
def S_f0z : FSpec := { F := F_f0z, quiet := false, tame := false }
theorem f0z_vc (x_a : OA) (x_n : Nat) (x_e : Nat) (H : AHeap) (K : Value → AHeap → Prop) : bodyL Try.prog E_f0z Try.f173 [.slice x_a x_n x_e, .func (.func 174) #[] #[]] H K =
 (T_f5z x_a x_n x_e (x_n : Int) H fun  (H1 : AHeap) => K (.tuple #[]) H1) := by kernel_rfl
theorem E_f0z_ok : ∀ g, FnOk Try.prog g (E_f0z g) := FnOk.envOf (by
 intro x hx
 simp only [List.mem_cons, List.not_mem_nil, or_false] at hx
 subst hx; exact f5z_ok)
theorem f0z_main (x_a : OA) (x_n : Nat) (x_e : Nat) (H : AHeap) (K : Value → AHeap → Prop) (h : T_f0z x_a x_n x_e H fun  (H' : AHeap) => K (.tuple #[]) H') : bodyL Try.prog E_f0z Try.f173 [.slice x_a x_n x_e, .func (.func 174) #[] #[]] H K := by
 rw [f0z_vc]
 obtain ⟨lo, l_x, i_x, bd_7, hk⟩ := h
 obtain rfl := i_x.len
 have up_m := i_x.up
 have lo_m := i_x.lo
 have e : (p_f0z l_x) = _ := rfl
 have e := e.trans (p_f0z_eq l_x)
 have g0 := KeepA.refl x_a H
 refine T_f5z_i ⟨_, _, i_x, ω0, ω4, (fun H_1 k_2 o_3 => ?_)⟩
 have z_1 := slices_stable_len l_x (l_x.length : Int) ω2
 have l4 := k_2.1
 have g_5 := g0.transA k_2
 have l6 := g_5.1
 rw [e] at hk
 exact hk H_1 g_5 o_3
theorem f0z_ok : FnOk Try.prog 173 S_f0z := by
 refine FnOk.body mix_ok E_f0z_ok Try.func173 rfl ω15 ω15 ?_ ?_ ?_ ?_ ?_
 ·intro args H K K' h hk
  simp only [S_f0z] at *
  unfold F_f0z at *
  split at hk
  ·obtain ⟨lo, l_x, i_x, bd_7, k⟩ := hk
   exact ⟨lo, l_x, i_x, bd_7, (fun H' gg ow => h _ _ (k H' gg ow))⟩
  ·exact hk.elim
 ·intro hq; cases hq
 ·intro args H K hk
  simp only [S_f0z] at *
  unfold F_f0z at *
  split at hk
  ·obtain ⟨lo, l_x, i_x, bd_7, k⟩ := hk
   exact (i_x.put _ (by exact slices_SortStable_len _)).elim fun H1 h => ⟨_, _, k H1 h.1 h.2⟩
  ·exact hk.elim
 ·intro hq; cases hq
 ·have mm := @f0z_main
  have ml := fun (args : List Value) (H : AHeap) (K : Value → AHeap → Prop) => bodyL_body (P := Try.prog) (env := E_f0z ) (fn := Try.f173) (args := args) (H := H) (K := K) E_f0z_ok 
  revert mm ml
  generalize bodyK Try.prog E_f0z Try.f173 = Q
  generalize bodyL Try.prog E_f0z Try.f173 = QL
  intro mm ml args H K hk
  simp only [S_f0z] at *
  unfold F_f0z at *
  split at hk
  ·exact ml _ H K (mm _ _ _ H K hk)
  ·exact hk.elim

def p_f1vz (aa : LN) : Nat := (((p_f0z (p_f1rz aa))).getD ((Int.tdiv ((((((p_f1rz aa)).length : Int)) - 1)) 2) : Int).toNat 0)
def p_f1vz_eq := @p_f1vz.eq_1
def T_f1vz (ea : OA) (da : Nat) (ga : Nat) (H : AHeap) (K : Nat → AHeap → Prop) : Prop := ∃ (aa : LN), IsL fF H ea da aa ∧ aa.length < 1073741824 ∧ 0 < aa.length ∧ ((∀ H' : AHeap, Grow H H' → K (p_f1vz aa) H'))
theorem T_f1vz_i {ea : OA} {da : Nat} {ga : Nat} {H : AHeap} {K : Nat → AHeap → Prop} (h : ∃ (aa : LN), IsL fF H ea da aa ∧ aa.length < 1073741824 ∧ 0 < aa.length ∧ ((∀ H' : AHeap, Grow H H' → K (p_f1vz aa) H'))) : T_f1vz ea da ga H K := h

/-! f1vz: function 118 -/
def E_f1vz : Env := envOf [(122, S_f1rz), (173, S_f0z)]
def F_f1vz : List Value → AHeap → (Value → AHeap → Prop) → Prop
 | [.slice ea da ga], H, K => T_f1vz ea da ga H fun (r1 : Nat) (H' : AHeap) => K (.float .f32 r1) H'
 | _, _, _ => False
def S_f1vz : FSpec := { F := F_f1vz, quiet := false, tame := true }
theorem f1vz_vc (ea : OA) (da : Nat) (ga : Nat) (H : AHeap) (K : Value → AHeap → Prop) : bodyL Try.prog E_f1vz Try.f118 [.slice ea da ga] H K =
 (T_f1rz ea da ga H fun (a1 : OA) (r1 : Nat) (r2 : Nat) (H1 : AHeap) => T_f0z a1 r1 r2 H1 fun  (H2 : AHeap) => 2 ≠ (0 : Int) ∧ (0 : Int) ≤ IntKind.wrap .i64 (Int.tdiv (IntKind.wrap .i64 ((r1 : Int) - 1)) 2) ∧ IntKind.wrap .i64 (Int.tdiv (IntKind.wrap .i64 ((r1 : Int) - 1)) 2) < (r1 : Int) ∧ ∃ b1 f1, (a1 : OA) = some ⟨b1, f1, none⟩ ∧ ∃ x1 : Nat,  rdC H2 b1 (f1 + (IntKind.wrap .i64 (Int.tdiv (IntKind.wrap .i64 ((r1 : Int) - 1)) 2) : Int).toNat * 1) = some (.float .f32 x1) ∧ K (.float .f32 x1) H2) := by kernel_rfl
theorem E_f1vz_ok : ∀ g, FnOk Try.prog g (E_f1vz g) := FnOk.envOf (by
 intro x hx
 simp only [List.mem_cons, List.not_mem_nil, or_false] at hx
 rcases hx with rfl | rfl
 ·exact f1rz_ok
 ·exact f0z_ok)
theorem f1vz_main (ea : OA) (da : Nat) (ga : Nat) (H : AHeap) (K : Value → AHeap → Prop) (h : T_f1vz ea da ga H fun (r1 : Nat) (H' : AHeap) => K (.float .f32 r1) H') : bodyL Try.prog E_f1vz Try.f118 [.slice ea da ga] H K := by
 rw [f1vz_vc]
 obtain ⟨aa, i_list, bd_23, pr0, hk⟩ := h
 obtain rfl := i_list.eqn
 have e : (p_f1vz aa) = _ := rfl
 have e := e.trans (p_f1vz_eq aa)
 have g0 := Grow.refl H
 refine T_f1rz_i ⟨_, (i_list.grow g0), ω0, fun a_1 n_2 e_3 H_1 g_6 r_4 => ?_⟩
 have z5 := f1rz_len aa
 have l7 := g_6.1
 have g8 := g0.trans g_6
 have l9 := g8.1
 obtain rfl := r_4.isL.eqn
 have u10 := r_4.up
 have u11 := r_4.lo
 refine T_f0z_i ⟨_, _, r_4, ω0, (fun H_2 k14 o15 => ?_)⟩
 have z13 := slices_SortStable_len (p_f1rz aa)
 have l16 := k14.1
 have g17 := g8.keepA (fun x hx => by have := u11 x hx; omega) k14
 have l18 := g17.1
 rw [show IntKind.wrap .i64 (((((p_f1rz aa)).length : Int)) - 1) = (((((p_f1rz aa)).length : Int)) - 1) from wrap64 ω2 ω2]
 have z19 := tdiv_nn ((((((p_f1rz aa)).length : Int)) - 1)) 2
 refine ⟨ω25, ?_⟩
 rw [show IntKind.wrap .i64 (Int.tdiv ((((((p_f1rz aa)).length : Int)) - 1)) 2) = (Int.tdiv ((((((p_f1rz aa)).length : Int)) - 1)) 2) from wrap64 ω2 ω2]
 obtain ⟨b20, f21, q22⟩ := (o15.isL).pos ω0
 refine ⟨by omega, by omega, b20, f21, q22, ?_⟩
 refine ⟨(((p_f0z (p_f1rz aa))).getD ((Int.tdiv ((((((p_f1rz aa)).length : Int)) - 1)) 2) : Int).toNat 0), (o15.isL).rd (Grow.refl _) q22 ω2 _, ?_⟩
 rw [e] at hk
 exact hk  H_2 g17 
theorem f1vz_ok : FnOk Try.prog 118 S_f1vz := by
 refine FnOk.body mix_ok E_f1vz_ok Try.func118 rfl ω15 ω15 ?_ ?_ ?_ ?_ ?_
 ·intro args H K K' h hk
  simp only [S_f1vz] at *
  unfold F_f1vz at *
  split at hk
  ·obtain ⟨aa, i_list, bd_23, pr0, k⟩ := hk
   exact ⟨aa, i_list, bd_23, pr0, (fun  H' gg  => h _ _ (k  H' gg ))⟩
  ·exact hk.elim
 ·intro hq; cases hq
 ·intro args H K hk
  simp only [S_f1vz] at *
  unfold F_f1vz at *
  split at hk
  ·obtain ⟨aa, i_list, bd_23, pr0, k⟩ := hk
   exact ⟨_, _, k H (Grow.refl H)⟩
  ·exact hk.elim
 ·intro _ args H K hk
  simp only [S_f1vz] at *
  unfold F_f1vz at *
  split at hk
  ·obtain ⟨aa, i_list, bd_23, pr0, k⟩ := hk
   exact ⟨aa, i_list, bd_23, pr0, (fun  H' gg  => ⟨gg, k  H' gg ⟩)⟩
  ·exact hk.elim
 ·have mm := @f1vz_main
  have ml := fun (args : List Value) (H : AHeap) (K : Value → AHeap → Prop) => bodyL_body (P := Try.prog) (env := E_f1vz ) (fn := Try.f118) (args := args) (H := H) (K := K) E_f1vz_ok 
  revert mm ml
  generalize bodyK Try.prog E_f1vz Try.f118 = Q
  generalize bodyL Try.prog E_f1vz Try.f118 = QL
  intro mm ml args H K hk
  simp only [S_f1vz] at *
  unfold F_f1vz at *
  split at hk
  ·exact ml _ H K (mm _ _ _ H K hk)
  ·exact hk.elim
def p_f1sz (x : Nat) : Nat × Bool := (bif !(p_f16z x) then (0, false) else (x, true))
def T_f1sz (x : Nat) (H : AHeap) (K : Nat → Bool → AHeap → Prop) : Prop := K (p_f1sz x).1 (p_f1sz x).2 H

theorem T_f1sz_i {x : Nat} {H : AHeap} {K : Nat → Bool → AHeap → Prop} (h : K (p_f1sz x).1 (p_f1sz x).2 H) : T_f1sz x H K := h
/-! f1sz: function 117 -/
def E_f1sz : Env := envOf [(133, S_f16z)]
def F_f1sz : List Value → AHeap → (Value → AHeap → Prop) → Prop
 | [.float .f32 x], H, K => T_f1sz x H fun (r1 : Nat) (r2 : Bool) (H' : AHeap) => K (.tuple #[.float .f32 r1, .bool r2]) H'
 | _, _, _ => False
def S_f1sz : FSpec := { F := F_f1sz, quiet := true, tame := false }
theorem f1sz_vc (x : Nat) (H : AHeap) (K : Value → AHeap → Prop) : bodyL Try.prog E_f1sz Try.f117 [.float .f32 x] H K =
 (T_f16z x H fun (r1 : Bool) (H1 : AHeap) => Br (!r1) (K (.tuple #[.float .f32 0, .bool false]) H1) (K (.tuple #[.float .f32 x, .bool true]) H1)) := by kernel_rfl
theorem E_f1sz_ok : ∀ g, FnOk Try.prog g (E_f1sz g) := FnOk.envOf (by
 intro x hx
 simp only [List.mem_cons, List.not_mem_nil, or_false] at hx
 subst hx; exact f16z_ok)
theorem f1sz_main (x : Nat) (H : AHeap) (K : Value → AHeap → Prop) (h : T_f1sz x H fun (r1 : Nat) (r2 : Bool) (H' : AHeap) => K (.tuple #[.float .f32 r1, .bool r2]) H') : bodyL Try.prog E_f1sz Try.f117 [.float .f32 x] H K := by
 rw [f1sz_vc]
 simp only [T_f16z]
 unfold T_f1sz p_f1sz at h
 repeat' (first | exact h | (exfalso; simp_all; done) | (refine ⟨by decide, ?_⟩) | (refine Br.intro (fun hb => ?_) (fun hb => ?_) <;> (try simp only [hb, cond_true, cond_false, Bool.not_true, Bool.not_false] at h)))
theorem f1sz_ok : FnOk Try.prog 117 S_f1sz := by
 refine FnOk.body mix_ok E_f1sz_ok Try.func117 rfl ω15 ω15 ?_ ?_ ?_ ?_ ?_
 ·intro args H K K' h hk
  simp only [S_f1sz] at *
  unfold F_f1sz at *
  split at hk
  ·have k := hk
   exact h _ _ k
  ·exact hk.elim
 ·intro _ args H K hk
  simp only [S_f1sz] at *
  unfold F_f1sz at *
  split at hk
  ·have k := hk
   exact ⟨_, k, fun K' k' => k'⟩
  ·exact hk.elim
 ·intro args H K hk
  simp only [S_f1sz] at *
  unfold F_f1sz at *
  split at hk
  ·have k := hk
   exact ⟨_, _, k⟩
  ·exact hk.elim
 ·intro hq; cases hq
 ·have mm := @f1sz_main
  have ml := fun (args : List Value) (H : AHeap) (K : Value → AHeap → Prop) => bodyL_body (P := Try.prog) (env := E_f1sz ) (fn := Try.f117) (args := args) (H := H) (K := K) E_f1sz_ok 
  revert mm ml
  generalize bodyK Try.prog E_f1sz Try.f117 = Q
  generalize bodyL Try.prog E_f1sz Try.f117 = QL
  intro mm ml args H K hk
  simp only [S_f1sz] at *
  unfold F_f1sz at *
  split at hk
  ·exact ml _ H K (mm _ H K hk)
  ·exact hk.elim

def p_f1ez (fa : LN) (ca : List LN) : Nat × Bool := (bif !(p_fhz fa ca) then (0, false) else ((p_f1sz (fdiv .f32 ((p_f1vz ((p_f23z (((ca).getD (0 : Int).toNat [])))))) 1059892232)).1, (p_f1sz (fdiv .f32 ((p_f1vz ((p_f23z (((ca).getD (0 : Int).toNat [])))))) 1059892232)).2))
def p_f1ez_eq := @p_f1ez.eq_1
def T_f1ez (ta : OA) (xa : Nat) (va : Nat) (qa : OA) (ua : Nat) (sa : Nat) (H : AHeap) (K : Nat → Bool → AHeap → Prop) : Prop := ∃ (fa : LN), ∃ (ca : List LN), IsL fF H ta xa fa ∧ IsLL fF H qa ua ca ∧ fa.length < 1073741824 ∧ ca.length < 1073741824 ∧ (∀ y ∈ ca, y.length < 1073741824) ∧ ((∀ H' : AHeap, Grow H H' → K ((p_f1ez fa ca).1) ((p_f1ez fa ca).2) H'))
theorem T_f1ez_i {ta : OA} {xa : Nat} {va : Nat} {qa : OA} {ua : Nat} {sa : Nat} {H : AHeap} {K : Nat → Bool → AHeap → Prop} (h : ∃ (fa : LN), ∃ (ca : List LN), IsL fF H ta xa fa ∧ IsLL fF H qa ua ca ∧ fa.length < 1073741824 ∧ ca.length < 1073741824 ∧ (∀ y ∈ ca, y.length < 1073741824) ∧ ((∀ H' : AHeap, Grow H H' → K ((p_f1ez fa ca).1) ((p_f1ez fa ca).2) H'))) : T_f1ez ta xa va qa ua sa H K := h

/-! f1ez: function 30 -/
def E_f1ez : Env := envOf [(116, S_fhz), (119, S_f23z), (118, S_f1vz), (117, S_f1sz)]
def F_f1ez : List Value → AHeap → (Value → AHeap → Prop) → Prop
 | [.agg ⟨[.slice ta xa va, .slice qa ua sa]⟩], H, K => T_f1ez ta xa va qa ua sa H fun (r1 : Nat) (r2 : Bool) (H' : AHeap) => K (.tuple #[.float .f32 r1, .bool r2]) H'
 | _, _, _ => False
def S_f1ez : FSpec := { F := F_f1ez, quiet := false, tame := true }
theorem f1ez_vc (ta : OA) (xa : Nat) (va : Nat) (qa : OA) (ua : Nat) (sa : Nat) (H : AHeap) (K : Value → AHeap → Prop) : bodyL Try.prog E_f1ez Try.f30 [.agg #[.slice ta xa va, .slice qa ua sa]] H K =
 (Al [.slice ta xa va, .slice qa ua sa] H fun b1 H1 => ∃ xe : OA, ∃ ze : Nat, ∃ ye : Nat, ∃ af : OA, ∃ cf : Nat, ∃ bf : Nat,  rdN H1 b1 0 2 = some [.slice xe ze ye, .slice af cf bf] ∧ T_fhz xe ze ye af cf bf H1 fun (r1 : Bool) (H2 : AHeap) => Br (!r1) (K (.tuple #[.float .f32 0, .bool false]) H2) (∃ sc : OA, ∃ bb : Nat, ∃ tc : Nat,  rdC H2 b1 1 = some (.slice sc bb tc) ∧ (0 : Int) ≤ 0 ∧ 0 < (bb : Int) ∧ ∃ b2 f1, (sc : OA) = some ⟨b2, f1, none⟩ ∧ ∃ oe : OA, ∃ je : Nat, ∃ te : Nat,  rdC H2 b2 (f1 + (0 : Int).toNat * 1) = some (.slice oe je te) ∧ T_f23z oe je te H2 fun (a1 : OA) (r2 : Nat) (r3 : Nat) (H3 : AHeap) => T_f1vz a1 r2 r3 H3 fun (r4 : Nat) (H4 : AHeap) => T_f1sz (fdiv .f32 r4 1059892232) H4 fun (r5 : Nat) (r6 : Bool) (H5 : AHeap) => K (.tuple #[.float .f32 r5, .bool r6]) H5)) := by kernel_rfl
theorem E_f1ez_ok : ∀ g, FnOk Try.prog g (E_f1ez g) := FnOk.envOf (by
 intro x hx
 simp only [List.mem_cons, List.not_mem_nil, or_false] at hx
 rcases hx with rfl | rfl | rfl | rfl
 ·exact fhz_ok
 ·exact f23z_ok
 ·exact f1vz_ok
 ·exact f1sz_ok)
theorem f1ez_main (ta : OA) (xa : Nat) (va : Nat) (qa : OA) (ua : Nat) (sa : Nat) (H : AHeap) (K : Value → AHeap → Prop) (h : T_f1ez ta xa va qa ua sa H fun (r1 : Nat) (r2 : Bool) (H' : AHeap) => K (.tuple #[.float .f32 r1, .bool r2]) H') : bodyL Try.prog E_f1ez Try.f30 [.agg #[.slice ta xa va, .slice qa ua sa]] H K := by
 rw [f1ez_vc]
 obtain ⟨fa, ca, i_b_Coarse, i_b_Details, bd_48, bd_49, bb_l_b_Details, hk⟩ := h
 obtain rfl := i_b_Coarse.eqn
 obtain rfl := i_b_Details.eqn
 have e : (p_f1ez fa ca) = _ := rfl
 have e := e.trans (p_f1ez_eq fa ca)
 have g0 := Grow.refl H
 refine Al.intro (fun b_1 H_1 hb_2 hl_3 g_4 o_5 => ?_)
 have l7 := g_4.1
 have g8 := g0.trans g_4
 have l9 := g8.1
 have w47 := o_5.lt
 refine ⟨ta, fa.length, va, qa, ca.length, sa, (o_5.rdN (Nat.le_of_ble_eq_true rfl)).trans rfl, ?_⟩
 refine T_fhz_i ⟨_, ca, (i_b_Coarse.grow g8), (i_b_Details.grow g8), ω0, ω0, ω6, fun  H_2 g10  => ?_⟩
 have l11 := g10.1
 have g12 := g8.trans g10
 have l13 := g12.1
 have o14 := o_5.grow g10
 have w15 := o14.lt
 refine Br.intro (fun c16 => ?_) (fun c16 => ?_)
 ·have e := e.trans (cond_t c16)
  have c_16n := nf_of_t c16
  rw [e] at hk
  exact hk  H_2 g12 
 ·have e := e.trans (cond_f c16)
  have c_16n := nt_of_f c16
  have c_16n' := fhz_t c_16n
  refine ⟨qa, ca.length, sa, (o14.rdC _).trans rfl, ?_⟩
  obtain ⟨b_17, f18, q19⟩ := ((i_b_Details.grow g12)).pos ω0
  refine ⟨by omega, by omega, b_17, f18, q19, ?_⟩
  obtain ⟨a20, n21, e22, r_23, i24⟩ := (i_b_Details).rd (i := (0 : Int).toNat) g12 q19 ω2
  obtain rfl := i24.eqn
  refine ⟨a20, _, e22, r_23, ?_⟩
  have z25 := getD_len bb_l_b_Details (0 : Int).toNat
  refine T_f23z_i ⟨_, (i24.grow g12), ω0, fun a26 n27 e28 H_3 g31 r_29 => ?_⟩
  have z30 := f23z_len (((ca).getD (0 : Int).toNat []))
  have l_32 := g31.1
  have g33 := g12.trans g31
  have l34 := g33.1
  have o35 := o14.grow g31
  have w36 := o35.lt
  obtain rfl := r_29.isL.eqn
  have u37 := r_29.up
  have u38 := r_29.lo
  refine T_f1vz_i ⟨_, r_29.isL, ω0, ω4, fun  H_4 g40  => ?_⟩
  have l41 := g40.1
  have g42 := g33.trans g40
  have l43 := g42.1
  have o44 := o35.grow g40
  have w45 := o44.lt
  have r46 := r_29.grow g40
  refine T_f1sz_i ?_
  rw [e] at hk
  exact hk  H_4 g42 
theorem f1ez_ok : FnOk Try.prog 30 S_f1ez := by
 refine FnOk.body mix_ok E_f1ez_ok Try.func30 rfl ω15 ω15 ?_ ?_ ?_ ?_ ?_
 ·intro args H K K' h hk
  simp only [S_f1ez] at *
  unfold F_f1ez at *
  split at hk
  ·obtain ⟨fa, ca, i_b_Coarse, i_b_Details, bd_48, bd_49, bb_l_b_Details, k⟩ := hk
   exact ⟨fa, ca, i_b_Coarse, i_b_Details, bd_48, bd_49, bb_l_b_Details, (fun  H' gg  => h _ _ (k  H' gg ))⟩
  ·exact hk.elim
 ·intro hq; cases hq
 ·intro args H K hk
  simp only [S_f1ez] at *
  unfold F_f1ez at *
  split at hk
  ·obtain ⟨fa, ca, i_b_Coarse, i_b_Details, bd_48, bd_49, bb_l_b_Details, k⟩ := hk
   exact ⟨_, _, k H (Grow.refl H)⟩
  ·exact hk.elim
 ·intro _ args H K hk
  simp only [S_f1ez] at *
  unfold F_f1ez at *
  split at hk
  ·obtain ⟨fa, ca, i_b_Coarse, i_b_Details, bd_48, bd_49, bb_l_b_Details, k⟩ := hk
   exact ⟨fa, ca, i_b_Coarse, i_b_Details, bd_48, bd_49, bb_l_b_Details, (fun  H' gg  => ⟨gg, k  H' gg ⟩)⟩
  ·exact hk.elim
 ·have mm := @f1ez_main
  have ml := fun (args : List Value) (H : AHeap) (K : Value → AHeap → Prop) => bodyL_body (P := Try.prog) (env := E_f1ez ) (fn := Try.f30) (args := args) (H := H) (K := K) E_f1ez_ok 
  revert mm ml
  generalize bodyK Try.prog E_f1ez Try.f30 = Q
  generalize bodyL Try.prog E_f1ez Try.f30 = QL
  intro mm ml args H K hk
  simp only [S_f1ez] at *
  unfold F_f1ez at *
  split at hk
  ·exact ml _ H K (mm _ _ _ _ _ _ H K hk)
  ·exact hk.elim
def p_f1fz (x : Nat) : Bool := (bif (p_f16z x) then fle .f32 0 x else false)
def T_f1fz (x : Nat) (H : AHeap) (K : Bool → AHeap → Prop) : Prop := K (p_f1fz x) H

theorem T_f1fz_i {x : Nat} {H : AHeap} {K : Bool → AHeap → Prop} (h : K (p_f1fz x) H) : T_f1fz x H K := h
/-! f1fz: function 106 -/
def E_f1fz : Env := envOf [(133, S_f16z)]
def F_f1fz : List Value → AHeap → (Value → AHeap → Prop) → Prop
 | [.float .f32 x], H, K => T_f1fz x H fun (r1 : Bool) (H' : AHeap) => K (.bool r1) H'
 | _, _, _ => False
def S_f1fz : FSpec := { F := F_f1fz, quiet := true, tame := false }
theorem f1fz_vc (x : Nat) (H : AHeap) (K : Value → AHeap → Prop) : bodyL Try.prog E_f1fz Try.f106 [.float .f32 x] H K =
 (T_f16z x H fun (r1 : Bool) (H1 : AHeap) => Br r1 (K (.bool (fle .f32 0 x)) H1) (K (.bool false) H1)) := by kernel_rfl
theorem E_f1fz_ok : ∀ g, FnOk Try.prog g (E_f1fz g) := FnOk.envOf (by
 intro x hx
 simp only [List.mem_cons, List.not_mem_nil, or_false] at hx
 subst hx; exact f16z_ok)
theorem f1fz_main (x : Nat) (H : AHeap) (K : Value → AHeap → Prop) (h : T_f1fz x H fun (r1 : Bool) (H' : AHeap) => K (.bool r1) H') : bodyL Try.prog E_f1fz Try.f106 [.float .f32 x] H K := by
 rw [f1fz_vc]
 simp only [T_f16z]
 unfold T_f1fz p_f1fz at h
 repeat' (first | exact h | (exfalso; simp_all; done) | (refine ⟨by decide, ?_⟩) | (refine Br.intro (fun hb => ?_) (fun hb => ?_) <;> (try simp only [hb, cond_true, cond_false, Bool.not_true, Bool.not_false] at h)))
theorem f1fz_ok : FnOk Try.prog 106 S_f1fz := by
 refine FnOk.body mix_ok E_f1fz_ok Try.func106 rfl ω15 ω15 ?_ ?_ ?_ ?_ ?_
 ·intro args H K K' h hk
  simp only [S_f1fz] at *
  unfold F_f1fz at *
  split at hk
  ·have k := hk
   exact h _ _ k
  ·exact hk.elim
 ·intro _ args H K hk
  simp only [S_f1fz] at *
  unfold F_f1fz at *
  split at hk
  ·have k := hk
   exact ⟨_, k, fun K' k' => k'⟩
  ·exact hk.elim
 ·intro args H K hk
  simp only [S_f1fz] at *
  unfold F_f1fz at *
  split at hk
  ·have k := hk
   exact ⟨_, _, k⟩
  ·exact hk.elim
 ·intro hq; cases hq
 ·have mm := @f1fz_main
  have ml := fun (args : List Value) (H : AHeap) (K : Value → AHeap → Prop) => bodyL_body (P := Try.prog) (env := E_f1fz ) (fn := Try.f106) (args := args) (H := H) (K := K) E_f1fz_ok 
  revert mm ml
  generalize bodyK Try.prog E_f1fz Try.f106 = Q
  generalize bodyL Try.prog E_f1fz Try.f106 = QL
  intro mm ml args H K hk
  simp only [S_f1fz] at *
  unfold F_f1fz at *
  split at hk
  ·exact ml _ H K (mm _ H K hk)
  ·exact hk.elim

def p_fjz_l3 (x : Nat) (x0 : Nat) (ve : Nat) (x_0' : Nat) (ve_3 : Nat) (k3_4 : Nat → Nat → Nat) : Nat → Nat → Nat → Nat
 | 0, _, _ => 0
 | μ3 + 1, q, k => (bif fle .f64 4607182418800017408 k then (p_fjz_l3 x x0 ve x_0' ve_3 k3_4 μ3 (fadd .f64 (fdiv .f64 4607182418800017408 k) (fmul .f64 (fmul .f64 (fdiv .f64 (fsub .f64 x_0' 4607182418800017408) (fadd .f64 x_0' 4607182418800017408)) (fdiv .f64 (fsub .f64 x_0' 4607182418800017408) (fadd .f64 x_0' 4607182418800017408))) q)) (fsub .f64 k 4611686018427387904)) else (k3_4 q k))
def p_fjz_l3_s := fun x x0 ve x_0' ve_3 k3_4 μ3 q k => @p_fjz_l3.eq_2 x x0 ve x_0' ve_3 k3_4 q k μ3
def p_fjz_l2 (x : Nat) (x0 : Nat) (ve : Nat) (k2_2 : Nat → Nat → Nat) : Nat → Nat → Nat → Nat
 | 0, _, _ => 0
 | μ2 + 1, x_0', ve_3 => (bif flt .f64 x_0' 4604930618986332160 then (p_fjz_l2 x x0 ve k2_2 μ2 (fmul .f64 x_0' 4611686018427387904) (fsub .f64 ve_3 4607182418800017408)) else (k2_2 x_0' ve_3))
def p_fjz_l2_s := fun x x0 ve k2_2 μ2 x_0' ve_3 => @p_fjz_l2.eq_2 x x0 ve k2_2 x_0' ve_3 μ2
def p_fjz_l1 (x : Nat) : Nat → Nat → Nat → Nat
 | 0, _, _ => 0
 | μ + 1, x0, ve => (bif fle .f64 4609434218613702656 x0 then (p_fjz_l1 x μ (fdiv .f64 x0 4611686018427387904) (fadd .f64 ve 4607182418800017408)) else (p_fjz_l2 x x0 ve (fun (x_0' : Nat) (ve_3 : Nat) => (p_fjz_l3 x x0 ve x_0' ve_3 (fun (q : Nat) (k : Nat) => fadd .f64 (fmul .f64 4611686018427387904 (fmul .f64 (fdiv .f64 (fsub .f64 x_0' 4607182418800017408) (fadd .f64 x_0' 4607182418800017408)) q)) (fmul .f64 ve_3 4604418534313441775)) (Int.toNat (cnt 4627730092099895296) + 1) 0 4627730092099895296)) (Int.toNat ((4604930618986332160 : Int) - x0) + 1) x0 ve))
def p_fjz_l1_s := fun x μ x0 ve => @p_fjz_l1.eq_2 x x0 ve μ
def p_fjz (x : Nat) : Nat := (p_fjz_l1 x (Int.toNat ((x : Int)) + 1) x 0)
def p_fjz_eq := @p_fjz.eq_1
def T_fjz (x : Nat) (H : AHeap) (K : Nat → AHeap → Prop) : Prop := 4503599627370496 ≤ x ∧ x < 9218868437227405312 ∧ K (p_fjz x) H
theorem T_fjz_i {x : Nat} {H : AHeap} {K : Nat → AHeap → Prop} (h : 4503599627370496 ≤ x ∧ x < 9218868437227405312 ∧ K (p_fjz x) H) : T_fjz x H K := h
theorem impl_l3_nar {x x0 ve x' ve_3 : Nat} {K : Nat → Nat → Nat} (h0 : 4604930618986332160 ≤ x') (h1 : x' < 4609434218613702656) (hK : ∀ q k, Bd .f64 1160 q → fnarrow (K q k) ≠ none) :
  ∀ (μ : Nat) (n : Int) (A q : Nat), Bd .f64 A q → 1074 ≤ A → (A : Int) ≤ 1155 - 3 * n → n ≤ 25 → -1 ≤ n → fnarrow (p_fjz_l3 x x0 ve x' ve_3 K μ q (FloatKind.nearest .f64 n)) ≠ none := by
 intro μ
 induction μ with
 | zero => intro n A q _ _ _ _ _; exact (by decide +kernel : fnarrow 0 ≠ none)
 | succ μ ih =>
  intro n A q hq hA hA2 hn hn1
  rw [p_fjz_l3_s]
  have hc := cnt_at (n := n) ω2 ω2
  rw [hc.2.1]
  by_cases h : (1 : Int) ≤ n
  ·rw [decide_eq_true h, cond_true, hc.2.2.2]
   exact ih (n - 2) (A + 6) _ (log_step' (log_square h0 h1) h ω2 hq hA ω2) ω2 ω2 ω2 ω2
  ·rw [decide_eq_false h, cond_false]
   exact hK _ _ (hq.mono ω2)
theorem impl_l2_nar {x x0 ve : Nat} {K : Nat → Nat → Nat} (hK : ∀ x' (e : Int), 4604930618986332160 ≤ x' → x' < 4609434218613702656 → e.natAbs ≤ 4000 → fnarrow (K x' (FloatKind.nearest .f64 e)) ≠ none) :
  ∀ (μ : Nat) (x' : Nat) (e : Int), 4503599627370496 ≤ x' → x' < 4609434218613702656 → (4609434218613702656 : Int) - x' ≤ (e + 3000) * 4503599627370496 → e ≤ 2100 →
   fnarrow (p_fjz_l2 x x0 ve K μ x' (FloatKind.nearest .f64 e)) ≠ none := by
 intro μ
 induction μ with
 | zero => intro x' e _ _ _ _; exact (by decide +kernel : fnarrow 0 ≠ none)
 | succ μ ih =>
  intro x' e h0 h1 h2 h3
  rw [p_fjz_l2_s]
  cases hc : flt .f64 x' 4604930618986332160 with
  | true =>
   have := twice_step h0 ω2 hc
   rw [cond_true, near_down ω2, this.1]
   exact ih _ _ ω2 ω2 ω2 ω2
  | false =>
   rw [cond_false]
   rw [pos_lt h0 ω2 ω32 ω32] at hc
   have := of_decide_eq_false hc
   exact hK _ _ ω2 h1 ω2
theorem impl_l1_nar {x : Nat} :
  ∀ (μ : Nat) (x0 : Nat) (e : Int), 4503599627370496 ≤ x0 → x0 < 9218868437227405312 → e * 4503599627370496 + x0 ≤ 9218868437227405312 → 0 ≤ e →
   fnarrow (p_fjz_l1 x μ x0 (FloatKind.nearest .f64 e)) ≠ none := by
 intro μ
 induction μ with
 | zero => intro x0 e _ _ _ _; exact (by decide +kernel : fnarrow 0 ≠ none)
 | succ μ ih =>
  intro x0 e h0 h1 h2 h3
  rw [p_fjz_l1_s]
  cases hc : fle .f64 4609434218613702656 x0 with
  | true =>
   have := half_step h0 h1 hc
   rw [cond_true, near_up ω2, this.1]
   exact ih _ _ ω2 ω2 ω2 ω2
  | false =>
   rw [cond_false]
   rw [pos_le ω32 ω32 h0 h1] at hc
   have := of_decide_eq_false hc
   refine impl_l2_nar ?_ _ _ _ h0 ω2 ω2 ω2
   intro x' e' a0 a1 a2
   have e25 : (4627730092099895296 : Nat) = FloatKind.nearest .f64 25 := by decide +kernel
   rw [e25]
   refine impl_l3_nar a0 a1 ?_ _ 25 1074 0 (bd_zero _) ω32 ω32 ω32 ω32
   intro q k hq
   exact log_sum' (log_quot a0 a1) hq ω32 ω32 a2
theorem fjz_nar {x : Nat} (h : 4503599627370496 ≤ x ∧ x < 9218868437227405312) : fnarrow (p_fjz x) ≠ none := by
 rw [p_fjz_eq]
 have g := impl_l1_nar (x := x) (Int.toNat ((x : Int)) + 1) x 0 h.1 h.2 ω2 ω32
 rw [show FloatKind.nearest .f64 0 = 0 by decide +kernel] at g
 exact g
/-! fjz: function 188 -/
def E_fjz : Env := envOf []
def F_fjz : List Value → AHeap → (Value → AHeap → Prop) → Prop
 | [.float .f64 x], H, K => T_fjz x H fun (r1 : Nat) (H' : AHeap) => K (.float .f64 r1) H'
 | _, _, _ => False
def S_fjz : FSpec := { F := F_fjz, quiet := true, tame := false }
theorem fjz_vc (x : Nat) (H : AHeap) (K : Value → AHeap → Prop) : bodyL Try.prog E_fjz Try.f188 [.float .f64 x] H K =
 (loopK (exL Try.prog E_fjz (cl (cl (cl (cr (cr (bodyC Try.f188)))))) 9 4 [(0, 9)]) (.float .f64 x :: ud2 (.float .f64 0 :: ud41 [])) H (blockQ 0 (seqQ (exL Try.prog E_fjz (cr (cr (cr (bodyC Try.f188)))) 4 4 []) (retK Try.prog Try.f188 K)))) := by kernel_rfl
abbrev fjz_P1  (x0 : Nat) (ve : Nat)  : List Value := (.float .f64 x0 :: ud2 (.float .f64 ve :: ud41 []))
theorem fjz_r1  (x0 : Nat) (ve : Nat)  (H : AHeap) (R : Post) : exL Try.prog E_fjz (cl (cl (cl (cr (cr (bodyC Try.f188)))))) 9 4 [(0, 9)] (fjz_P1 x0 ve) H R =
 (Br (fle .f64 4609434218613702656 x0) (R .normal (.float .f64 (fdiv .f64 x0 4611686018427387904) :: ud2 (.float .f64 (fadd .f64 ve 4607182418800017408) :: ud41 [])) H) (R (.exit 0) (.float .f64 x0 :: ud2 (.float .f64 ve :: ud41 [])) H)) := by kernel_rfl
def fjz_I1  (Inv : Nat → Nat → Nat → AHeap → Prop) : Nat → List Value → AHeap → Prop := fun μ tm H => ∃ (x0 : Nat), ∃ (ve : Nat), tm = (fjz_P1 x0 ve) ∧ Inv μ x0 ve H
theorem fjz_L1  {Q : Post} (Inv : Nat → Nat → Nat → AHeap → Prop) (ν : Nat) (x0 : Nat) (ve : Nat)  (H : AHeap) (h0 : Inv ν x0 ve H)
  (hs : ∀ (μ : Nat) (x0 : Nat) (ve : Nat)  (H : AHeap), Inv μ x0 ve H → exL Try.prog E_fjz (cl (cl (cl (cr (cr (bodyC Try.f188)))))) 9 4 [(0, 9)] (fjz_P1 x0 ve) H (loopQ (fjz_I1  Inv) μ Q)) : loopK (exL Try.prog E_fjz (cl (cl (cl (cr (cr (bodyC Try.f188)))))) 9 4 [(0, 9)]) (fjz_P1 x0 ve) H Q :=
 ⟨fjz_I1  Inv, ν, ⟨x0, ve, rfl, h0⟩, fun μ tm H h => by obtain ⟨x0, ve, rfl, hI⟩ := h; exact hs μ x0 ve  H hI⟩
theorem fjz_n1  {Q : Post} {Inv : Nat → Nat → Nat → AHeap → Prop} {μ : Nat} (μ' : Nat) {x0 : Nat} {ve : Nat}  {H : AHeap} (hm : μ' < μ) (hI : Inv μ' x0 ve H) : loopQ (fjz_I1  Inv) μ Q .normal (fjz_P1 x0 ve) H := ⟨μ', hm, x0, ve, rfl, hI⟩
theorem fjz_x1_0 (x0 : Nat) (ve : Nat) (H : AHeap) (K : Value → AHeap → Prop)  {I : Nat → List Value → AHeap → Prop} {μ : Nat} : loopQ I μ (blockQ 0 (seqQ (exL Try.prog E_fjz (cr (cr (cr (bodyC Try.f188)))) 4 4 []) (retK Try.prog Try.f188 K))) (.exit 0) (.float .f64 x0 :: ud2 (.float .f64 ve :: ud41 [])) H =
 (loopK (exL Try.prog E_fjz (cl (cl (cl (cr (cr (cr (bodyC Try.f188))))))) 9 4 [(2, 9)]) (.float .f64 x0 :: ud2 (.float .f64 ve :: ud41 [])) H (blockQ 2 (seqQ (exL Try.prog E_fjz (cr (cr (cr (cr (bodyC Try.f188))))) 4 4 []) (retK Try.prog Try.f188 K)))) := by kernel_rfl
abbrev fjz_P2  (x_0' : Nat) (ve_3 : Nat)  : List Value := (.float .f64 x_0' :: ud2 (.float .f64 ve_3 :: ud41 []))
theorem fjz_r2  (x_0' : Nat) (ve_3 : Nat)  (H : AHeap) (R : Post) : exL Try.prog E_fjz (cl (cl (cl (cr (cr (cr (bodyC Try.f188))))))) 9 4 [(2, 9)] (fjz_P2 x_0' ve_3) H R =
 (Br (flt .f64 x_0' 4604930618986332160) (R .normal (.float .f64 (fmul .f64 x_0' 4611686018427387904) :: ud2 (.float .f64 (fsub .f64 ve_3 4607182418800017408) :: ud41 [])) H) (R (.exit 2) (.float .f64 x_0' :: ud2 (.float .f64 ve_3 :: ud41 [])) H)) := by kernel_rfl
def fjz_I2  (Inv : Nat → Nat → Nat → AHeap → Prop) : Nat → List Value → AHeap → Prop := fun μ tm H => ∃ (x_0' : Nat), ∃ (ve_3 : Nat), tm = (fjz_P2 x_0' ve_3) ∧ Inv μ x_0' ve_3 H
theorem fjz_L2  {Q : Post} (Inv : Nat → Nat → Nat → AHeap → Prop) (ν : Nat) (x_0' : Nat) (ve_3 : Nat)  (H : AHeap) (h0 : Inv ν x_0' ve_3 H)
  (hs : ∀ (μ : Nat) (x_0' : Nat) (ve_3 : Nat)  (H : AHeap), Inv μ x_0' ve_3 H → exL Try.prog E_fjz (cl (cl (cl (cr (cr (cr (bodyC Try.f188))))))) 9 4 [(2, 9)] (fjz_P2 x_0' ve_3) H (loopQ (fjz_I2  Inv) μ Q)) : loopK (exL Try.prog E_fjz (cl (cl (cl (cr (cr (cr (bodyC Try.f188))))))) 9 4 [(2, 9)]) (fjz_P2 x_0' ve_3) H Q :=
 ⟨fjz_I2  Inv, ν, ⟨x_0', ve_3, rfl, h0⟩, fun μ tm H h => by obtain ⟨x_0', ve_3, rfl, hI⟩ := h; exact hs μ x_0' ve_3  H hI⟩
theorem fjz_n2  {Q : Post} {Inv : Nat → Nat → Nat → AHeap → Prop} {μ : Nat} (μ' : Nat) {x_0' : Nat} {ve_3 : Nat}  {H : AHeap} (hm : μ' < μ) (hI : Inv μ' x_0' ve_3 H) : loopQ (fjz_I2  Inv) μ Q .normal (fjz_P2 x_0' ve_3) H := ⟨μ', hm, x_0', ve_3, rfl, hI⟩
theorem fjz_x2_2 (x_0' : Nat) (ve_3 : Nat) (H : AHeap) (K : Value → AHeap → Prop)  {I : Nat → List Value → AHeap → Prop} {μ : Nat} : loopQ I μ (blockQ 2 (seqQ (exL Try.prog E_fjz (cr (cr (cr (cr (bodyC Try.f188))))) 4 4 []) (retK Try.prog Try.f188 K))) (.exit 2) (.float .f64 x_0' :: ud2 (.float .f64 ve_3 :: ud41 [])) H =
 (loopK (exL Try.prog E_fjz (cl (cl (cr (cl (cr (cr (cr (cr (cr (cr (cr (bodyC Try.f188)))))))))))) 248 4 [(4, 88)]) (ud3 (.float .f64 ve_3 :: .float .f64 (fdiv .f64 (fsub .f64 x_0' 4607182418800017408) (fadd .f64 x_0' 4607182418800017408)) :: .float .f64 (fmul .f64 (fdiv .f64 (fsub .f64 x_0' 4607182418800017408) (fadd .f64 x_0' 4607182418800017408)) (fdiv .f64 (fsub .f64 x_0' 4607182418800017408) (fadd .f64 x_0' 4607182418800017408))) :: .float .f64 0 :: .float .f64 4627730092099895296 :: ud37 [])) H (blockQ 4 (seqQ (exL Try.prog E_fjz (cr (cr (cr (cr (cr (cr (cr (cr (bodyC Try.f188))))))))) 4 4 []) (retK Try.prog Try.f188 K)))) := by kernel_rfl
abbrev fjz_P3 (ve_3 : Nat) (x_0' : Nat) (q : Nat) (k : Nat)  : List Value := (ud3 (.float .f64 ve_3 :: .float .f64 (fdiv .f64 (fsub .f64 x_0' 4607182418800017408) (fadd .f64 x_0' 4607182418800017408)) :: .float .f64 (fmul .f64 (fdiv .f64 (fsub .f64 x_0' 4607182418800017408) (fadd .f64 x_0' 4607182418800017408)) (fdiv .f64 (fsub .f64 x_0' 4607182418800017408) (fadd .f64 x_0' 4607182418800017408))) :: .float .f64 q :: .float .f64 k :: ud37 []))
theorem fjz_r3 (ve_3 : Nat) (x_0' : Nat) (q : Nat) (k : Nat)  (H : AHeap) (R : Post) : exL Try.prog E_fjz (cl (cl (cr (cl (cr (cr (cr (cr (cr (cr (cr (bodyC Try.f188)))))))))))) 248 4 [(4, 88)] (fjz_P3 ve_3 x_0' q k) H R =
 (Br (fle .f64 4607182418800017408 k) (R .normal (ud3 (.float .f64 ve_3 :: .float .f64 (fdiv .f64 (fsub .f64 x_0' 4607182418800017408) (fadd .f64 x_0' 4607182418800017408)) :: .float .f64 (fmul .f64 (fdiv .f64 (fsub .f64 x_0' 4607182418800017408) (fadd .f64 x_0' 4607182418800017408)) (fdiv .f64 (fsub .f64 x_0' 4607182418800017408) (fadd .f64 x_0' 4607182418800017408))) :: .float .f64 (fadd .f64 (fdiv .f64 4607182418800017408 k) (fmul .f64 (fmul .f64 (fdiv .f64 (fsub .f64 x_0' 4607182418800017408) (fadd .f64 x_0' 4607182418800017408)) (fdiv .f64 (fsub .f64 x_0' 4607182418800017408) (fadd .f64 x_0' 4607182418800017408))) q)) :: .float .f64 (fsub .f64 k 4611686018427387904) :: ud37 [])) H) (R (.exit 4) (ud3 (.float .f64 ve_3 :: .float .f64 (fdiv .f64 (fsub .f64 x_0' 4607182418800017408) (fadd .f64 x_0' 4607182418800017408)) :: ud :: .float .f64 q :: ud38 [])) H)) := by kernel_rfl
def fjz_I3 (ve_3 : Nat) (x_0' : Nat) (Inv : Nat → Nat → Nat → AHeap → Prop) : Nat → List Value → AHeap → Prop := fun μ tm H => ∃ (q : Nat), ∃ (k : Nat), tm = (fjz_P3 ve_3 x_0' q k) ∧ Inv μ q k H
theorem fjz_L3 (ve_3 : Nat) (x_0' : Nat) {Q : Post} (Inv : Nat → Nat → Nat → AHeap → Prop) (ν : Nat) (q : Nat) (k : Nat)  (H : AHeap) (h0 : Inv ν q k H)
  (hs : ∀ (μ : Nat) (q : Nat) (k : Nat)  (H : AHeap), Inv μ q k H → exL Try.prog E_fjz (cl (cl (cr (cl (cr (cr (cr (cr (cr (cr (cr (bodyC Try.f188)))))))))))) 248 4 [(4, 88)] (fjz_P3 ve_3 x_0' q k) H (loopQ (fjz_I3 ve_3 x_0' Inv) μ Q)) : loopK (exL Try.prog E_fjz (cl (cl (cr (cl (cr (cr (cr (cr (cr (cr (cr (bodyC Try.f188)))))))))))) 248 4 [(4, 88)]) (fjz_P3 ve_3 x_0' q k) H Q :=
 ⟨fjz_I3 ve_3 x_0' Inv, ν, ⟨q, k, rfl, h0⟩, fun μ tm H h => by obtain ⟨q, k, rfl, hI⟩ := h; exact hs μ q k  H hI⟩
theorem fjz_n3 {ve_3 : Nat} {x_0' : Nat} {Q : Post} {Inv : Nat → Nat → Nat → AHeap → Prop} {μ : Nat} (μ' : Nat) {q : Nat} {k : Nat}  {H : AHeap} (hm : μ' < μ) (hI : Inv μ' q k H) : loopQ (fjz_I3 ve_3 x_0' Inv) μ Q .normal (fjz_P3 ve_3 x_0' q k) H := ⟨μ', hm, q, k, rfl, hI⟩
theorem fjz_x3_4 (ve_3 : Nat) (x_0' : Nat) (q : Nat) (H : AHeap) (K : Value → AHeap → Prop)  {I : Nat → List Value → AHeap → Prop} {μ : Nat} : loopQ I μ (blockQ 4 (seqQ (exL Try.prog E_fjz (cr (cr (cr (cr (cr (cr (cr (cr (bodyC Try.f188))))))))) 4 4 []) (retK Try.prog Try.f188 K))) (.exit 4) (ud3 (.float .f64 ve_3 :: .float .f64 (fdiv .f64 (fsub .f64 x_0' 4607182418800017408) (fadd .f64 x_0' 4607182418800017408)) :: ud :: .float .f64 q :: ud38 [])) H =
 (K (.float .f64 (fadd .f64 (fmul .f64 4611686018427387904 (fmul .f64 (fdiv .f64 (fsub .f64 x_0' 4607182418800017408) (fadd .f64 x_0' 4607182418800017408)) q)) (fmul .f64 ve_3 4604418534313441775))) H) := by kernel_rfl
theorem E_fjz_ok : ∀ g, FnOk Try.prog g (E_fjz g) := FnOk.envOf (by
 intro x hx; cases hx)
theorem ω41 {P : Prop} (h : P := by first | omega | (simp; done) | (simp; omega) | (have := half_step (by assumption) (by assumption) (by assumption); omega)) : P := h
theorem ω26 {P : Prop} (h : P := by first | omega | (have := half_step (by assumption) (by assumption) (by assumption); omega) | (simp only [List.length_append, List.length_cons, List.length_nil, List.length_set]; done) | (simp only [List.length_append, List.length_cons, List.length_nil, List.length_set]; omega)) : P := h
theorem fjz_main (x : Nat) (H : AHeap) (K : Value → AHeap → Prop) (h : T_fjz x H fun (r1 : Nat) (H' : AHeap) => K (.float .f64 r1) H') : bodyL Try.prog E_fjz Try.f188 [.float .f64 x] H K := by
 rw [fjz_vc]
 obtain ⟨pr0, pr1, hk⟩ := h
 have e : (p_fjz x) = _ := rfl
 have e := e.trans (p_fjz_eq x)
 have g0 := Grow.refl H
 refine fjz_L1  (fun (μ : Nat) (x0 : Nat) (ve : Nat) (H_1 : AHeap) => H = H_1 ∧ 4503599627370496 ≤ x0 ∧ x0 < 9218868437227405312 ∧ (x0 : Int) ≤ (μ : Int) ∧ p_fjz x = p_fjz_l1 x (μ + 1) x0 ve) (Int.toNat ((x : Int))) _ _ H ?_ ?_
 ·exact ⟨rfl, ω41, ω41, ω2, e⟩
 ·intro μ x0 ve  H_1 hI
  obtain ⟨rfl, v_1, v_2, hμ, e⟩ := hI
  rw [fjz_r1]
  have e := e.trans (p_fjz_l1_s x μ x0 ve)
  have l3 := g0.1
  refine Br.intro (fun c_4 => ?_) (fun c_4 => ?_)
  ·have e := e.trans (cond_t c_4)
   refine fjz_n1 (μ - 1) ω36 ⟨rfl, ω26, ω26, ω36, ω40⟩
  ·have e := e.trans (cond_f c_4)
   rw [fjz_x1_0]
   refine fjz_L2  (fun (μ2 : Nat) (x_0' : Nat) (ve_3 : Nat) (H_2 : AHeap) => H = H_2 ∧ 4503599627370496 ≤ x_0' ∧ x_0' < 9218868437227405312 ∧ (4604930618986332160 : Int) - x_0' ≤ (μ2 : Int) ∧ p_fjz x = p_fjz_l2 x x0 ve (fun (x_0' : Nat) (ve_3 : Nat) => (p_fjz_l3 x x0 ve x_0' ve_3 (fun (q : Nat) (k : Nat) => fadd .f64 (fmul .f64 4611686018427387904 (fmul .f64 (fdiv .f64 (fsub .f64 x_0' 4607182418800017408) (fadd .f64 x_0' 4607182418800017408)) q)) (fmul .f64 ve_3 4604418534313441775)) (Int.toNat (cnt 4627730092099895296) + 1) 0 4627730092099895296)) (μ2 + 1) x_0' ve_3) (Int.toNat ((4604930618986332160 : Int) - x0)) _ _ H ?_ ?_
   ·exact ⟨rfl, ω29, ω29, ω2, e⟩
   ·intro μ2 x_0' ve_3  H_2 hI
    obtain ⟨rfl, v5, v6, hμ, e⟩ := hI
    rw [fjz_r2]
    have e := e.trans (p_fjz_l2_s x x0 ve (fun (x_0' : Nat) (ve_3 : Nat) => (p_fjz_l3 x x0 ve x_0' ve_3 (fun (q : Nat) (k : Nat) => fadd .f64 (fmul .f64 4611686018427387904 (fmul .f64 (fdiv .f64 (fsub .f64 x_0' 4607182418800017408) (fadd .f64 x_0' 4607182418800017408)) q)) (fmul .f64 ve_3 4604418534313441775)) (Int.toNat (cnt 4627730092099895296) + 1) 0 4627730092099895296)) μ2 x_0' ve_3)
    have l7 := g0.1
    refine Br.intro (fun c8 => ?_) (fun c8 => ?_)
    ·have e := e.trans (cond_t c8)
     refine fjz_n2 (μ2 - 1) ω35 ⟨rfl, ω21, ω21, ω35, ω39⟩
    ·have e := e.trans (cond_f c8)
     rw [fjz_x2_2]
     refine fjz_L3 _ _ (fun (μ3 : Nat) (q : Nat) (k : Nat) (H_3 : AHeap) => H = H_3 ∧ isCnt k ∧ cnt k ≤ (μ3 : Int) ∧ p_fjz x = p_fjz_l3 x x0 ve x_0' ve_3 (fun (q : Nat) (k : Nat) => fadd .f64 (fmul .f64 4611686018427387904 (fmul .f64 (fdiv .f64 (fsub .f64 x_0' 4607182418800017408) (fadd .f64 x_0' 4607182418800017408)) q)) (fmul .f64 ve_3 4604418534313441775)) (μ3 + 1) q k) (Int.toNat (cnt 4627730092099895296)) _ _ H ?_ ?_
     ·exact ⟨rfl, (by first | omega | (simp; done) | (simp; omega) | (first | exact isCnt.of (n := 25) (by decide) (by decide) | exact (down2 (by assumption) (by assumption)).1)), ω2, e⟩
     ·intro μ3 q k  H_3 hI
      obtain ⟨rfl, v9, hμ, e⟩ := hI
      rw [fjz_r3]
      have e := e.trans (p_fjz_l3_s x x0 ve x_0' ve_3 (fun (q : Nat) (k : Nat) => fadd .f64 (fmul .f64 4611686018427387904 (fmul .f64 (fdiv .f64 (fsub .f64 x_0' 4607182418800017408) (fadd .f64 x_0' 4607182418800017408)) q)) (fmul .f64 ve_3 4604418534313441775)) μ3 q k)
      have l10 := g0.1
      refine Br.intro (fun c11 => ?_) (fun c11 => ?_)
      ·have e := e.trans (cond_t c11)
       refine fjz_n3 (μ3 - 1) (by first | omega | (have := down2 (by assumption) (by assumption); omega)) ⟨rfl, (by first | omega | (first | exact isCnt.of (n := 25) (by decide) (by decide) | exact (down2 (by assumption) (by assumption)).1) | (simp only [List.length_append, List.length_cons, List.length_nil, List.length_set]; done) | (simp only [List.length_append, List.length_cons, List.length_nil, List.length_set]; omega)), (by first | omega | (have := down2 (by assumption) (by assumption); omega)), (by rw [show μ3 - 1 + 1 = μ3 from by first | omega | (have := down2 (by assumption) (by assumption); omega)]; exact e)⟩
      ·have e := e.trans (cond_f c11)
       rw [fjz_x3_4]
       rw [e] at hk
       exact hk
theorem fjz_ok : FnOk Try.prog 188 S_fjz := by
 refine FnOk.body mix_ok E_fjz_ok Try.func188 rfl ω15 ω15 ?_ ?_ ?_ ?_ ?_
 ·intro args H K K' h hk
  simp only [S_fjz] at *
  unfold F_fjz at *
  split at hk
  ·obtain ⟨pr0, pr1, k⟩ := hk
   exact ⟨pr0, pr1, h _ _ k⟩
  ·exact hk.elim
 ·intro _ args H K hk
  simp only [S_fjz] at *
  unfold F_fjz at *
  split at hk
  ·obtain ⟨pr0, pr1, k⟩ := hk
   exact ⟨_, k, fun K' k' => ⟨pr0, pr1, k'⟩⟩
  ·exact hk.elim
 ·intro args H K hk
  simp only [S_fjz] at *
  unfold F_fjz at *
  split at hk
  ·obtain ⟨pr0, pr1, k⟩ := hk
   exact ⟨_, _, k⟩
  ·exact hk.elim
 ·intro hq; cases hq
 ·have mm := @fjz_main
  have ml := fun (args : List Value) (H : AHeap) (K : Value → AHeap → Prop) => bodyL_body (P := Try.prog) (env := E_fjz ) (fn := Try.f188) (args := args) (H := H) (K := K) E_fjz_ok 
  revert mm ml
  generalize bodyK Try.prog E_fjz Try.f188 = Q
  generalize bodyL Try.prog E_fjz Try.f188 = QL
  intro mm ml args H K hk
  simp only [S_fjz] at *
  unfold F_fjz at *
  split at hk
  ·exact ml _ H K (mm _ H K hk)
  ·exact hk.elim

def p_frz (x : Nat) : Nat := (bif feq .f32 x 0 then ((fnarrow ((p_f29z ((-1) : Int)))).getD 0) else (bif flt .f32 x 0 then ((fnarrow p_f2az).getD 0) else (bif !(feq .f32 x x) then ((fnarrow p_f2az).getD 0) else (bif !(p_f16z x) then x else ((fnarrow ((p_fjz (fwide x)))).getD 0)))))
def p_frz_eq := @p_frz.eq_1
def T_frz (x : Nat) (H : AHeap) (K : Nat → AHeap → Prop) : Prop := K (p_frz x) H
theorem T_frz_i {x : Nat} {H : AHeap} {K : Nat → AHeap → Prop} (h : K (p_frz x) H) : T_frz x H K := h
theorem log_pre {x : Nat} (h0 : feq .f32 x 0 = false) (h1 : flt .f32 x 0 = false) (h2 : p_f16z x = true) : 4503599627370496 ≤ fwide x ∧ fwide x < 9218868437227405312 :=
 log_pre' h0 h1 (by rw [← fin_asked x]; exact h2)
/-! frz: function 147 -/
def E_frz : Env := envOf [(186, S_f29z), (187, S_f2az), (133, S_f16z), (188, S_fjz)]
def F_frz : List Value → AHeap → (Value → AHeap → Prop) → Prop
 | [.float .f32 x], H, K => T_frz x H fun (r1 : Nat) (H' : AHeap) => K (.float .f32 r1) H'
 | _, _, _ => False
def S_frz : FSpec := { F := F_frz, quiet := true, tame := false }
theorem frz_vc (x : Nat) (H : AHeap) (K : Value → AHeap → Prop) : bodyL Try.prog E_frz Try.f147 [.float .f32 x] H K =
 (Br (feq .f32 x 0) (T_f29z (-1) H fun (r1 : Nat) (H1 : AHeap) => ∃ x1 : Nat, fnarrow r1 = some x1 ∧ K (.float .f32 x1) H1) (Br (flt .f32 x 0) (T_f2az  H fun (r2 : Nat) (H2 : AHeap) => ∃ x2 : Nat, fnarrow r2 = some x2 ∧ K (.float .f32 x2) H2) (Br (!(feq .f32 x x)) (T_f2az  H fun (r3 : Nat) (H3 : AHeap) => ∃ x3 : Nat, fnarrow r3 = some x3 ∧ K (.float .f32 x3) H3) (T_f16z x H fun (r4 : Bool) (H4 : AHeap) => Br (!r4) (K (.float .f32 x) H4) (T_fjz (fwide x) H4 fun (r5 : Nat) (H5 : AHeap) => ∃ x4 : Nat, fnarrow r5 = some x4 ∧ K (.float .f32 x4) H5))))) := by kernel_rfl
theorem E_frz_ok : ∀ g, FnOk Try.prog g (E_frz g) := FnOk.envOf (by
 intro x hx
 simp only [List.mem_cons, List.not_mem_nil, or_false] at hx
 rcases hx with rfl | rfl | rfl | rfl
 ·exact f29z_ok
 ·exact f2az_ok
 ·exact f16z_ok
 ·exact fjz_ok)
theorem ω34 {P : Prop} (h : P := by first | assumption | omega | (simp; omega) | (first | exact (log_pre (by assumption) (by assumption) (by assumption)).1 | exact (log_pre (by assumption) (by assumption) (by assumption)).2)) : P := h
theorem frz_main (x : Nat) (H : AHeap) (K : Value → AHeap → Prop) (h : T_frz x H fun (r1 : Nat) (H' : AHeap) => K (.float .f32 r1) H') : bodyL Try.prog E_frz Try.f147 [.float .f32 x] H K := by
 rw [frz_vc]
 have hk := h
 unfold T_frz at hk
 have e : (p_frz x) = _ := rfl
 have e := e.trans (p_frz_eq x)
 have g0 := Grow.refl H
 refine Br.intro (fun c_1 => ?_) (fun c_1 => ?_)
 ·have e := e.trans (cond_t c_1)
  refine T_f29z_i ?_
  refine ⟨_, opt_get (d := 0) (by decide +kernel), ?_⟩
  rw [e] at hk
  exact hk
 ·have e := e.trans (cond_f c_1)
  refine Br.intro (fun c_2 => ?_) (fun c_2 => ?_)
  ·have e := e.trans (cond_t c_2)
   refine T_f2az_i ?_
   refine ⟨_, opt_get (d := 0) (by decide +kernel), ?_⟩
   rw [e] at hk
   exact hk
  ·have e := e.trans (cond_f c_2)
   refine Br.intro (fun c_3 => ?_) (fun c_3 => ?_)
   ·have e := e.trans (cond_t c_3)
    have c_3n := nf_of_t c_3
    refine T_f2az_i ?_
    refine ⟨_, opt_get (d := 0) (by decide +kernel), ?_⟩
    rw [e] at hk
    exact hk
   ·have e := e.trans (cond_f c_3)
    have c_3n := nt_of_f c_3
    refine T_f16z_i ?_
    refine Br.intro (fun c_4 => ?_) (fun c_4 => ?_)
    ·have e := e.trans (cond_t c_4)
     have c_4n := nf_of_t c_4
     rw [e] at hk
     exact hk
    ·have e := e.trans (cond_f c_4)
     have c_4n := nt_of_f c_4
     refine T_fjz_i ⟨ω34, ω34, ?_⟩
     refine ⟨_, opt_get (d := 0) (by exact fjz_nar (log_pre (by assumption) (by assumption) (by assumption))), ?_⟩
     rw [e] at hk
     exact hk
theorem frz_ok : FnOk Try.prog 147 S_frz := by
 refine FnOk.body mix_ok E_frz_ok Try.func147 rfl ω15 ω15 ?_ ?_ ?_ ?_ ?_
 ·intro args H K K' h hk
  simp only [S_frz] at *
  unfold F_frz at *
  split at hk
  ·have k := hk
   exact h _ _ k
  ·exact hk.elim
 ·intro _ args H K hk
  simp only [S_frz] at *
  unfold F_frz at *
  split at hk
  ·have k := hk
   exact ⟨_, k, fun K' k' => k'⟩
  ·exact hk.elim
 ·intro args H K hk
  simp only [S_frz] at *
  unfold F_frz at *
  split at hk
  ·have k := hk
   exact ⟨_, _, k⟩
  ·exact hk.elim
 ·intro hq; cases hq
 ·have mm := @frz_main
  have ml := fun (args : List Value) (H : AHeap) (K : Value → AHeap → Prop) => bodyL_body (P := Try.prog) (env := E_frz ) (fn := Try.f147) (args := args) (H := H) (K := K) E_frz_ok 
  revert mm ml
  generalize bodyK Try.prog E_frz Try.f147 = Q
  generalize bodyL Try.prog E_frz Try.f147 = QL
  intro mm ml args H K hk
  simp only [S_frz] at *
  unfold F_frz at *
  split at hk
  ·exact ml _ H K (mm _ H K hk)
  ·exact hk.elim

def p_fgz (x : Nat) : Nat := ((fnarrow ((p_f27z (fwide x)))).getD 0)
def p_fgz_eq := @p_fgz.eq_1
def T_fgz (x : Nat) (H : AHeap) (K : Nat → AHeap → Prop) : Prop := K (p_fgz x) H
theorem T_fgz_i {x : Nat} {H : AHeap} {K : Nat → AHeap → Prop} (h : K (p_fgz x) H) : T_fgz x H K := h

/-! fgz: function 145 -/
def E_fgz : Env := envOf [(184, S_f27z)]
def F_fgz : List Value → AHeap → (Value → AHeap → Prop) → Prop
 | [.float .f32 x], H, K => T_fgz x H fun (r1 : Nat) (H' : AHeap) => K (.float .f32 r1) H'
 | _, _, _ => False
def S_fgz : FSpec := { F := F_fgz, quiet := true, tame := false }
theorem fgz_vc (x : Nat) (H : AHeap) (K : Value → AHeap → Prop) : bodyL Try.prog E_fgz Try.f145 [.float .f32 x] H K =
 (T_f27z (fwide x) H fun (r1 : Nat) (H1 : AHeap) => ∃ x1 : Nat, fnarrow r1 = some x1 ∧ K (.float .f32 x1) H1) := by kernel_rfl
theorem E_fgz_ok : ∀ g, FnOk Try.prog g (E_fgz g) := FnOk.envOf (by
 intro x hx
 simp only [List.mem_cons, List.not_mem_nil, or_false] at hx
 subst hx; exact f27z_ok)
theorem fgz_main (x : Nat) (H : AHeap) (K : Value → AHeap → Prop) (h : T_fgz x H fun (r1 : Nat) (H' : AHeap) => K (.float .f32 r1) H') : bodyL Try.prog E_fgz Try.f145 [.float .f32 x] H K := by
 rw [fgz_vc]
 have hk := h
 unfold T_fgz at hk
 have e : (p_fgz x) = _ := rfl
 have e := e.trans (p_fgz_eq x)
 have g0 := Grow.refl H
 refine T_f27z_i ?_
 refine ⟨_, opt_get (d := 0) (by exact sqrt_nar _), ?_⟩
 rw [e] at hk
 exact hk
theorem fgz_ok : FnOk Try.prog 145 S_fgz := by
 refine FnOk.body mix_ok E_fgz_ok Try.func145 rfl ω15 ω15 ?_ ?_ ?_ ?_ ?_
 ·intro args H K K' h hk
  simp only [S_fgz] at *
  unfold F_fgz at *
  split at hk
  ·have k := hk
   exact h _ _ k
  ·exact hk.elim
 ·intro _ args H K hk
  simp only [S_fgz] at *
  unfold F_fgz at *
  split at hk
  ·have k := hk
   exact ⟨_, k, fun K' k' => k'⟩
  ·exact hk.elim
 ·intro args H K hk
  simp only [S_fgz] at *
  unfold F_fgz at *
  split at hk
  ·have k := hk
   exact ⟨_, _, k⟩
  ·exact hk.elim
 ·intro hq; cases hq
 ·have mm := @fgz_main
  have ml := fun (args : List Value) (H : AHeap) (K : Value → AHeap → Prop) => bodyL_body (P := Try.prog) (env := E_fgz ) (fn := Try.f145) (args := args) (H := H) (K := K) E_fgz_ok 
  revert mm ml
  generalize bodyK Try.prog E_fgz Try.f145 = Q
  generalize bodyL Try.prog E_fgz Try.f145 = QL
  intro mm ml args H K hk
  simp only [S_fgz] at *
  unfold F_fgz at *
  split at hk
  ·exact ml _ H K (mm _ H K hk)
  ·exact hk.elim

def p_ffz (noise : Nat) (count : Int) : Nat × Bool := (bif !(p_f1fz noise) then (0, false) else (bif !((p_f1yz count (1 : Int) (128 : Int))) then (0, false) else ((p_f1sz (fmul .f32 noise ((p_fgz (fmul .f32 1073741824 ((p_frz (FloatKind.nearest .f32 count)))))))).1, (p_f1sz (fmul .f32 noise ((p_fgz (fmul .f32 1073741824 ((p_frz (FloatKind.nearest .f32 count)))))))).2)))
def p_ffz_eq := @p_ffz.eq_1
def T_ffz (noise : Nat) (count : Int) (H : AHeap) (K : Nat → Bool → AHeap → Prop) : Prop := K ((p_ffz noise count).1) ((p_ffz noise count).2) H
theorem T_ffz_i {noise : Nat} {count : Int} {H : AHeap} {K : Nat → Bool → AHeap → Prop} (h : K ((p_ffz noise count).1) ((p_ffz noise count).2) H) : T_ffz noise count H K := h

/-! ffz: function 70 -/
def E_ffz : Env := envOf [(106, S_f1fz), (96, S_f1yz), (147, S_frz), (145, S_fgz), (117, S_f1sz)]
def F_ffz : List Value → AHeap → (Value → AHeap → Prop) → Prop
 | [.float .f32 noise, .int .i64 count], H, K => T_ffz noise count H fun (r1 : Nat) (r2 : Bool) (H' : AHeap) => K (.tuple #[.float .f32 r1, .bool r2]) H'
 | _, _, _ => False
def S_ffz : FSpec := { F := F_ffz, quiet := true, tame := false }
theorem ffz_vc (noise : Nat) (count : Int) (H : AHeap) (K : Value → AHeap → Prop) : bodyL Try.prog E_ffz Try.f70 [.float .f32 noise, .int .i64 count] H K =
 (T_f1fz noise H fun (r1 : Bool) (H1 : AHeap) => Br (!r1) (K (.tuple #[.float .f32 0, .bool false]) H1) (T_f1yz count 1 128 H1 fun (r2 : Bool) (H2 : AHeap) => Br (!r2) (K (.tuple #[.float .f32 0, .bool false]) H2) (T_frz (FloatKind.nearest .f32 count) H2 fun (r3 : Nat) (H3 : AHeap) => T_fgz (fmul .f32 1073741824 r3) H3 fun (r4 : Nat) (H4 : AHeap) => T_f1sz (fmul .f32 noise r4) H4 fun (r5 : Nat) (r6 : Bool) (H5 : AHeap) => K (.tuple #[.float .f32 r5, .bool r6]) H5))) := by kernel_rfl
theorem E_ffz_ok : ∀ g, FnOk Try.prog g (E_ffz g) := FnOk.envOf (by
 intro x hx
 simp only [List.mem_cons, List.not_mem_nil, or_false] at hx
 rcases hx with rfl | rfl | rfl | rfl | rfl
 ·exact f1fz_ok
 ·exact f1yz_ok
 ·exact frz_ok
 ·exact fgz_ok
 ·exact f1sz_ok)
theorem ffz_main (noise : Nat) (count : Int) (H : AHeap) (K : Value → AHeap → Prop) (h : T_ffz noise count H fun (r1 : Nat) (r2 : Bool) (H' : AHeap) => K (.tuple #[.float .f32 r1, .bool r2]) H') : bodyL Try.prog E_ffz Try.f70 [.float .f32 noise, .int .i64 count] H K := by
 rw [ffz_vc]
 have hk := h
 unfold T_ffz at hk
 have e : (p_ffz noise count) = _ := rfl
 have e := e.trans (p_ffz_eq noise count)
 have g0 := Grow.refl H
 refine T_f1fz_i ?_
 refine Br.intro (fun c_1 => ?_) (fun c_1 => ?_)
 ·have e := e.trans (cond_t c_1)
  have c_1n := nf_of_t c_1
  rw [e] at hk
  exact hk
 ·have e := e.trans (cond_f c_1)
  have c_1n := nt_of_f c_1
  refine T_f1yz_i ?_
  refine Br.intro (fun c_2 => ?_) (fun c_2 => ?_)
  ·have e := e.trans (cond_t c_2)
   have c_2n := nf_of_t c_2
   rw [e] at hk
   exact hk
  ·have e := e.trans (cond_f c_2)
   have c_2n := nt_of_f c_2
   have c_2n' := f1yz_t c_2n
   refine T_frz_i ?_
   refine T_fgz_i ?_
   refine T_f1sz_i ?_
   rw [e] at hk
   exact hk
theorem ffz_ok : FnOk Try.prog 70 S_ffz := by
 refine FnOk.body mix_ok E_ffz_ok Try.func70 rfl ω15 ω15 ?_ ?_ ?_ ?_ ?_
 ·intro args H K K' h hk
  simp only [S_ffz] at *
  unfold F_ffz at *
  split at hk
  ·have k := hk
   exact h _ _ k
  ·exact hk.elim
 ·intro _ args H K hk
  simp only [S_ffz] at *
  unfold F_ffz at *
  split at hk
  ·have k := hk
   exact ⟨_, k, fun K' k' => k'⟩
  ·exact hk.elim
 ·intro args H K hk
  simp only [S_ffz] at *
  unfold F_ffz at *
  split at hk
  ·have k := hk
   exact ⟨_, _, k⟩
  ·exact hk.elim
 ·intro hq; cases hq
 ·have mm := @ffz_main
  have ml := fun (args : List Value) (H : AHeap) (K : Value → AHeap → Prop) => bodyL_body (P := Try.prog) (env := E_ffz ) (fn := Try.f70) (args := args) (H := H) (K := K) E_ffz_ok 
  revert mm ml
  generalize bodyK Try.prog E_ffz Try.f70 = Q
  generalize bodyL Try.prog E_ffz Try.f70 = QL
  intro mm ml args H K hk
  simp only [S_ffz] at *
  unfold F_ffz at *
  split at hk
  ·exact ml _ H K (mm _ _ H K hk)
  ·exact hk.elim
def p_f1xz (x : Nat) (vby : Nat) : Nat := (bif flt .f32 vby x then fsub .f32 x vby else (bif flt .f32 x (fneg .f32 vby) then fadd .f32 x vby else 0))
def T_f1xz (x : Nat) (vby : Nat) (H : AHeap) (K : Nat → AHeap → Prop) : Prop := K (p_f1xz x vby) H

/-! f1xz: function 193 -/
def E_f1xz : Env := envOf []
def F_f1xz : List Value → AHeap → (Value → AHeap → Prop) → Prop
 | [.float .f32 x, .float .f32 vby], H, K => T_f1xz x vby H fun (r1 : Nat) (H' : AHeap) => K (.float .f32 r1) H'
 | _, _, _ => False
def S_f1xz : FSpec := { F := F_f1xz, quiet := true, tame := false }
theorem f1xz_vc (x : Nat) (vby : Nat) (H : AHeap) (K : Value → AHeap → Prop) : bodyL Try.prog E_f1xz Try.f193 [.float .f32 x, .float .f32 vby] H K =
 (Br (flt .f32 vby x) (K (.float .f32 (fsub .f32 x vby)) H) (Br (flt .f32 x (fneg .f32 vby)) (K (.float .f32 (fadd .f32 x vby)) H) (K (.float .f32 0) H))) := by kernel_rfl
theorem E_f1xz_ok : ∀ g, FnOk Try.prog g (E_f1xz g) := FnOk.envOf (by
 intro x hx; cases hx)
theorem f1xz_main (x : Nat) (vby : Nat) (H : AHeap) (K : Value → AHeap → Prop) (h : T_f1xz x vby H fun (r1 : Nat) (H' : AHeap) => K (.float .f32 r1) H') : bodyL Try.prog E_f1xz Try.f193 [.float .f32 x, .float .f32 vby] H K := by
 rw [f1xz_vc]
 unfold T_f1xz p_f1xz at h
 repeat' (first | exact h | (exfalso; simp_all; done) | (refine ⟨by decide, ?_⟩) | (refine Br.intro (fun hb => ?_) (fun hb => ?_) <;> (try simp only [hb, cond_true, cond_false, Bool.not_true, Bool.not_false] at h)))
theorem f1xz_ok : FnOk Try.prog 193 S_f1xz := by
 refine FnOk.body mix_ok E_f1xz_ok Try.func193 rfl ω15 ω15 ?_ ?_ ?_ ?_ ?_
 ·intro args H K K' h hk
  simp only [S_f1xz] at *
  unfold F_f1xz at *
  split at hk
  ·have k := hk
   exact h _ _ k
  ·exact hk.elim
 ·intro _ args H K hk
  simp only [S_f1xz] at *
  unfold F_f1xz at *
  split at hk
  ·have k := hk
   exact ⟨_, k, fun K' k' => k'⟩
  ·exact hk.elim
 ·intro args H K hk
  simp only [S_f1xz] at *
  unfold F_f1xz at *
  split at hk
  ·have k := hk
   exact ⟨_, _, k⟩
  ·exact hk.elim
 ·intro hq; cases hq
 ·have mm := @f1xz_main
  have ml := fun (args : List Value) (H : AHeap) (K : Value → AHeap → Prop) => bodyL_body (P := Try.prog) (env := E_f1xz ) (fn := Try.f193) (args := args) (H := H) (K := K) E_f1xz_ok 
  revert mm ml
  generalize bodyK Try.prog E_f1xz Try.f193 = Q
  generalize bodyL Try.prog E_f1xz Try.f193 = QL
  intro mm ml args H K hk
  simp only [S_f1xz] at *
  unfold F_f1xz at *
  split at hk
  ·exact ml _ H K (mm _ _ H K hk)
  ·exact hk.elim
def p_f1wz (x : Nat) (limit : Nat) (hard : Bool) : Nat := (bif !(flt .f32 limit (p_f26z x)) then 0 else (bif hard then x else (p_f1xz x limit)))
def p_f1wz_eq := @p_f1wz.eq_1
def T_f1wz (x : Nat) (limit : Nat) (hard : Bool) (H : AHeap) (K : Nat → AHeap → Prop) : Prop := K (p_f1wz x limit hard) H

theorem T_f1wz_i {x : Nat} {limit : Nat} {hard : Bool} {H : AHeap} {K : Nat → AHeap → Prop} (h : K (p_f1wz x limit hard) H) : T_f1wz x limit hard H K := h
/-! f1wz: function 157 -/
def E_f1wz : Env := envOf [(150, S_f26z), (193, S_f1xz)]
def F_f1wz : List Value → AHeap → (Value → AHeap → Prop) → Prop
 | [.float .f32 x, .float .f32 limit, .bool hard], H, K => T_f1wz x limit hard H fun (r1 : Nat) (H' : AHeap) => K (.float .f32 r1) H'
 | _, _, _ => False
def S_f1wz : FSpec := { F := F_f1wz, quiet := true, tame := false }
theorem f1wz_vc (x : Nat) (limit : Nat) (hard : Bool) (H : AHeap) (K : Value → AHeap → Prop) : bodyL Try.prog E_f1wz Try.f157 [.float .f32 x, .float .f32 limit, .bool hard] H K =
 (T_f26z x H fun (r1 : Nat) (H1 : AHeap) => Br (!(flt .f32 limit r1)) (K (.float .f32 0) H1) (Br hard (K (.float .f32 x) H1) (T_f1xz x limit H1 fun (r2 : Nat) (H2 : AHeap) => K (.float .f32 r2) H2))) := by kernel_rfl
theorem E_f1wz_ok : ∀ g, FnOk Try.prog g (E_f1wz g) := FnOk.envOf (by
 intro x hx
 simp only [List.mem_cons, List.not_mem_nil, or_false] at hx
 rcases hx with rfl | rfl
 ·exact f26z_ok
 ·exact f1xz_ok)
theorem f1wz_main (x : Nat) (limit : Nat) (hard : Bool) (H : AHeap) (K : Value → AHeap → Prop) (h : T_f1wz x limit hard H fun (r1 : Nat) (H' : AHeap) => K (.float .f32 r1) H') : bodyL Try.prog E_f1wz Try.f157 [.float .f32 x, .float .f32 limit, .bool hard] H K := by
 rw [f1wz_vc]
 simp only [T_f26z, T_f1xz]
 unfold T_f1wz p_f1wz at h
 repeat' (first | exact h | (exfalso; simp_all; done) | (refine ⟨by decide, ?_⟩) | (refine Br.intro (fun hb => ?_) (fun hb => ?_) <;> (try simp only [hb, cond_true, cond_false, Bool.not_true, Bool.not_false] at h)))
theorem f1wz_ok : FnOk Try.prog 157 S_f1wz := by
 refine FnOk.body mix_ok E_f1wz_ok Try.func157 rfl ω15 ω15 ?_ ?_ ?_ ?_ ?_
 ·intro args H K K' h hk
  simp only [S_f1wz] at *
  unfold F_f1wz at *
  split at hk
  ·have k := hk
   exact h _ _ k
  ·exact hk.elim
 ·intro _ args H K hk
  simp only [S_f1wz] at *
  unfold F_f1wz at *
  split at hk
  ·have k := hk
   exact ⟨_, k, fun K' k' => k'⟩
  ·exact hk.elim
 ·intro args H K hk
  simp only [S_f1wz] at *
  unfold F_f1wz at *
  split at hk
  ·have k := hk
   exact ⟨_, _, k⟩
  ·exact hk.elim
 ·intro hq; cases hq
 ·have mm := @f1wz_main
  have ml := fun (args : List Value) (H : AHeap) (K : Value → AHeap → Prop) => bodyL_body (P := Try.prog) (env := E_f1wz ) (fn := Try.f157) (args := args) (H := H) (K := K) E_f1wz_ok 
  revert mm ml
  generalize bodyK Try.prog E_f1wz Try.f157 = Q
  generalize bodyL Try.prog E_f1wz Try.f157 = QL
  intro mm ml args H K hk
  simp only [S_f1wz] at *
  unfold F_f1wz at *
  split at hk
  ·exact ml _ H K (mm _ _ _ H K hk)
  ·exact hk.elim

def p_fkz_l1 (aa : LN) (limit : Nat) (hard : Bool) : Nat → LN → Int → LN
 | 0, _, _ => []
 | μ + 1, lb, t13 => (bif decide ((t13 : Int) < (aa.length : Int)) then (p_fkz_l1 aa limit hard μ ((lb ++ [((p_f1wz (((aa).getD (t13 : Int).toNat 0)) limit hard))])) (t13 + 1)) else lb)
def p_fkz_l1_s := fun aa limit hard μ lb t13 => @p_fkz_l1.eq_2 aa limit hard lb t13 μ
def p_fkz (aa : LN) (limit : Nat) (hard : Bool) : LN := (p_fkz_l1 aa limit hard (Int.toNat ((aa.length : Int) - (0 : Int)) + 1) ([] : LN) (0 : Int))
def p_fkz_eq := @p_fkz.eq_1
def T_fkz (ea : OA) (da : Nat) (ga : Nat) (limit : Nat) (hard : Bool) (H : AHeap) (K : OA → Nat → Nat → AHeap → Prop) : Prop := ∃ (aa : LN), IsL fF H ea da aa ∧ aa.length < 1073741824 ∧ ((∀ (ib : OA) (kb jb : Nat), ∀ H' : AHeap, Grow H H' → OwnS fF H' H.length ib kb jb (p_fkz aa limit hard) → K ib kb jb H'))
theorem T_fkz_i {ea : OA} {da : Nat} {ga : Nat} {limit : Nat} {hard : Bool} {H : AHeap} {K : OA → Nat → Nat → AHeap → Prop} (h : ∃ (aa : LN), IsL fF H ea da aa ∧ aa.length < 1073741824 ∧ ((∀ (ib : OA) (kb jb : Nat), ∀ H' : AHeap, Grow H H' → OwnS fF H' H.length ib kb jb (p_fkz aa limit hard) → K ib kb jb H'))) : T_fkz ea da ga limit hard H K := h
theorem fkz_go (l : LN) (limit : Nat) (hard : Bool) : ∀ (μ : Nat) (o : LN) (i : Nat), l.length - i < μ → p_fkz_l1 l limit hard μ o (i : Int) = o ++ (l.drop i).map (fun x => p_f1wz x limit hard) := by
 intro μ
 induction μ with
 | zero => intro o i h; omega
 | succ μ ih =>
  intro o i hm
  rw [p_fkz_l1_s]
  by_cases h : i < l.length
  ·rw [decide_eq_true (show (i : Int) < (l.length : Int) by omega), cond_true, Int.toNat_natCast]
   refine Eq.trans (ih _ (i + 1) ω2) ?_
   rw [List.drop_eq_getElem_cons h, List.map_cons, List.getD_eq_getElem?_getD, List.getElem?_eq_getElem h]
   simp
  ·rw [decide_eq_false (show ¬ (i : Int) < (l.length : Int) by omega), cond_false, List.drop_eq_nil_of_le ω2]; simp
theorem fkz_map (l : LN) (limit : Nat) (hard : Bool) : p_fkz l limit hard = l.map (fun x => p_f1wz x limit hard) := by
 rw [p_fkz_eq]
 have := fkz_go l limit hard (Int.toNat ((l.length : Int) - (0 : Int)) + 1) [] 0 ω2
 simpa using this
theorem fkz_len (l : LN) (limit : Nat) (hard : Bool) : (p_fkz l limit hard).length = l.length := by rw [fkz_map]; simp
/-! fkz: function 123 -/
def E_fkz : Env := envOf [(157, S_f1wz)]
def F_fkz : List Value → AHeap → (Value → AHeap → Prop) → Prop
 | [.slice ea da ga, .float .f32 limit, .bool hard], H, K => T_fkz ea da ga limit hard H fun (ib : OA) (kb : Nat) (jb : Nat) (H' : AHeap) => K (.slice ib kb jb) H'
 | _, _, _ => False
def S_fkz : FSpec := { F := F_fkz, quiet := false, tame := true }
theorem fkz_vc (ea : OA) (da : Nat) (ga : Nat) (limit : Nat) (hard : Bool) (H : AHeap) (K : Value → AHeap → Prop) : bodyL Try.prog E_fkz Try.f123 [.slice ea da ga, .float .f32 limit, .bool hard] H K =
 (Al [] H fun b1 H1 => loopK (exL Try.prog E_fkz (cl (cl (cr (cl (cr (cr (bodyC Try.f123))))))) 14470 64 [(0, 128)]) (ud :: .float .f32 limit :: .bool hard :: ud4 (.slice (some ⟨b1, 0, none⟩) 0 1 :: ud3 (.slice ea da ga :: .int .i64 (da : Int) :: .int .i64 0 :: ud12 []))) H1 (blockQ 0 (seqQ (exL Try.prog E_fkz (cr (cr (cr (bodyC Try.f123)))) 64 64 []) (retK Try.prog Try.f123 K)))) := by kernel_rfl
abbrev fkz_P1 (hard : Bool) (limit : Nat) (ea : OA) (ga : Nat) (da : Nat) (oa : OA) (na : Nat) (pa : Nat) (t13 : Int)  : List Value := (ud :: .float .f32 limit :: .bool hard :: ud4 (.slice oa na pa :: ud3 (.slice ea da ga :: .int .i64 (da : Int) :: .int .i64 t13 :: ud12 [])))
theorem fkz_r1 (hard : Bool) (limit : Nat) (ea : OA) (ga : Nat) (da : Nat) (oa : OA) (na : Nat) (pa : Nat) (t13 : Int)  (H : AHeap) (R : Post) : exL Try.prog E_fkz (cl (cl (cr (cl (cr (cr (bodyC Try.f123))))))) 14470 64 [(0, 128)] (fkz_P1 hard limit ea ga da oa na pa t13) H R =
 (Br (decide ((t13 : Int) < (da : Int))) ((0 : Int) ≤ t13 ∧ t13 < (da : Int) ∧ ∃ b2 f1, (ea : OA) = some ⟨b2, f1, none⟩ ∧ ∃ x1 : Nat,  rdC H b2 (f1 + (t13 : Int).toNat * 1) = some (.float .f32 x1) ∧ T_f1wz x1 limit hard H fun (r1 : Nat) (H2 : AHeap) => Al [.float .f32 r1] H2 fun b3 H3 => ∃ o1 w1 : List Value, ownB H3 oa na pa 1 = some o1 ∧ rdS H3 (some ⟨b3, 0, none⟩) (1 * 1) = some w1 ∧ ((oa : OA) = none → 0 < (1 : Nat)) ∧ (na : Nat) + 1 < most ∧ Ap H3 (killB H3 oa ++ [some ⟨o1 ++ w1, true⟩]) fun b4 H4 => R .normal (ud :: .float .f32 limit :: .bool hard :: ud4 (.slice (some ⟨b4, 0, none⟩) (na + 1) 1 :: ud3 (.slice ea da ga :: .int .i64 (da : Int) :: .int .i64 (IntKind.wrap .i64 (t13 + 1)) :: ud12 []))) H4) (R (.exit 0) (ud7 (.slice oa na pa :: ud18 [])) H)) := by kernel_rfl
def fkz_I1 (hard : Bool) (limit : Nat) (ea : OA) (ga : Nat) (da : Nat) (Inv : Nat → OA → Nat → Nat → Int → AHeap → Prop) : Nat → List Value → AHeap → Prop := fun μ tm H => ∃ (oa : OA), ∃ (na : Nat), ∃ (pa : Nat), ∃ (t13 : Int), tm = (fkz_P1 hard limit ea ga da oa na pa t13) ∧ Inv μ oa na pa t13 H
theorem fkz_L1 (hard : Bool) (limit : Nat) (ea : OA) (ga : Nat) (da : Nat) {Q : Post} (Inv : Nat → OA → Nat → Nat → Int → AHeap → Prop) (ν : Nat) (oa : OA) (na : Nat) (pa : Nat) (t13 : Int)  (H : AHeap) (h0 : Inv ν oa na pa t13 H)
  (hs : ∀ (μ : Nat) (oa : OA) (na : Nat) (pa : Nat) (t13 : Int)  (H : AHeap), Inv μ oa na pa t13 H → exL Try.prog E_fkz (cl (cl (cr (cl (cr (cr (bodyC Try.f123))))))) 14470 64 [(0, 128)] (fkz_P1 hard limit ea ga da oa na pa t13) H (loopQ (fkz_I1 hard limit ea ga da Inv) μ Q)) : loopK (exL Try.prog E_fkz (cl (cl (cr (cl (cr (cr (bodyC Try.f123))))))) 14470 64 [(0, 128)]) (fkz_P1 hard limit ea ga da oa na pa t13) H Q :=
 ⟨fkz_I1 hard limit ea ga da Inv, ν, ⟨oa, na, pa, t13, rfl, h0⟩, fun μ tm H h => by obtain ⟨oa, na, pa, t13, rfl, hI⟩ := h; exact hs μ oa na pa t13  H hI⟩
theorem fkz_n1 {hard : Bool} {limit : Nat} {ea : OA} {ga : Nat} {da : Nat} {Q : Post} {Inv : Nat → OA → Nat → Nat → Int → AHeap → Prop} {μ : Nat} (μ' : Nat) {oa : OA} {na : Nat} {pa : Nat} {t13 : Int}  {H : AHeap} (hm : μ' < μ) (hI : Inv μ' oa na pa t13 H) : loopQ (fkz_I1 hard limit ea ga da Inv) μ Q .normal (fkz_P1 hard limit ea ga da oa na pa t13) H := ⟨μ', hm, oa, na, pa, t13, rfl, hI⟩
theorem fkz_x1_0 (oa : OA) (na : Nat) (pa : Nat) (H : AHeap) (K : Value → AHeap → Prop)  {I : Nat → List Value → AHeap → Prop} {μ : Nat} : loopQ I μ (blockQ 0 (seqQ (exL Try.prog E_fkz (cr (cr (cr (bodyC Try.f123)))) 64 64 []) (retK Try.prog Try.f123 K))) (.exit 0) (ud7 (.slice oa na pa :: ud18 [])) H =
 (K (.slice oa na pa) H) := by kernel_rfl
theorem E_fkz_ok : ∀ g, FnOk Try.prog g (E_fkz g) := FnOk.envOf (by
 intro x hx
 simp only [List.mem_cons, List.not_mem_nil, or_false] at hx
 subst hx; exact f1wz_ok)
theorem fkz_main (ea : OA) (da : Nat) (ga : Nat) (limit : Nat) (hard : Bool) (H : AHeap) (K : Value → AHeap → Prop) (h : T_fkz ea da ga limit hard H fun (ib : OA) (kb : Nat) (jb : Nat) (H' : AHeap) => K (.slice ib kb jb) H') : bodyL Try.prog E_fkz Try.f123 [.slice ea da ga, .float .f32 limit, .bool hard] H K := by
 rw [fkz_vc]
 obtain ⟨aa, i_list, bd_48, hk⟩ := h
 obtain rfl := i_list.eqn
 have e : (p_fkz aa limit hard) = _ := rfl
 have e := e.trans (p_fkz_eq aa limit hard)
 have g0 := Grow.refl H
 refine Al.intro (fun b_1 H_1 hb_2 hl_3 g_4 o_5 => ?_)
 have o_5 : Own H_1 b_1 ((([] : LN)).map fF) := o_5
 have l7 := g_4.1
 have g8 := g0.trans g_4
 have l9 := g8.1
 have w47 := o_5.lt
 refine fkz_L1 _ _ _ _ _ (fun (μ : Nat) (oa : OA) (na : Nat) (pa : Nat) (t13 : Int) (H_2 : AHeap) => ∃ (lb : LN), ∃ (b_10 : Nat), oa = some ⟨b_10, 0, none⟩ ∧ na = lb.length ∧ pa = 1 ∧ Own H_2 b_10 (lb.map fF) ∧ Grow H H_2 ∧ H.length ≤ b_10 ∧ (0 : Int) ≤ t13 ∧ t13 ≤ (aa.length : Int) ∧ (lb.length : Int) ≤ t13 - (0 : Int) + 0 ∧ (aa.length : Int) - t13 ≤ (μ : Int) ∧ p_fkz aa limit hard = p_fkz_l1 aa limit hard (μ + 1) lb t13) (Int.toNat ((aa.length : Int) - (0 : Int))) _ _ _ _ H_1 ?_ ?_
 ·exact ⟨_, _, rfl, ω10, rfl, o_5, g8, ω2, ω7, ω7, ω7, ω2, e⟩
 ·intro μ oa na pa t13  H_2 hI
  obtain ⟨lb, b_10, rfl, rfl, rfl, o11, g12, l13, v14, v15, v16, hμ, e⟩ := hI
  rw [fkz_r1]
  have e := e.trans (p_fkz_l1_s aa limit hard μ lb t13)
  have w17 := o11.lt
  have l18 := g12.1
  refine Br.intro (fun c19 => ?_) (fun c19 => ?_)
  ·have e := e.trans (cond_t c19)
   have c_19' := of_decide_eq_true c19
   obtain ⟨b20, f21, q22⟩ := ((i_list.grow g12)).pos ω0
   refine ⟨by omega, by omega, b20, f21, q22, ?_⟩
   refine ⟨((aa).getD (t13 : Int).toNat 0), (i_list).rd g12 q22 ω2 _, ?_⟩
   refine T_f1wz_i ?_
   refine Al.intro (fun b23 H_3 hb_24 hl_25 g26 o27 => ?_)
   have o27 : Own H_3 b23 (([((p_f1wz (((aa).getD (t13 : Int).toNat 0)) limit hard))]).map fF) := o27
   have l29 := g26.1
   have g30 := g12.trans g26
   have l31 := g30.1
   have o32 := o11.grow g26
   have w33 := o32.lt
   have w46 := o27.lt
   refine ⟨_, _, o32.ownB ω5 rfl, (isl_rdS (o27.isL ω10)), (fun h => by cases h), ω24, ?_⟩
   refine Ap.app o32 rfl rfl (fun b38 H_4 q44 hl_34 o35 k36 => ?_)
   have o35 := map_snoc o35
   have l39 := k36.1
   have g40 := g30.keep (b := b_10) ω2 k36
   have l41 := g40.1
   have o42 := o27.keep ω2 k36
   have w43 := o42.lt
   have w45 := o35.lt
   rw [show IntKind.wrap .i64 (t13 + 1) = (t13 + 1) from wrap64 ω2 ω2]
   refine fkz_n1 (μ - 1) ω17 ⟨_, _, rfl, ω8, rfl, o35, g40, ω2, ω1, ω1, ω1, ω17, ω12⟩
  ·have e := e.trans (cond_f c19)
   have c_19' := of_decide_eq_false c19
   rw [fkz_x1_0]
   rw [e] at hk
   exact hk _ _ _ H_2 g12 (o11.ownS ω10 ω2)
theorem fkz_ok : FnOk Try.prog 123 S_fkz := by
 refine FnOk.body mix_ok E_fkz_ok Try.func123 rfl ω15 ω15 ?_ ?_ ?_ ?_ ?_
 ·intro args H K K' h hk
  simp only [S_fkz] at *
  unfold F_fkz at *
  split at hk
  ·obtain ⟨aa, i_list, bd_48, k⟩ := hk
   exact ⟨aa, i_list, bd_48, (fun ib kb jb H' gg ow0 => h _ _ (k ib kb jb H' gg ow0))⟩
  ·exact hk.elim
 ·intro hq; cases hq
 ·intro args H K hk
  simp only [S_fkz] at *
  unfold F_fkz at *
  split at hk
  ·obtain ⟨aa, i_list, bd_48, k⟩ := hk
   exact liveS fun a n e H1 g o => ⟨_, _, k a n e H1 g o⟩
  ·exact hk.elim
 ·intro _ args H K hk
  simp only [S_fkz] at *
  unfold F_fkz at *
  split at hk
  ·obtain ⟨aa, i_list, bd_48, k⟩ := hk
   exact ⟨aa, i_list, bd_48, (fun ib kb jb H' gg ow0 => ⟨gg, k ib kb jb H' gg ow0⟩)⟩
  ·exact hk.elim
 ·have mm := @fkz_main
  have ml := fun (args : List Value) (H : AHeap) (K : Value → AHeap → Prop) => bodyL_body (P := Try.prog) (env := E_fkz ) (fn := Try.f123) (args := args) (H := H) (K := K) E_fkz_ok 
  revert mm ml
  generalize bodyK Try.prog E_fkz Try.f123 = Q
  generalize bodyL Try.prog E_fkz Try.f123 = QL
  intro mm ml args H K hk
  simp only [S_fkz] at *
  unfold F_fkz at *
  split at hk
  ·exact ml _ H K (mm _ _ _ _ _ H K hk)
  ·exact hk.elim

def p_faz_l1 (fa : LN) (ca : List LN) (ya : LN) (hard : Bool) : Nat → Bool → Int → (List LN) → LN × (List LN) × Bool
 | 0, _, _, _ => ([], [], false)
 | μ + 1, t7, t30, q1_4 => (bif decide ((t30 : Int) < (ca.length : Int)) then (bif !((p_f1fz (((ya).getD (t30 : Int).toNat 0)))) then ([], [], false) else (p_faz_l1 fa ca ya hard μ t7 (t30 + 1) ((q1_4 ++ [(p_fkz (((ca).getD (t30 : Int).toNat [])) (((ya).getD (t30 : Int).toNat 0)) hard)])))) else ((p_f1rz fa), q1_4, true))
def p_faz_l1_s := fun fa ca ya hard μ t7 t30 q1_4 => @p_faz_l1.eq_2 fa ca ya hard t7 t30 q1_4 μ
def p_faz (fa : LN) (ca : List LN) (ya : LN) (hard : Bool) : LN × (List LN) × Bool := ((bif !(p_fhz fa ca) then ([], [], false) else (bif ((ya.length : Int) : Int) != (ca.length : Int) then ([], [], false) else (p_faz_l1 fa ca ya hard (Int.toNat ((ca.length : Int) - (0 : Int)) + 1) false (0 : Int) ([])))))
def p_faz_eq := @p_faz.eq_1
def T_faz (ta : OA) (xa : Nat) (va : Nat) (qa : OA) (ua : Nat) (sa : Nat) (za : OA) (wa : Nat) (cb : Nat) (hard : Bool) (H : AHeap) (K : OA → Nat → Nat → OA → Nat → Nat → Bool → AHeap → Prop) : Prop := ∃ (fa : LN), ∃ (ca : List LN), ∃ (ya : LN), IsL fF H ta xa fa ∧ IsLL fF H qa ua ca ∧ IsL fF H za wa ya ∧ fa.length < 1073741824 ∧ ca.length < 1073741824 ∧ ya.length < 1073741824 ∧ (∀ y ∈ ca, y.length < 1073741824) ∧ ((∀ (mb : OA) (ob nb : Nat), ∀ (db : OA) (gb eb : Nat), ∀ H' : AHeap, Grow H H' → OwnS fF H' H.length mb ob nb ((p_faz fa ca ya hard).1) → OwnLL fF H' H.length H'.length db gb eb ((p_faz fa ca ya hard).2.1) → K mb ob nb db gb eb ((p_faz fa ca ya hard).2.2) H'))
theorem T_faz_i {ta : OA} {xa : Nat} {va : Nat} {qa : OA} {ua : Nat} {sa : Nat} {za : OA} {wa : Nat} {cb : Nat} {hard : Bool} {H : AHeap} {K : OA → Nat → Nat → OA → Nat → Nat → Bool → AHeap → Prop} (h : ∃ (fa : LN), ∃ (ca : List LN), ∃ (ya : LN), IsL fF H ta xa fa ∧ IsLL fF H qa ua ca ∧ IsL fF H za wa ya ∧ fa.length < 1073741824 ∧ ca.length < 1073741824 ∧ ya.length < 1073741824 ∧ (∀ y ∈ ca, y.length < 1073741824) ∧ ((∀ (mb : OA) (ob nb : Nat), ∀ (db : OA) (gb eb : Nat), ∀ H' : AHeap, Grow H H' → OwnS fF H' H.length mb ob nb ((p_faz fa ca ya hard).1) → OwnLL fF H' H.length H'.length db gb eb ((p_faz fa ca ya hard).2.1) → K mb ob nb db gb eb ((p_faz fa ca ya hard).2.2) H'))) : T_faz ta xa va qa ua sa za wa cb hard H K := h
theorem faz_go (a : LN) (ds : List LN) (m : LN) (h : Bool) (hd : ds.length ≤ 6) : ∀ (μ : Nat) (b : Bool) (i : Int) (o : List LN), (o.length : Int) ≤ i → i ≤ (ds.length : Int) → ((∀ y ∈ ds, y.length < 1073741824) → ∀ y ∈ o, y.length < 1073741824) →
  (p_faz_l1 a ds m h μ b i o).1.length ≤ a.length ∧ (p_faz_l1 a ds m h μ b i o).2.1.length ≤ 6 ∧ ((∀ y ∈ ds, y.length < 1073741824) → ∀ y ∈ (p_faz_l1 a ds m h μ b i o).2.1, y.length < 1073741824) := by
 intro μ
 induction μ with
 | zero => intro b i o h1 h2 h3; exact ⟨Nat.zero_le _, Nat.zero_le _, fun _ y hy => by cases hy⟩
 | succ μ ih =>
  intro b i o h1 h2 h3
  rw [p_faz_l1_s]
  refine cnb (P := fun r : LN × List LN × Bool => r.1.length ≤ a.length ∧ r.2.1.length ≤ 6 ∧ ((∀ y ∈ ds, y.length < 1073741824) → ∀ y ∈ r.2.1, y.length < 1073741824)) (fun hc => ?_) (fun _ => ⟨by rw [f1rz_len]; exact Nat.le_refl _, by show o.length ≤ 6; omega, h3⟩)
  have hc := of_decide_eq_true hc
  refine cnb (P := fun r : LN × List LN × Bool => r.1.length ≤ a.length ∧ r.2.1.length ≤ 6 ∧ ((∀ y ∈ ds, y.length < 1073741824) → ∀ y ∈ r.2.1, y.length < 1073741824)) (fun _ => ⟨Nat.zero_le _, Nat.zero_le _, fun _ y hy => by cases hy⟩) (fun _ => ?_)
  refine ih _ _ _ ω31 ω2 (fun hb y hy => ?_)
  rcases List.mem_append.1 hy with hy | hy
  ·exact h3 hb y hy
  ·rw [List.mem_singleton.1 hy, fkz_len]; exact getD_len hb _
theorem faz_all (a : LN) (ds : List LN) (m : LN) (h : Bool) : (p_faz a ds m h).1.length ≤ a.length ∧ (p_faz a ds m h).2.1.length ≤ 6 ∧ ((∀ y ∈ ds, y.length < 1073741824) → ∀ y ∈ (p_faz a ds m h).2.1, y.length < 1073741824) := by
 rw [p_faz_eq]
 refine cnb (P := fun r : LN × List LN × Bool => r.1.length ≤ a.length ∧ r.2.1.length ≤ 6 ∧ ((∀ y ∈ ds, y.length < 1073741824) → ∀ y ∈ r.2.1, y.length < 1073741824)) (fun _ => ⟨Nat.zero_le _, Nat.zero_le _, fun _ y hy => by cases hy⟩) (fun hc => ?_)
 have hw := fhz_t (nt_of_f hc)
 refine cnb (P := fun r : LN × List LN × Bool => r.1.length ≤ a.length ∧ r.2.1.length ≤ 6 ∧ ((∀ y ∈ ds, y.length < 1073741824) → ∀ y ∈ r.2.1, y.length < 1073741824)) (fun _ => ⟨Nat.zero_le _, Nat.zero_le _, fun _ y hy => by cases hy⟩) (fun _ => ?_)
 exact faz_go a ds m h hw.2.1 _ _ _ _ (by simp) ω2 (fun _ y hy => by cases hy)
theorem faz_len (a : LN) (ds : List LN) (m : LN) (h : Bool) : (p_faz a ds m h).1.length ≤ a.length ∧ (p_faz a ds m h).2.1.length ≤ 6 := ⟨(faz_all a ds m h).1, (faz_all a ds m h).2.1⟩
theorem faz_big (a : LN) (ds : List LN) (m : LN) (h : Bool) : (∀ y ∈ ds, y.length < 1073741824) → ∀ y ∈ (p_faz a ds m h).2.1, y.length < 1073741824 := (faz_all a ds m h).2.2
/-! faz: function 34 -/
def E_faz : Env := envOf [(116, S_fhz), (122, S_f1rz), (106, S_f1fz), (123, S_fkz)]
def F_faz : List Value → AHeap → (Value → AHeap → Prop) → Prop
 | [.agg ⟨[.slice ta xa va, .slice qa ua sa]⟩, .slice za wa cb, .bool hard], H, K => T_faz ta xa va qa ua sa za wa cb hard H fun (mb : OA) (ob : Nat) (nb : Nat) (db : OA) (gb : Nat) (eb : Nat) (r2 : Bool) (H' : AHeap) => K (.tuple #[.agg #[.slice mb ob nb, .slice db gb eb], .bool r2]) H'
 | _, _, _ => False
def S_faz : FSpec := { F := F_faz, quiet := false, tame := true }
theorem faz_vc (ta : OA) (xa : Nat) (va : Nat) (qa : OA) (ua : Nat) (sa : Nat) (za : OA) (wa : Nat) (cb : Nat) (hard : Bool) (H : AHeap) (K : Value → AHeap → Prop) : bodyL Try.prog E_faz Try.f34 [.agg #[.slice ta xa va, .slice qa ua sa], .slice za wa cb, .bool hard] H K =
 (Al [.slice ta xa va, .slice qa ua sa] H fun b1 H1 => Al [.slice none 0 0, .slice none 0 0] H1 fun b2 H2 => ∃ xe : OA, ∃ ze : Nat, ∃ ye : Nat, ∃ af : OA, ∃ cf : Nat, ∃ bf : Nat,  rdN H2 b1 0 2 = some [.slice xe ze ye, .slice af cf bf] ∧ T_fhz xe ze ye af cf bf H2 fun (r1 : Bool) (H3 : AHeap) => Br (!r1) (isOwn H3 b2 ∧ (∃ l, rdN H3 b2 0 2 = some l) ∧ Lt (setN H3 b2 0 [.slice none 0 0, .slice none 0 0]) fun H4 => ∃ yf : OA, ∃ ag : Nat, ∃ zf : Nat, ∃ bg : OA, ∃ eg : Nat, ∃ dg : Nat,  rdN H4 b2 0 2 = some [.slice yf ag zf, .slice bg eg dg] ∧ K (.tuple #[.agg #[.slice yf ag zf, .slice bg eg dg], .bool false]) H4) (∃ sc : OA, ∃ bb : Nat, ∃ tc : Nat,  rdC H3 b1 1 = some (.slice sc bb tc) ∧ Br (((wa : Int) : Int) != (bb : Int)) (isOwn H3 b2 ∧ (∃ l, rdN H3 b2 0 2 = some l) ∧ Lt (setN H3 b2 0 [.slice none 0 0, .slice none 0 0]) fun H5 => ∃ fg : OA, ∃ jg : Nat, ∃ ig : Nat, ∃ kg : OA, ∃ mg : Nat, ∃ lg : Nat,  rdN H5 b2 0 2 = some [.slice fg jg ig, .slice kg mg lg] ∧ K (.tuple #[.agg #[.slice fg jg ig, .slice kg mg lg], .bool false]) H5) (∃ oe : OA, ∃ je : Nat, ∃ te : Nat,  rdC H3 b1 0 = some (.slice oe je te) ∧ T_f1rz oe je te H3 fun (a1 : OA) (r2 : Nat) (r3 : Nat) (H6 : AHeap) => Al [.slice none 0 0, .slice none 0 0] H6 fun b3 H7 => isOwn H7 b3 ∧ (∃ l, rdN H7 b3 0 2 = some l) ∧ Lt (setN H7 b3 0 [.slice a1 r2 r3, .slice none 0 0]) fun H8 => ∃ re : OA, ∃ zd : Nat, ∃ ue : Nat,  rdC H8 b1 1 = some (.slice re zd ue) ∧ loopK (exL Try.prog E_faz (cl (cl (cr (cl (cr (cr (cr (bodyC Try.f34)))))))) 1879048518 192 [(0, 320)]) (ud :: .slice za wa cb :: .bool hard :: ud3 (.pointer (some ⟨b2, 0, none⟩) :: ud :: .pointer (some ⟨b3, 0, none⟩) :: ud19 (.slice re zd ue :: .int .i64 (zd : Int) :: .int .i64 0 :: ud25 []))) H8 (blockQ 0 (seqQ (exL Try.prog E_faz (cr (cr (cr (cr (bodyC Try.f34))))) 192 192 []) (retK Try.prog Try.f34 K)))))) := by kernel_rfl
abbrev faz_P1 (b2 : Nat) (b3 : Nat) (hard : Bool) (za : OA) (cb : Nat) (wa : Nat) (re : OA) (ue : Nat) (zd : Nat) (t30 : Int)  : List Value := (ud :: .slice za wa cb :: .bool hard :: ud3 (.pointer (some ⟨b2, 0, none⟩) :: ud :: .pointer (some ⟨b3, 0, none⟩) :: ud19 (.slice re zd ue :: .int .i64 (zd : Int) :: .int .i64 t30 :: ud25 [])))
theorem faz_r1 (b2 : Nat) (b3 : Nat) (hard : Bool) (za : OA) (cb : Nat) (wa : Nat) (re : OA) (ue : Nat) (zd : Nat) (t30 : Int)  (H : AHeap) (R : Post) : exL Try.prog E_faz (cl (cl (cr (cl (cr (cr (cr (bodyC Try.f34)))))))) 1879048518 192 [(0, 320)] (faz_P1 b2 b3 hard za cb wa re ue zd t30) H R =
 (Br (decide ((t30 : Int) < (zd : Int))) ((0 : Int) ≤ t30 ∧ t30 < (zd : Int) ∧ ∃ b4 f1, (re : OA) = some ⟨b4, f1, none⟩ ∧ ∃ xg : OA, ∃ yg : Nat, ∃ zg : Nat,  rdC H b4 (f1 + (t30 : Int).toNat * 1) = some (.slice xg yg zg) ∧ (0 : Int) ≤ t30 ∧ t30 < (wa : Int) ∧ ∃ b5 f2, (za : OA) = some ⟨b5, f2, none⟩ ∧ ∃ x5 : Nat,  rdC H b5 (f2 + (t30 : Int).toNat * 1) = some (.float .f32 x5) ∧ T_f1fz x5 H fun (r4 : Bool) (H9 : AHeap) => Br (!r4) (isOwn H9 b2 ∧ (∃ l, rdN H9 b2 0 2 = some l) ∧ Lt (setN H9 b2 0 [.slice none 0 0, .slice none 0 0]) fun H10 => R .ret (ud6 (.pointer (some ⟨b2, 0, none⟩) :: .bool false :: ud48 [])) H10) (∃ df : OA, ∃ se : Nat, ∃ uf : Nat,  rdC H9 b3 1 = some (.slice df se uf) ∧ (0 : Int) ≤ t30 ∧ t30 < (wa : Int) ∧ ∃ b6 f3, (za : OA) = some ⟨b6, f3, none⟩ ∧ ∃ x7 : Nat,  rdC H9 b6 (f3 + (t30 : Int).toNat * 1) = some (.float .f32 x7) ∧ T_fkz xg yg zg x7 hard H9 fun (a2 : OA) (r5 : Nat) (r6 : Nat) (H11 : AHeap) => Al [.slice a2 r5 r6] H11 fun b7 H12 => ∃ o1 w1 : List Value, ownB H12 df se uf 1 = some o1 ∧ rdS H12 (some ⟨b7, 0, none⟩) (1 * 1) = some w1 ∧ ((df : OA) = none → 0 < (1 : Nat)) ∧ (se : Nat) + 1 < most ∧ Ap H12 (killB H12 df ++ [some ⟨o1 ++ w1, true⟩]) fun b8 H13 => isOwn H13 b3 ∧ (∃ l, rdN H13 b3 1 1 = some l) ∧ Lt (setC H13 b3 1 (.slice (some ⟨b8, 0, none⟩) (se + 1) 1)) fun H14 => R .normal (ud :: .slice za wa cb :: .bool hard :: ud3 (.pointer (some ⟨b2, 0, none⟩) :: ud :: .pointer (some ⟨b3, 0, none⟩) :: ud19 (.slice re zd ue :: .int .i64 (zd : Int) :: .int .i64 (IntKind.wrap .i64 (t30 + 1)) :: ud25 []))) H14)) (R (.exit 0) (ud6 (.pointer (some ⟨b2, 0, none⟩) :: ud :: .pointer (some ⟨b3, 0, none⟩) :: ud47 [])) H)) := by kernel_rfl
def faz_I1 (b2 : Nat) (b3 : Nat) (hard : Bool) (za : OA) (cb : Nat) (wa : Nat) (re : OA) (ue : Nat) (zd : Nat) (Inv : Nat → Int → AHeap → Prop) : Nat → List Value → AHeap → Prop := fun μ tm H => ∃ (t30 : Int), tm = (faz_P1 b2 b3 hard za cb wa re ue zd t30) ∧ Inv μ t30 H
theorem faz_L1 (b2 : Nat) (b3 : Nat) (hard : Bool) (za : OA) (cb : Nat) (wa : Nat) (re : OA) (ue : Nat) (zd : Nat) {Q : Post} (Inv : Nat → Int → AHeap → Prop) (ν : Nat) (t30 : Int)  (H : AHeap) (h0 : Inv ν t30 H)
  (hs : ∀ (μ : Nat) (t30 : Int)  (H : AHeap), Inv μ t30 H → exL Try.prog E_faz (cl (cl (cr (cl (cr (cr (cr (bodyC Try.f34)))))))) 1879048518 192 [(0, 320)] (faz_P1 b2 b3 hard za cb wa re ue zd t30) H (loopQ (faz_I1 b2 b3 hard za cb wa re ue zd Inv) μ Q)) : loopK (exL Try.prog E_faz (cl (cl (cr (cl (cr (cr (cr (bodyC Try.f34)))))))) 1879048518 192 [(0, 320)]) (faz_P1 b2 b3 hard za cb wa re ue zd t30) H Q :=
 ⟨faz_I1 b2 b3 hard za cb wa re ue zd Inv, ν, ⟨t30, rfl, h0⟩, fun μ tm H h => by obtain ⟨t30, rfl, hI⟩ := h; exact hs μ t30  H hI⟩
theorem faz_n1 {b2 : Nat} {b3 : Nat} {hard : Bool} {za : OA} {cb : Nat} {wa : Nat} {re : OA} {ue : Nat} {zd : Nat} {Q : Post} {Inv : Nat → Int → AHeap → Prop} {μ : Nat} (μ' : Nat) {t30 : Int}  {H : AHeap} (hm : μ' < μ) (hI : Inv μ' t30 H) : loopQ (faz_I1 b2 b3 hard za cb wa re ue zd Inv) μ Q .normal (faz_P1 b2 b3 hard za cb wa re ue zd t30) H := ⟨μ', hm, t30, rfl, hI⟩
theorem faz_x1_0 (b2 : Nat) (b3 : Nat) (H : AHeap) (K : Value → AHeap → Prop)  {I : Nat → List Value → AHeap → Prop} {μ : Nat} : loopQ I μ (blockQ 0 (seqQ (exL Try.prog E_faz (cr (cr (cr (cr (bodyC Try.f34))))) 192 192 []) (retK Try.prog Try.f34 K))) (.exit 0) (ud6 (.pointer (some ⟨b2, 0, none⟩) :: ud :: .pointer (some ⟨b3, 0, none⟩) :: ud47 [])) H =
 (∃ ng : OA, ∃ pg : Nat, ∃ og : Nat, ∃ qg : OA, ∃ tg : Nat, ∃ rg : Nat,  rdN H b3 0 2 = some [.slice ng pg og, .slice qg tg rg] ∧ isOwn H b2 ∧ (∃ l, rdN H b2 0 2 = some l) ∧ Lt (setN H b2 0 [.slice ng pg og, .slice qg tg rg]) fun H15 => ∃ jh : OA, ∃ lh : Nat, ∃ kh : Nat, ∃ ug : OA, ∃ wg : Nat, ∃ vg : Nat,  rdN H15 b2 0 2 = some [.slice jh lh kh, .slice ug wg vg] ∧ K (.tuple #[.agg #[.slice jh lh kh, .slice ug wg vg], .bool true]) H15) := by kernel_rfl
theorem faz_x1_ret (b2 : Nat) (t7 : Bool) (H : AHeap) (K : Value → AHeap → Prop)  {I : Nat → List Value → AHeap → Prop} {μ : Nat} : loopQ I μ (blockQ 0 (seqQ (exL Try.prog E_faz (cr (cr (cr (cr (bodyC Try.f34))))) 192 192 []) (retK Try.prog Try.f34 K))) .ret (ud6 (.pointer (some ⟨b2, 0, none⟩) :: .bool t7 :: ud48 [])) H =
 (∃ ah : OA, ∃ dh : Nat, ∃ bh : Nat, ∃ eh : OA, ∃ gh : Nat, ∃ fh : Nat,  rdN H b2 0 2 = some [.slice ah dh bh, .slice eh gh fh] ∧ K (.tuple #[.agg #[.slice ah dh bh, .slice eh gh fh], .bool t7]) H) := by kernel_rfl
theorem E_faz_ok : ∀ g, FnOk Try.prog g (E_faz g) := FnOk.envOf (by
 intro x hx
 simp only [List.mem_cons, List.not_mem_nil, or_false] at hx
 rcases hx with rfl | rfl | rfl | rfl
 ·exact fhz_ok
 ·exact f1rz_ok
 ·exact f1fz_ok
 ·exact fkz_ok)
theorem faz_main (ta : OA) (xa : Nat) (va : Nat) (qa : OA) (ua : Nat) (sa : Nat) (za : OA) (wa : Nat) (cb : Nat) (hard : Bool) (H : AHeap) (K : Value → AHeap → Prop) (h : T_faz ta xa va qa ua sa za wa cb hard H fun (mb : OA) (ob : Nat) (nb : Nat) (db : OA) (gb : Nat) (eb : Nat) (r2 : Bool) (H' : AHeap) => K (.tuple #[.agg #[.slice mb ob nb, .slice db gb eb], .bool r2]) H') : bodyL Try.prog E_faz Try.f34 [.agg #[.slice ta xa va, .slice qa ua sa], .slice za wa cb, .bool hard] H K := by
 rw [faz_vc]
 obtain ⟨fa, ca, ya, i_b_Coarse, i_b_Details, i_limits, bd_236, bd_237, bd_238, bb_l_b_Details, hk⟩ := h
 obtain rfl := i_b_Coarse.eqn
 obtain rfl := i_b_Details.eqn
 obtain rfl := i_limits.eqn
 have e : (p_faz fa ca ya hard) = _ := rfl
 have e := e.trans (p_faz_eq fa ca ya hard)
 have g0 := Grow.refl H
 refine Al.intro (fun b_1 H_1 hb_2 hl_3 g_4 o_5 => ?_)
 have l7 := g_4.1
 have g8 := g0.trans g_4
 have l9 := g8.1
 have w235 := o_5.lt
 refine Al.intro (fun b_10 H_2 hb_11 hl_12 g13 o14 => ?_)
 have l16 := g13.1
 have g17 := g8.trans g13
 have l18 := g17.1
 have o19 := o_5.grow g13
 have w20 := o19.lt
 have w234 := o14.lt
 refine ⟨ta, fa.length, va, qa, ca.length, sa, (o19.rdN (Nat.le_of_ble_eq_true rfl)).trans rfl, ?_⟩
 refine T_fhz_i ⟨_, ca, (i_b_Coarse.grow g17), (i_b_Details.grow g17), ω0, ω0, ω6, fun  H_3 g21  => ?_⟩
 have l22 := g21.1
 have g23 := g17.trans g21
 have l24 := g23.1
 have o25 := o19.grow g21
 have w26 := o25.lt
 have o27 := o14.grow g21
 have w28 := o27.lt
 refine Br.intro (fun c29 => ?_) (fun c29 => ?_)
 ·have e := e.trans (cond_t c29)
  have c_29n := nf_of_t c29
  refine Lt.setN (n := 2) o27 (Nat.le_of_ble_eq_true rfl) rfl (fun H_4 hl_30 o32 k31 => ?_)
  have o32 : Own H_4 b_10 [.slice none 0 0, .slice none 0 0] := o32
  have l33 := k31.1
  have g34 := g23.keep (b := b_10) ω2 k31
  have l35 := g34.1
  have o36 := o25.keep ω2 k31
  have w37 := o36.lt
  have w38 := o32.lt
  refine ⟨none, 0, 0, none, 0, 0, (o32.rdN (Nat.le_of_ble_eq_true rfl)).trans rfl, ?_⟩
  rw [e] at hk
  exact hk _ _ _ _ _ _ H_4 g34 ω9 ω9
 ·have e := e.trans (cond_f c29)
  have c_29n := nt_of_f c29
  have c_29n' := fhz_t c_29n
  refine ⟨qa, ca.length, sa, (o25.rdC _).trans rfl, ?_⟩
  refine Br.intro (fun c39 => ?_) (fun c39 => ?_)
  ·have e := e.trans (cond_t c39)
   have c_39' := ine_t c39
   refine Lt.setN (n := 2) o27 (Nat.le_of_ble_eq_true rfl) rfl (fun H_5 hl_40 o42 k41 => ?_)
   have o42 : Own H_5 b_10 [.slice none 0 0, .slice none 0 0] := o42
   have l43 := k41.1
   have g44 := g23.keep (b := b_10) ω2 k41
   have l45 := g44.1
   have o46 := o25.keep ω2 k41
   have w47 := o46.lt
   have w48 := o42.lt
   refine ⟨none, 0, 0, none, 0, 0, (o42.rdN (Nat.le_of_ble_eq_true rfl)).trans rfl, ?_⟩
   rw [e] at hk
   exact hk _ _ _ _ _ _ H_5 g44 ω9 ω9
  ·have e := e.trans (cond_f c39)
   have c_39' := ine_f c39
   refine ⟨ta, fa.length, va, (o25.rdC _).trans rfl, ?_⟩
   refine T_f1rz_i ⟨_, (i_b_Coarse.grow g23), ω0, fun a49 n50 e51 H_6 g54 r52 => ?_⟩
   have z53 := f1rz_len fa
   have l55 := g54.1
   have g56 := g23.trans g54
   have l57 := g56.1
   have o58 := o25.grow g54
   have w59 := o58.lt
   have o60 := o27.grow g54
   have w61 := o60.lt
   obtain rfl := r52.isL.eqn
   have u62 := r52.up
   have u63 := r52.lo
   refine Al.intro (fun b65 H_7 hb_66 hl_67 g68 o69 => ?_)
   have l71 := g68.1
   have g72 := g56.trans g68
   have l73 := g72.1
   have o74 := o58.grow g68
   have w75 := o74.lt
   have o76 := o60.grow g68
   have w77 := o76.lt
   have r78 := r52.grow g68
   have w233 := o69.lt
   refine Lt.setN (n := 2) o69 (Nat.le_of_ble_eq_true rfl) rfl (fun H_8 hl_79 o81 k80 => ?_)
   have o81 : Own H_8 b65 [.slice a49 (((p_f1rz fa)).length) e51, .slice none 0 0] := o81
   have l82 := k80.1
   have g83 := g72.keep (b := b65) ω2 k80
   have l84 := g83.1
   have o85 := o74.keep ω2 k80
   have w86 := o85.lt
   have o87 := o76.keep ω2 k80
   have w88 := o87.lt
   have r89 := r78.keep u62 ω2 k80
   have w232 := o81.lt
   refine ⟨qa, ca.length, sa, (o85.rdC _).trans rfl, ?_⟩
   refine faz_L1 _ _ _ _ _ _ _ _ _ (fun (μ : Nat) (t30 : Int) (H_9 : AHeap) => ∃ (t7 : Bool), ∃ (q1_4 : List LN), ∃ (xd : OA), ∃ (yd : Nat), Own H_9 b_1 ([.slice ta fa.length va, .slice qa ca.length sa]) ∧ Own H_9 b_10 [.slice none 0 0, .slice none 0 0] ∧ OwnLL fF H_9 H_8.length H_9.length xd q1_4.length yd q1_4 ∧ Own H_9 b65 [.slice a49 (((p_f1rz fa)).length) e51, .slice xd q1_4.length yd] ∧ OwnS fF H_9 H_3.length a49 (((p_f1rz fa)).length) e51 (p_f1rz fa) ∧ (b_10 ≠ b_1) ∧ (b65 ≠ b_1) ∧ (b65 ≠ b_10) ∧ H_6.length ≤ H_9.length ∧ Grow H H_9 ∧ (0 : Int) ≤ t30 ∧ t30 ≤ (ca.length : Int) ∧ (q1_4.length : Int) ≤ t30 ∧ (ca.length : Int) - t30 ≤ (μ : Int) ∧ p_faz fa ca ya hard = p_faz_l1 fa ca ya hard (μ + 1) t7 t30 q1_4) (Int.toNat ((ca.length : Int) - (0 : Int))) _ H_8 ?_ ?_
   ·exact ⟨_, _, _, _, o85, (by first | exact o87 | (have hbx := o87; (try simp only [List.length_append, List.length_cons, List.length_nil, Nat.zero_add] at hbx); (try simp only [List.length_append, List.length_cons, List.length_nil, Nat.zero_add]); exact hbx)), (OwnLL.nil _ _ _ _), (by first | exact o81 | (have hbx := o81; (try simp only [List.length_append, List.length_cons, List.length_nil, Nat.zero_add] at hbx); (try simp only [List.length_append, List.length_cons, List.length_nil, Nat.zero_add]); exact hbx)), r89, ω2, ω2, ω2, ω2, g83, ω7, ω7, ω7, ω2, e⟩
   ·intro μ t30  H_9 hI
    obtain ⟨t7, q1_4, xd, yd, o90, o91, r94, o92, r97, n98, n99, n100, n101, g102, v103, v104, v105, hμ, e⟩ := hI
    rw [faz_r1]
    have e := e.trans (p_faz_l1_s fa ca ya hard μ t7 t30 q1_4)
    have u95 := r94.up
    have u96 := r94.lo
    have w106 := o90.lt
    have w107 := o91.lt
    have w108 := o92.lt
    have l109 := g102.1
    refine Br.intro (fun c110 => ?_) (fun c110 => ?_)
    ·have e := e.trans (cond_t c110)
     have c_110' := of_decide_eq_true c110
     obtain ⟨b111, f_112, q113⟩ := ((i_b_Details.grow g102)).pos ω0
     refine ⟨by omega, by omega, b111, f_112, q113, ?_⟩
     obtain ⟨a114, n115, e116, r117, i118⟩ := (i_b_Details).rd (i := (t30 : Int).toNat) g102 q113 ω2
     obtain rfl := i118.eqn
     refine ⟨a114, _, e116, r117, ?_⟩
     have z119 := getD_len bb_l_b_Details (t30 : Int).toNat
     obtain ⟨b120, f_121, q122⟩ := ((i_limits.grow g102)).pos ω0
     refine ⟨by omega, by omega, b120, f_121, q122, ?_⟩
     refine ⟨((ya).getD (t30 : Int).toNat 0), (i_limits).rd g102 q122 ω2 _, ?_⟩
     refine T_f1fz_i ?_
     refine Br.intro (fun c123 => ?_) (fun c123 => ?_)
     ·have e := e.trans (cond_t c123)
      have c_123n := nf_of_t c123
      refine Lt.setN (n := 2) o91 (Nat.le_of_ble_eq_true rfl) rfl (fun H_10 hl_124 o126 k125 => ?_)
      have o126 : Own H_10 b_10 [.slice none 0 0, .slice none 0 0] := o126
      have l127 := k125.1
      have g128 := g102.keep (b := b_10) ω2 k125
      have l129 := g128.1
      have o130 := o90.keep ω2 k125
      have w131 := o130.lt
      have o132 := o92.keep ω2 k125
      have w133 := o132.lt
      have r134 := r94.keep ω2 k125
      have r135 := r97.keep u62 ω2 k125
      have w136 := o126.lt
      rw [faz_x1_ret]
      refine ⟨none, 0, 0, none, 0, 0, (o126.rdN (Nat.le_of_ble_eq_true rfl)).trans rfl, ?_⟩
      rw [e] at hk
      exact hk _ _ _ _ _ _ H_10 g128 ω9 ω9
     ·have e := e.trans (cond_f c123)
      have c_123n := nt_of_f c123
      refine ⟨xd, q1_4.length, yd, (o92.rdC _).trans rfl, ?_⟩
      obtain ⟨b137, f138, q139⟩ := ((i_limits.grow g102)).pos ω0
      refine ⟨by omega, by omega, b137, f138, q139, ?_⟩
      refine ⟨((ya).getD (t30 : Int).toNat 0), (i_limits).rd g102 q139 ω2 _, ?_⟩
      refine T_fkz_i ⟨_, (i118.grow g102), ω0, fun a140 n141 e142 H_11 g145 r143 => ?_⟩
      have z144 := fkz_len (((ca).getD (t30 : Int).toNat [])) (((ya).getD (t30 : Int).toNat 0)) hard
      have l146 := g145.1
      have g147 := g102.trans g145
      have l148 := g147.1
      have o149 := o90.grow g145
      have w150 := o149.lt
      have o151 := o91.grow g145
      have w152 := o151.lt
      have o153 := o92.grow g145
      have w154 := o153.lt
      have r155 := r94.grow g145
      have r156 := r97.grow g145
      obtain rfl := r143.isL.eqn
      have u157 := r143.up
      have u158 := r143.lo
      refine Al.intro (fun b160 H_12 hb_161 hl_162 g163 o164 => ?_)
      have l166 := g163.1
      have g167 := g147.trans g163
      have l168 := g167.1
      have o169 := o149.grow g163
      have w170 := o169.lt
      have o171 := o151.grow g163
      have w172 := o171.lt
      have o173 := o153.grow g163
      have w174 := o173.lt
      have r175 := r155.grow g163
      have r176 := r156.grow g163
      have r177 := r143.grow g163
      have w218 := o164.lt
      obtain ⟨v181, q182, q183, q184⟩ := r175.ownB
      refine ⟨v181, _, q182, o164.rdAll rfl, (fun _ => by decide), ω24, ?_⟩
      refine Ap.appLL r175 ω2 r177 ω2 ω2 (fun x hx => by have := u157 x hx; have := u158 x hx; omega) q182 rfl (fun b187 H_13 q185 hl_178 o179 k180 => ?_)
      have l188 := k180.1
      have g189 := g167.keepA (fun x hx => by have := u96 x hx; omega) k180
      have l190 := g189.1
      have o191 := o169.keepA (fun x hx => by have := u96 x hx; have := u95 x hx; omega) k180
      have w192 := o191.lt
      have o193 := o171.keepA (fun x hx => by have := u96 x hx; have := u95 x hx; omega) k180
      have w194 := o193.lt
      have o195 := o173.keepA (fun x hx => by have := u96 x hx; have := u95 x hx; omega) k180
      have w196 := o195.lt
      have o197 := o164.keepA (fun x hx => by have := u96 x hx; have := u95 x hx; omega) k180
      have w198 := o197.lt
      have r199 := r176.keepA (fun x y hx hy => by have := u96 x hx; have := u95 x hx; have := u63 y hy; have := u62 y hy; omega) k180
      have w216 := o179.lt
      have v217 := o179.rng
      refine Lt.set o195 (Nat.le_of_ble_eq_true rfl) (fun H_14 hl_200 o202 k201 => ?_)
      have o202 : Own H_14 b65 [.slice a49 (((p_f1rz fa)).length) e51, .slice (some ⟨b187, 0, none⟩) (q1_4.length + 1) 1] := o202
      have l203 := k201.1
      have g204 := g189.keep (b := b65) ω2 k201
      have l205 := g204.1
      have o206 := o191.keep ω2 k201
      have w207 := o206.lt
      have o208 := o193.keep ω2 k201
      have w209 := o208.lt
      have o210 := o197.keep ω2 k201
      have w211 := o210.lt
      have o212 := o179.keep ω2 k201
      have w213 := o212.lt
      have r214 := r199.keep u62 ω2 k201
      have w215 := o202.lt
      rw [show IntKind.wrap .i64 (t30 + 1) = (t30 + 1) from wrap64 ω2 ω2]
      refine faz_n1 (μ - 1) ω17 ⟨_, _, _, _, o206, (by first | exact o208 | (have hbx := o208; (try simp only [List.length_append, List.length_cons, List.length_nil, Nat.zero_add] at hbx); (try simp only [List.length_append, List.length_cons, List.length_nil, Nat.zero_add]); exact hbx)), ((o212.ownLL rfl).weak ω2 ω2 (Nat.le_refl _)), (by first | exact o202 | (have hbx := o202; (try simp only [List.length_append, List.length_cons, List.length_nil, Nat.zero_add] at hbx); (try simp only [List.length_append, List.length_cons, List.length_nil, Nat.zero_add]); exact hbx)), r214, ω2, ω2, ω2, ω2, g204, ω1, ω1, ω1, ω17, ω12⟩
    ·have e := e.trans (cond_f c110)
     have c_110' := of_decide_eq_false c110
     rw [faz_x1_0]
     refine ⟨a49, ((p_f1rz fa)).length, e51, xd, q1_4.length, yd, (o92.rdN (Nat.le_of_ble_eq_true rfl)).trans rfl, ?_⟩
     refine Lt.setN (n := 2) o91 (Nat.le_of_ble_eq_true rfl) rfl (fun H_15 hl_219 o221 k220 => ?_)
     have o221 : Own H_15 b_10 [.slice a49 (((p_f1rz fa)).length) e51, .slice xd q1_4.length yd] := o221
     have l222 := k220.1
     have g223 := g102.keep (b := b_10) ω2 k220
     have l224 := g223.1
     have o225 := o90.keep ω2 k220
     have w226 := o225.lt
     have o227 := o92.keep ω2 k220
     have w228 := o227.lt
     have r229 := r94.keep ω2 k220
     have r230 := r97.keep u62 ω2 k220
     have w231 := o221.lt
     refine ⟨a49, ((p_f1rz fa)).length, e51, xd, q1_4.length, yd, (o221.rdN (Nat.le_of_ble_eq_true rfl)).trans rfl, ?_⟩
     rw [e] at hk
     exact hk _ _ _ _ _ _ H_15 g223 (r230.weak ω2) (r229.weak ω2 ω2 (Nat.le_refl _))
theorem faz_ok : FnOk Try.prog 34 S_faz := by
 refine FnOk.body mix_ok E_faz_ok Try.func34 rfl ω15 ω15 ?_ ?_ ?_ ?_ ?_
 ·intro args H K K' h hk
  simp only [S_faz] at *
  unfold F_faz at *
  split at hk
  ·obtain ⟨fa, ca, ya, i_b_Coarse, i_b_Details, i_limits, bd_236, bd_237, bd_238, bb_l_b_Details, k⟩ := hk
   exact ⟨fa, ca, ya, i_b_Coarse, i_b_Details, i_limits, bd_236, bd_237, bd_238, bb_l_b_Details, (fun mb ob nb db gb eb H' gg ow0 ow1 => h _ _ (k mb ob nb db gb eb H' gg ow0 ow1))⟩
  ·exact hk.elim
 ·intro hq; cases hq
 ·intro args H K hk
  simp only [S_faz] at *
  unfold F_faz at *
  split at hk
  ·obtain ⟨fa, ca, ya, i_b_Coarse, i_b_Details, i_limits, bd_236, bd_237, bd_238, bb_l_b_Details, k⟩ := hk
   exact liveSL fun a n e a2 n2 e2 H1 g o o2 => ⟨_, _, k a n e a2 n2 e2 H1 g o o2⟩
  ·exact hk.elim
 ·intro _ args H K hk
  simp only [S_faz] at *
  unfold F_faz at *
  split at hk
  ·obtain ⟨fa, ca, ya, i_b_Coarse, i_b_Details, i_limits, bd_236, bd_237, bd_238, bb_l_b_Details, k⟩ := hk
   exact ⟨fa, ca, ya, i_b_Coarse, i_b_Details, i_limits, bd_236, bd_237, bd_238, bb_l_b_Details, (fun mb ob nb db gb eb H' gg ow0 ow1 => ⟨gg, k mb ob nb db gb eb H' gg ow0 ow1⟩)⟩
  ·exact hk.elim
 ·have mm := @faz_main
  have ml := fun (args : List Value) (H : AHeap) (K : Value → AHeap → Prop) => bodyL_body (P := Try.prog) (env := E_faz ) (fn := Try.f34) (args := args) (H := H) (K := K) E_faz_ok 
  revert mm ml
  generalize bodyK Try.prog E_faz Try.f34 = Q
  generalize bodyL Try.prog E_faz Try.f34 = QL
  intro mm ml args H K hk
  simp only [S_faz] at *
  unfold F_faz at *
  split at hk
  ·exact ml _ H K (mm _ _ _ _ _ _ _ _ _ _ H K hk)
  ·exact hk.elim

def p_fiz (aa : LN) : LN × Bool := (bif !((p_fvz ([aa]))) then ([], false) else (aa, true))
def p_fiz_eq := @p_fiz.eq_1
def T_fiz (ea : OA) (da : Nat) (ga : Nat) (H : AHeap) (K : OA → Nat → Nat → Bool → AHeap → Prop) : Prop := ∃ (aa : LN), IsL fF H ea da aa ∧ aa.length < 1073741824 ∧ ((∀ H' : AHeap, Grow H H' → Br ((p_fiz aa).2) (K ea da ga true H') (K none 0 0 false H')))
theorem T_fiz_i {ea : OA} {da : Nat} {ga : Nat} {H : AHeap} {K : OA → Nat → Nat → Bool → AHeap → Prop} (h : ∃ (aa : LN), IsL fF H ea da aa ∧ aa.length < 1073741824 ∧ ((∀ H' : AHeap, Grow H H' → Br ((p_fiz aa).2) (K ea da ga true H') (K none 0 0 false H')))) : T_fiz ea da ga H K := h

/-! fiz: function 109 -/
def E_fiz : Env := envOf [(166, S_fvz)]
def F_fiz : List Value → AHeap → (Value → AHeap → Prop) → Prop
 | [.slice ea da ga], H, K => T_fiz ea da ga H fun (ib : OA) (kb : Nat) (jb : Nat) (r2 : Bool) (H' : AHeap) => K (.tuple #[.slice ib kb jb, .bool r2]) H'
 | _, _, _ => False
def S_fiz : FSpec := { F := F_fiz, quiet := false, tame := true }
theorem fiz_vc (ea : OA) (da : Nat) (ga : Nat) (H : AHeap) (K : Value → AHeap → Prop) : bodyL Try.prog E_fiz Try.f109 [.slice ea da ga] H K =
 (Al [.slice ea da ga] H fun b1 H1 => T_fvz (some ⟨b1, 0, none⟩) 1 1 H1 fun (r1 : Bool) (H2 : AHeap) => Br (!r1) (K (.tuple #[.slice none 0 0, .bool false]) H2) (K (.tuple #[.slice ea da ga, .bool true]) H2)) := by kernel_rfl
theorem E_fiz_ok : ∀ g, FnOk Try.prog g (E_fiz g) := FnOk.envOf (by
 intro x hx
 simp only [List.mem_cons, List.not_mem_nil, or_false] at hx
 subst hx; exact fvz_ok)
theorem fiz_main (ea : OA) (da : Nat) (ga : Nat) (H : AHeap) (K : Value → AHeap → Prop) (h : T_fiz ea da ga H fun (ib : OA) (kb : Nat) (jb : Nat) (r2 : Bool) (H' : AHeap) => K (.tuple #[.slice ib kb jb, .bool r2]) H') : bodyL Try.prog E_fiz Try.f109 [.slice ea da ga] H K := by
 rw [fiz_vc]
 obtain ⟨aa, i_list, bd_12, hk⟩ := h
 obtain rfl := i_list.eqn
 have e : (p_fiz aa) = _ := rfl
 have e := e.trans (p_fiz_eq aa)
 have g0 := Grow.refl H
 refine Al.intro (fun b_1 H_1 hb_2 hl_3 g_4 o_5 => ?_)
 have l7 := g_4.1
 have g8 := g0.trans g_4
 have l9 := g8.1
 have w11 := o_5.lt
 refine T_fvz_i ⟨[aa], ⟨_, o_5.rdAll rfl, LLc.cons (i_list.grow g8) (LLc.nil _ _)⟩, ω0, ω6, ?_⟩
 refine Br.intro (fun c10 => ?_) (fun c10 => ?_)
 ·have e := e.trans (cond_t c10)
  have c_10n := nf_of_t c10
  have q := hk H_1 g8
  rw [e] at q
  exact q
 ·have e := e.trans (cond_f c10)
  have c_10n := nt_of_f c10
  have q := hk H_1 g8
  rw [e] at q
  exact q
theorem fiz_ok : FnOk Try.prog 109 S_fiz := by
 refine FnOk.body mix_ok E_fiz_ok Try.func109 rfl ω15 ω15 ?_ ?_ ?_ ?_ ?_
 ·intro args H K K' h hk
  simp only [S_fiz] at *
  unfold F_fiz at *
  split at hk
  ·obtain ⟨aa, i_list, bd_12, k⟩ := hk
   exact ⟨aa, i_list, bd_12, (fun H' gg => Br_mono (h _ _) (h _ _) (k H' gg))⟩
  ·exact hk.elim
 ·intro hq; cases hq
 ·intro args H K hk
  simp only [S_fiz] at *
  unfold F_fiz at *
  split at hk
  ·obtain ⟨aa, i_list, bd_12, k⟩ := hk
   exact Br_live (k H (Grow.refl H))
  ·exact hk.elim
 ·intro _ args H K hk
  simp only [S_fiz] at *
  unfold F_fiz at *
  split at hk
  ·obtain ⟨aa, i_list, bd_12, k⟩ := hk
   exact ⟨aa, i_list, bd_12, (fun H' gg => Br_mono (fun q => ⟨gg, q⟩) (fun q => ⟨gg, q⟩) (k H' gg))⟩
  ·exact hk.elim
 ·have mm := @fiz_main
  have ml := fun (args : List Value) (H : AHeap) (K : Value → AHeap → Prop) => bodyL_body (P := Try.prog) (env := E_fiz ) (fn := Try.f109) (args := args) (H := H) (K := K) E_fiz_ok 
  revert mm ml
  generalize bodyK Try.prog E_fiz Try.f109 = Q
  generalize bodyL Try.prog E_fiz Try.f109 = QL
  intro mm ml args H K hk
  simp only [S_fiz] at *
  unfold F_fiz at *
  split at hk
  ·exact ml _ H K (mm _ _ _ H K hk)
  ·exact hk.elim
end Go.Proofs.Ytbnplefohfamnaa.Ai
