/- Errors of rounding: how far a rounded number is from the exact one. -/
import Derived.Test.YtbnplefohfamnaaPu
set_option linter.unusedVariables false
set_option linter.unusedSimpArgs false
namespace Go.Proofs.Ytbnplefohfamnaa.Ai
open Go

/-- Each number of at most so many bits is one of the format's. -/
theorem rv_of (f : Ieee.Format) : ∀ (T M : Nat), M ≤ 2 * f.binade → ∃ r, rv f r = M * 2 ^ T ∧ r ≤ (T + 2) * f.binade := by
  have hbp : 0 < f.binade := Nat.two_pow_pos _
  intro T
  induction T with
  | zero =>
    intro M hM
    by_cases h : M = 2 * f.binade
    · have := rv_shape f (M := f.binade) (T := 1) (.inl (Nat.le_refl _)) (by omega)
      exact ⟨1 * f.binade + f.binade, by rw [this, h]; omega, by omega⟩
    · have := rv_shape f (M := M) (T := 0) (.inr rfl) (by omega)
      exact ⟨0 * f.binade + M, this, by omega⟩
  | succ T ih =>
    intro M hM
    by_cases h : M = 2 * f.binade
    · have := rv_shape f (M := f.binade) (T := T + 2) (.inl (Nat.le_refl _)) (by omega)
      exact ⟨(T + 2) * f.binade + f.binade, by rw [this, h, Nat.pow_succ 2 (T + 1), Nat.mul_comm _ 2, Nat.mul_comm 2 f.binade, Nat.mul_assoc], by rw [show T + 1 + 2 = (T + 2) + 1 by omega, Nat.succ_mul (T + 2)]; exact Nat.le_refl _⟩
    · by_cases h2 : f.binade ≤ M
      · have := rv_shape f (M := M) (T := T + 1) (.inl h2) (by omega)
        exact ⟨(T + 1) * f.binade + M, this, by rw [Nat.add_mul (T + 1) 2]; omega⟩
      · obtain ⟨r, h3, h4⟩ := ih (2 * M) (by omega)
        exact ⟨r, by rw [h3, Nat.pow_succ, Nat.mul_comm 2 M, Nat.mul_assoc, Nat.mul_comm 2 (2 ^ T)], Nat.le_trans h4 (Nat.mul_le_mul_right _ (by omega))⟩
theorem rv_zero' (f : Ieee.Format) : rv f 0 = 0 := by unfold rv; rw [if_pos (show 0 < f.binade from Nat.two_pow_pos _)]
/-- The nearest number of the format is no farther away than a last place. -/
theorem nearest_err (k : FloatKind) (s : Bool) {m T : Nat} {e : Int} (ht : (T + 2) * k.format.binade < k.format.infRung)
    (h : m * 2 ^ (e - k.format.leastPlace).toNat ≤ 2 * k.format.binade * 2 ^ T * 2 ^ (k.format.leastPlace - e).toNat) :
    ∃ r, k.format.nearest s m e = k.format.word s r ∧ r < k.format.infRung ∧ rv k.format r * 2 ^ (k.format.leastPlace - e).toNat ≤ m * 2 ^ (e - k.format.leastPlace).toNat + 2 ^ T * 2 ^ (k.format.leastPlace - e).toNat ∧
      m * 2 ^ (e - k.format.leastPlace).toNat ≤ rv k.format r * 2 ^ (k.format.leastPlace - e).toNat + 2 ^ T * 2 ^ (k.format.leastPlace - e).toNat := by
  have hB := Nat.two_pow_pos (k.format.leastPlace - e).toNat
  have hT := Nat.two_pow_pos T
  have low : ∀ M r : Nat, M ≤ 2 * k.format.binade → M ≠ 0 → rv k.format r = M * 2 ^ T → r ≤ (T + 2) * k.format.binade → M * 2 ^ T * 2 ^ (k.format.leastPlace - e).toNat ≤ m * 2 ^ (e - k.format.leastPlace).toNat → ∃ r', k.format.nearest s m e = k.format.word s r' ∧ r ≤ r' ∧ r' ≤ k.format.infRung := fun M r h1 h0 h2 h3 h4 => by
    refine nearest_ge k s ?_ (by omega) (by rw [h2]; exact h4)
    rintro rfl
    rw [rv_zero'] at h2
    have := Nat.mul_pos (Nat.pos_of_ne_zero h0) hT
    omega
  have up : ∀ M r : Nat, rv k.format r = M * 2 ^ T → m * 2 ^ (e - k.format.leastPlace).toNat ≤ M * 2 ^ T * 2 ^ (k.format.leastPlace - e).toNat → ∃ r', k.format.nearest s m e = k.format.word s r' ∧ r' ≤ r ∧ r' ≤ k.format.infRung := fun M r h2 h4 => nearest_le k s (by rw [h2]; exact h4)
  have same : ∀ r r' : Nat, r ≤ k.format.infRung → r' ≤ k.format.infRung → k.format.word s r = k.format.word s r' → r = r' := fun r r' h1 h2 h3 => by
    have hlt := inf_lt k
    have e1 := (word_mod k.format s (show r < k.format.signWeight by omega)).1
    have e2 := (word_mod k.format s (show r' < k.format.signWeight by omega)).1
    rw [← e1, h3, e2]
  generalize hA : m * 2 ^ (e - k.format.leastPlace).toNat = A at *
  generalize 2 ^ (k.format.leastPlace - e).toNat = B at *
  have hD : 0 < 2 ^ T * B := Nat.mul_pos hT hB
  have hdiv := Nat.div_add_mod A (2 ^ T * B)
  have hmod := Nat.mod_lt A hD
  generalize hM : A / (2 ^ T * B) = M at *
  have hM2 : M ≤ 2 * k.format.binade := by
    rw [← hM]
    refine Nat.div_le_of_le_mul ?_
    rw [Nat.mul_comm (2 ^ T * B), ← Nat.mul_assoc]; exact h
  have hlo : M * 2 ^ T * B ≤ A := by rw [Nat.mul_assoc, Nat.mul_comm M]; omega
  have hhi : A < M * 2 ^ T * B + 2 ^ T * B := by rw [Nat.mul_assoc M, Nat.mul_comm M]; omega
  obtain ⟨rl, l1, l2⟩ := rv_of k.format T M hM2
  -- from above
  have hup : ∃ r', k.format.nearest s m e = k.format.word s r' ∧ r' ≤ (T + 2) * k.format.binade ∧ r' ≤ k.format.infRung ∧ rv k.format r' * B ≤ A + 2 ^ T * B := by
    by_cases hm : M = 2 * k.format.binade
    · obtain ⟨r', e1, e2, e3⟩ := up M rl l1 (by rw [hm]; exact h)
      refine ⟨r', e1, by omega, e3, ?_⟩
      have := (rv_le k.format).1 e2
      rw [l1] at this
      have := Nat.mul_le_mul_right B this
      omega
    · obtain ⟨ru, u1, u2⟩ := rv_of k.format T (M + 1) (by omega)
      obtain ⟨r', e1, e2, e3⟩ := up (M + 1) ru u1 (by rw [Nat.succ_mul, Nat.add_mul]; omega)
      refine ⟨r', e1, by omega, e3, ?_⟩
      have := (rv_le k.format).1 e2
      rw [u1, Nat.succ_mul] at this
      have := Nat.mul_le_mul_right B this
      rw [Nat.add_mul] at this
      omega
  obtain ⟨r', e1, e2, e3, e4⟩ := hup
  refine ⟨r', e1, by omega, e4, ?_⟩
  by_cases h0 : M = 0
  · subst h0; omega
  · obtain ⟨r2, f1, f2, f3⟩ := low M rl hM2 h0 l1 l2 hlo
    obtain rfl := same r' r2 e3 f3 (e1.symm.trans f1)
    have := (rv_le k.format).1 f2
    rw [l1] at this
    have := Nat.mul_le_mul_right B this
    omega
/-- .. and is that number if the format has it. -/
theorem nearest_exact (k : FloatKind) (s : Bool) {M T : Nat} (ht : (T + 2) * k.format.binade < k.format.infRung) (hM : M ≤ 2 * k.format.binade) :
    ∃ r, k.format.nearest s (M * 2 ^ T) k.format.leastPlace = k.format.word s r ∧ r < k.format.infRung ∧ rv k.format r = M * 2 ^ T := by
  obtain ⟨r, h1, h2⟩ := rv_of k.format T M hM
  have z : (k.format.leastPlace - k.format.leastPlace).toNat = 0 := by omega
  obtain ⟨r1, a1, a2, a3⟩ := nearest_le k s (m := M * 2 ^ T) (r := r) (e := k.format.leastPlace) (by rw [z, h1]; exact Nat.le_refl _)
  by_cases h0 : r = 0
  · subst h0
    obtain rfl : r1 = 0 := by omega
    exact ⟨0, a1, by omega, h1⟩
  · obtain ⟨r2, b1, b2, b3⟩ := nearest_ge k s (m := M * 2 ^ T) (r := r) (e := k.format.leastPlace) h0 (by omega) (by rw [z, h1]; exact Nat.le_refl _)
    have hlt := inf_lt k
    have e1 := (word_mod k.format s (show r1 < k.format.signWeight by omega)).1
    have e2 := (word_mod k.format s (show r2 < k.format.signWeight by omega)).1
    have : r1 = r2 := by rw [← e1, a1.symm.trans b1, e2]
    obtain rfl : r1 = r := by omega
    exact ⟨r1, a1, by omega, h1⟩
theorem sv_word (k : FloatKind) (s : Bool) {r : Nat} (h : r < k.format.infRung) : fin k (k.format.word s r) = true ∧ sv k (k.format.word s r) = if s then -((rv k.format r : Nat) : Int) else ((rv k.format r : Nat) : Int) := by
  obtain ⟨M, T, h1, h2⟩ := read_sgn k s h
  refine ⟨by unfold fin; rw [h1], ?_⟩
  unfold sv
  rw [h1, h2]
  simp only []
  rw [signed_eq, show (k.format.leastPlace + (T : Int) - k.format.leastPlace).toNat = T by omega]
/-- A rounded whole number of last places. -/
theorem rnd_err (k : FloatKind) {v : Int} {T : Nat} (ht : (T + 2) * k.format.binade < k.format.infRung) (h : v.natAbs ≤ 2 * k.format.binade * 2 ^ T) : fin k (rnd k v) = true ∧ (sv k (rnd k v) - v).natAbs ≤ 2 ^ T := by
  have z : (k.format.leastPlace - k.format.leastPlace).toNat = 0 := by omega
  obtain ⟨r, h1, h2, h3, h4⟩ := nearest_err k (decide (v < 0)) (m := v.natAbs) (e := k.format.leastPlace) ht (by rw [z]; simpa using h)
  rw [z] at h3 h4
  simp only [Nat.pow_zero, Nat.mul_one] at h3 h4
  unfold rnd
  rw [h1]
  obtain ⟨f1, f2⟩ := sv_word k (decide (v < 0)) h2
  refine ⟨f1, ?_⟩
  rw [f2]
  by_cases hv : v < 0
  · rw [decide_eq_true hv]; simp only [if_true]; omega
  · rw [decide_eq_false hv]; simp only [Bool.false_eq_true, if_false]; omega
theorem rnd_ex (k : FloatKind) {u : Int} {T : Nat} (ht : (T + 2) * k.format.binade < k.format.infRung) (h : u.natAbs ≤ 2 * k.format.binade) : fin k (rnd k (u * 2 ^ T)) = true ∧ sv k (rnd k (u * 2 ^ T)) = u * 2 ^ T := by
  have hp : (0 : Int) < 2 ^ T := Int.pow_pos (by decide)
  have e : (u * 2 ^ T).natAbs = u.natAbs * 2 ^ T := by rw [Int.natAbs_mul, Int.natAbs_pow]; rfl
  unfold rnd
  rw [e]
  obtain ⟨r, h1, h2, h3⟩ := nearest_exact k (decide (u * 2 ^ T < 0)) ht h
  rw [h1]
  obtain ⟨f1, f2⟩ := sv_word k (decide (u * 2 ^ T < 0)) h2
  refine ⟨f1, ?_⟩
  rw [f2, h3, ← e]
  by_cases hv : u * 2 ^ T < 0
  · rw [decide_eq_true hv]; simp only [if_true]; omega
  · rw [decide_eq_false hv]; simp only [Bool.false_eq_true, if_false]; omega
theorem sv_zero_write (k : FloatKind) (s : Bool) (e : Int) : fin k (k.format.nearest s 0 e) = true ∧ sv k (k.format.nearest s 0 e) = 0 := by
  have e0 : k.format.nearest s 0 e = k.format.nearest s (0 * 2 ^ 0) k.format.leastPlace := by rw [near_zero]
  rw [e0]
  obtain ⟨r, h1, h2, h3⟩ := nearest_exact k s (M := 0) (T := 0) (by cases k <;> decide) (by omega)
  rw [h1]
  obtain ⟨f1, f2⟩ := sv_word k s h2
  refine ⟨f1, ?_⟩
  rw [f2, h3]; cases s <;> simp
/-- A sum that is nothing. -/
theorem fadd_none {k : FloatKind} {x y : Nat} (hx : fin k x = true) (hy : fin k y = true) (h : sv k x + sv k y = 0) : fin k (fadd k x y) = true ∧ sv k (fadd k x y) = 0 := by
  obtain ⟨s, m, i, h1⟩ := fin_num hx
  obtain ⟨t, n, j, h2⟩ := fin_num hy
  have p1 := read_place h1
  have p2 := read_place h2
  have e : sv k x + sv k y = (Ieee.signed s m (i - min i j).toNat + Ieee.signed t n (j - min i j).toNat) * 2 ^ (min i j - k.format.leastPlace).toNat := by
    unfold sv; rw [h1, h2]; exact sv_sum p1 p2
  rw [e] at h
  have ha : Ieee.signed s m (i - min i j).toNat + Ieee.signed t n (j - min i j).toNat = 0 := by
    have hp : (0 : Int) < 2 ^ (min i j - k.format.leastPlace).toNat := Int.pow_pos (by decide)
    rcases Int.mul_eq_zero.1 h with h | h
    · exact h
    · omega
  unfold fadd Ieee.Format.add
  rw [h1, h2]
  simp only [Ieee.Datum.sum]
  rw [if_pos ha]
  simp only [Option.map_some, Option.getD_some, Ieee.Format.write, ha, Int.natAbs_zero]
  exact sv_zero_write k _ _
theorem add_err {k : FloatKind} {x y T : Nat} (hx : fin k x = true) (hy : fin k y = true) (ht : (T + 2) * k.format.binade < k.format.infRung) (h : (sv k x + sv k y).natAbs ≤ 2 * k.format.binade * 2 ^ T) :
    fin k (fadd k x y) = true ∧ (sv k (fadd k x y) - (sv k x + sv k y)).natAbs ≤ 2 ^ T := by
  by_cases h0 : sv k x + sv k y = 0
  · obtain ⟨h1, h2⟩ := fadd_none hx hy h0
    exact ⟨h1, by rw [h2, h0]; exact Nat.zero_le _⟩
  · rw [fadd_val hx hy h0]; exact rnd_err k ht h
theorem add_exact {k : FloatKind} {x y T : Nat} {u : Int} (hx : fin k x = true) (hy : fin k y = true) (ht : (T + 2) * k.format.binade < k.format.infRung) (hu : sv k x + sv k y = u * 2 ^ T) (h : u.natAbs ≤ 2 * k.format.binade) :
    fin k (fadd k x y) = true ∧ sv k (fadd k x y) = sv k x + sv k y := by
  by_cases h0 : sv k x + sv k y = 0
  · obtain ⟨h1, h2⟩ := fadd_none hx hy h0
    exact ⟨h1, by rw [h2, h0]⟩
  · rw [fadd_val hx hy h0, hu]; exact rnd_ex k ht h
theorem sub_add {k : FloatKind} {x y : Nat} (hy : fin k y = true) : fsub k x y = fadd k x (fneg k y) := fsub_neg (fin_nn hy)
theorem sub_err {k : FloatKind} {x y T : Nat} (hx : fin k x = true) (hy : fin k y = true) (ht : (T + 2) * k.format.binade < k.format.infRung) (h : (sv k x - sv k y).natAbs ≤ 2 * k.format.binade * 2 ^ T) :
    fin k (fsub k x y) = true ∧ (sv k (fsub k x y) - (sv k x - sv k y)).natAbs ≤ 2 ^ T := by
  rw [sub_add hy]
  have e : sv k x - sv k y = sv k x + sv k (fneg k y) := by rw [sv_neg hy]; omega
  rw [e] at h ⊢
  exact add_err hx (fin_neg hy) ht h
theorem sub_exact {k : FloatKind} {x y T : Nat} {u : Int} (hx : fin k x = true) (hy : fin k y = true) (ht : (T + 2) * k.format.binade < k.format.infRung) (hu : sv k x - sv k y = u * 2 ^ T) (h : u.natAbs ≤ 2 * k.format.binade) :
    fin k (fsub k x y) = true ∧ sv k (fsub k x y) = sv k x - sv k y := by
  rw [sub_add hy]
  have e : sv k x - sv k y = sv k x + sv k (fneg k y) := by rw [sv_neg hy]; omega
  rw [e] at hu ⊢
  exact add_exact hx (fin_neg hy) ht hu h
/-! ### quotients -/
theorem quot_near {m n d : Nat} (hn : n ≠ 0) : (2 * (m <<< d / n) + (m <<< d % n != 0).toNat) * n ≤ 2 * (m * 2 ^ d) + n ∧ 2 * (m * 2 ^ d) ≤ (2 * (m <<< d / n) + (m <<< d % n != 0).toNat) * n + n := by
  rw [Nat.shiftLeft_eq]
  generalize m * 2 ^ d = D
  have h1 := Nat.div_add_mod D n
  have h2 := Nat.mod_lt D (Nat.pos_of_ne_zero hn)
  have e : (2 * (D / n) + (D % n != 0).toNat) * n = 2 * (n * (D / n)) + (D % n != 0).toNat * n := by rw [Nat.add_mul, Nat.mul_assoc, Nat.mul_comm (D / n)]
  rw [e]
  by_cases hr : D % n = 0
  · rw [hr] at h1 ⊢; simp; omega
  · have : (D % n != 0) = true := by simpa using hr
    rw [this]; simp; omega
theorem quot_big {f m n d : Nat} (hm : m ≠ 0) (hn : n ≠ 0) (hl : m.log2 ≤ f + 2 + n.log2) (hd : f + 2 + n.log2 - m.log2 = d) : 2 ^ (f + 2) ≤ 2 * (m <<< d / n) + (m <<< d % n != 0).toNat := by
  have h1 : 2 ^ m.log2 ≤ m := Nat.log2_self_le hm
  have h2 : n < 2 ^ (n.log2 + 1) := Nat.lt_log2_self
  have h3 : 2 ^ (f + 1) ≤ m <<< d / n := by
    rw [Nat.le_div_iff_mul_le (Nat.pos_of_ne_zero hn), Nat.shiftLeft_eq]
    calc 2 ^ (f + 1) * n ≤ 2 ^ (f + 1) * 2 ^ (n.log2 + 1) := Nat.mul_le_mul_left _ (Nat.le_of_lt h2)
      _ = 2 ^ m.log2 * 2 ^ d := by rw [← Nat.pow_add, ← Nat.pow_add]; congr 1; omega
      _ ≤ m * 2 ^ d := Nat.mul_le_mul_right _ h1
  have : 2 ^ (f + 2) = 2 * 2 ^ (f + 1) := by rw [Nat.pow_succ 2 (f + 1)]; omega
  omega
theorem div_err {k : FloatKind} {x y T : Nat} (hx : fin k x = true) (hy : fin k y = true) (h0 : sv k y ≠ 0) (ht : (T + 2) * k.format.binade < k.format.infRung)
    (h : (sv k x).natAbs * 2 ^ (lp k) ≤ k.format.binade * 2 ^ T * (sv k y).natAbs) :
    fin k (fdiv k x y) = true ∧ (sv k (fdiv k x y) * sv k y - sv k x * 2 ^ (lp k)).natAbs ≤ 2 * 2 ^ T * (sv k y).natAbs := by
  obtain ⟨s, m, i, r1⟩ := fin_num hx
  obtain ⟨t, n, j, r2⟩ := fin_num hy
  obtain ⟨p, rfl, hmn, hm2, _⟩ := read_rung r1
  obtain ⟨q, rfl, hnn, hn2, _⟩ := read_rung r2
  have sx : sv k x = Ieee.signed s m p := by unfold sv; rw [r1]; simp only []; rw [show (k.format.leastPlace + (p : Int) - k.format.leastPlace).toNat = p by omega]
  have sy : sv k y = Ieee.signed t n q := by unfold sv; rw [r2]; simp only []; rw [show (k.format.leastPlace + (q : Int) - k.format.leastPlace).toNat = q by omega]
  have ax : (sv k x).natAbs = m * 2 ^ p := by rw [sx, signed_natAbs, Nat.shiftLeft_eq]
  have ay : (sv k y).natAbs = n * 2 ^ q := by rw [sy, signed_natAbs, Nat.shiftLeft_eq]
  have hn : n ≠ 0 := by rintro rfl; rw [sy, signed_zero.2 rfl] at h0; exact h0 rfl
  have hlp : k.format.leastPlace = -((lp k : Nat) : Int) := by cases k <;> rfl
  generalize hd : k.format.fractionBits + 2 + n.log2 - m.log2 = d
  have hq := quot_near (m := m) (n := n) (d := d) hn
  have hbig : m ≠ 0 → 4 * k.format.binade ≤ 2 * (m <<< d / n) + (m <<< d % n != 0).toNat := fun hm => by
    have hb : k.format.binade = 2 ^ k.format.fractionBits := rfl
    have hml : m.log2 ≤ k.format.fractionBits := by
      have : m.log2 < k.format.fractionBits + 1 := (Nat.log2_lt hm).2 (by rw [Nat.pow_succ, ← hb]; omega)
      omega
    have := quot_big (f := k.format.fractionBits) hm hn (by omega) hd
    rw [Nat.pow_add, ← hb] at this
    omega
  have hz : m = 0 → 2 * (m <<< d / n) + (m <<< d % n != 0).toNat = 0 := fun hm => by subst hm; simp [Nat.shiftLeft_eq]
  rw [fdiv_num r1 r2 hn hd]
  generalize 2 * (m <<< d / n) + (m <<< d % n != 0).toNat = Z at *
  rw [ax, ay] at h
  have e0 : (k.format.leastPlace + (p : Int) - (k.format.leastPlace + (q : Int)) - (d : Int) - 1) = (p : Int) - q - d - 1 := by omega
  rw [e0]
  obtain ⟨α, hα⟩ : ∃ α : Nat, ((p : Int) - q - d - 1 - k.format.leastPlace).toNat = α := ⟨_, rfl⟩
  obtain ⟨β, hβ⟩ : ∃ β : Nat, (k.format.leastPlace - ((p : Int) - q - d - 1)).toNat = β := ⟨_, rfl⟩
  have hab : d + 1 + q + α = p + lp k + β := by omega
  have hA := Nat.two_pow_pos α
  have hB := Nat.two_pow_pos β
  have hQ := Nat.two_pow_pos q
  -- the quotient's last place is small
  have X : m * 2 ^ p * 2 ^ lp k * 2 ^ β = m * 2 ^ d * 2 * 2 ^ q * 2 ^ α := by
    rw [Nat.mul_assoc, Nat.mul_assoc, ← Nat.pow_add, ← Nat.pow_add, Nat.mul_assoc (m * 2 ^ d), Nat.mul_assoc (m * 2 ^ d), Nat.mul_assoc m, show (2 : Nat) * 2 ^ q = 2 ^ (q + 1) by rw [Nat.pow_succ]; omega, ← Nat.pow_add, ← Nat.pow_add]
    congr 2; omega
  have h2 : Z * 2 ^ α * (n * 2 ^ q) ≤ m * 2 ^ p * 2 ^ lp k * 2 ^ β + 2 ^ α * (n * 2 ^ q) := by
    rw [X]
    calc Z * 2 ^ α * (n * 2 ^ q) = Z * n * (2 ^ q * 2 ^ α) := by simp only [Nat.mul_assoc, Nat.mul_comm, Nat.mul_left_comm]
      _ ≤ (2 * (m * 2 ^ d) + n) * (2 ^ q * 2 ^ α) := Nat.mul_le_mul_right _ hq.1
      _ = m * 2 ^ d * 2 * 2 ^ q * 2 ^ α + 2 ^ α * (n * 2 ^ q) := by rw [Nat.add_mul]; simp only [Nat.mul_assoc, Nat.mul_comm, Nat.mul_left_comm]
  have h3 : m * 2 ^ p * 2 ^ lp k * 2 ^ β ≤ Z * 2 ^ α * (n * 2 ^ q) + 2 ^ α * (n * 2 ^ q) := by
    rw [X]
    calc m * 2 ^ d * 2 * 2 ^ q * 2 ^ α = (2 * (m * 2 ^ d)) * (2 ^ q * 2 ^ α) := by simp only [Nat.mul_assoc, Nat.mul_comm, Nat.mul_left_comm]
      _ ≤ (Z * n + n) * (2 ^ q * 2 ^ α) := Nat.mul_le_mul_right _ hq.2
      _ = Z * 2 ^ α * (n * 2 ^ q) + 2 ^ α * (n * 2 ^ q) := by rw [Nat.add_mul]; simp only [Nat.mul_assoc, Nat.mul_comm, Nat.mul_left_comm]
  have hY : 0 < n * 2 ^ q := Nat.mul_pos (Nat.pos_of_ne_zero hn) hQ
  have h4 : Z * 2 ^ α ≤ k.format.binade * 2 ^ T * 2 ^ β + 2 ^ α := by
    have : Z * 2 ^ α * (n * 2 ^ q) ≤ (k.format.binade * 2 ^ T * 2 ^ β + 2 ^ α) * (n * 2 ^ q) := by
      refine Nat.le_trans h2 ?_
      rw [Nat.add_mul]
      refine Nat.add_le_add_right ?_ _
      calc m * 2 ^ p * 2 ^ lp k * 2 ^ β ≤ k.format.binade * 2 ^ T * (n * 2 ^ q) * 2 ^ β := Nat.mul_le_mul_right _ h
        _ = k.format.binade * 2 ^ T * 2 ^ β * (n * 2 ^ q) := by simp only [Nat.mul_assoc, Nat.mul_comm, Nat.mul_left_comm]
    exact Nat.le_of_mul_le_mul_right this hY
  have hbp : 0 < k.format.binade := Nat.two_pow_pos _
  have h5 : m ≠ 0 → 2 ^ α ≤ 2 ^ T * 2 ^ β := fun hm => by
    have hz4 := hbig hm
    have h6 : 4 * k.format.binade * 2 ^ α ≤ k.format.binade * (2 ^ T * 2 ^ β) + 2 ^ α := by
      refine Nat.le_trans (Nat.mul_le_mul_right _ hz4) ?_
      rw [← Nat.mul_assoc]; exact h4
    have h7 : k.format.binade * 2 ^ α ≤ k.format.binade * (2 ^ T * 2 ^ β) := by
      have : 2 ^ α ≤ k.format.binade * 2 ^ α := Nat.le_mul_of_pos_left _ hbp
      have e4 : 4 * k.format.binade * 2 ^ α = 4 * (k.format.binade * 2 ^ α) := Nat.mul_assoc _ _ _
      omega
    exact Nat.le_of_mul_le_mul_left h7 hbp
  have hTB : 2 ^ T * 2 ^ β ≤ k.format.binade * 2 ^ T * 2 ^ β := by rw [Nat.mul_assoc]; exact Nat.le_mul_of_pos_left _ hbp
  obtain ⟨r, g1, g2, g3, g4⟩ := nearest_err k (s ^^ t) (m := Z) (T := T) (e := (p : Int) - q - d - 1) ht (by
    rw [hα, hβ]
    have e2 : 2 * k.format.binade * 2 ^ T * 2 ^ β = k.format.binade * 2 ^ T * 2 ^ β + k.format.binade * 2 ^ T * 2 ^ β := by rw [Nat.mul_assoc, Nat.mul_assoc, Nat.mul_assoc]; omega
    by_cases hm : m = 0
    · rw [hz hm]; omega
    · have := h5 hm; omega)
  rw [hα, hβ] at g3 g4
  rw [g1]
  obtain ⟨f1, f2⟩ := sv_word k (s ^^ t) g2
  refine ⟨f1, ?_⟩
  -- the sizes
  have hsz : rv k.format r * (n * 2 ^ q) ≤ m * 2 ^ p * 2 ^ lp k + 2 * 2 ^ T * (n * 2 ^ q) ∧ m * 2 ^ p * 2 ^ lp k ≤ rv k.format r * (n * 2 ^ q) + 2 * 2 ^ T * (n * 2 ^ q) := by
    have hsmall : m ≠ 0 → 2 ^ α * (n * 2 ^ q) ≤ 2 ^ T * 2 ^ β * (n * 2 ^ q) := fun hm => Nat.mul_le_mul_right _ (h5 hm)
    have a1 := Nat.mul_le_mul_right (n * 2 ^ q) g3
    have a2 := Nat.mul_le_mul_right (n * 2 ^ q) g4
    rw [Nat.add_mul] at a1 a2
    have c1 : rv k.format r * 2 ^ β * (n * 2 ^ q) = rv k.format r * (n * 2 ^ q) * 2 ^ β := by simp only [Nat.mul_assoc, Nat.mul_comm, Nat.mul_left_comm]
    have c2 : 2 ^ T * 2 ^ β * (n * 2 ^ q) = 2 ^ T * (n * 2 ^ q) * 2 ^ β := by simp only [Nat.mul_assoc, Nat.mul_comm, Nat.mul_left_comm]
    by_cases hm : m = 0
    · rw [hz hm, c2] at a1 a2
      rw [c1] at a1
      subst hm
      simp only [Nat.zero_mul, Nat.zero_add] at a1 ⊢
      have := Nat.le_of_mul_le_mul_right a1 hB
      refine ⟨by rw [Nat.mul_assoc]; omega, Nat.zero_le _⟩
    · have a3 := hsmall hm
      rw [c2] at a1 a2 a3
      rw [c1] at a1 a2
      constructor
      · apply Nat.le_of_mul_le_mul_right _ hB
        rw [Nat.add_mul, Nat.mul_assoc 2, Nat.mul_assoc 2]; omega
      · apply Nat.le_of_mul_le_mul_right _ hB
        rw [Nat.add_mul, Nat.mul_assoc 2, Nat.mul_assoc 2]; omega
  rw [ay, f2, sx, sy, signed_eq, signed_eq]
  have hc : ((2 : Int) ^ lp k) = ((2 ^ lp k : Nat) : Int) := by simp
  rw [hc]
  generalize m * 2 ^ p = X1 at *
  generalize n * 2 ^ q = Y1 at *
  generalize rv k.format r = R at *
  generalize (2 : Nat) ^ lp k = L at *
  have hRY : ((R * Y1 : Nat) : Int) = (R : Int) * (Y1 : Int) := by simp
  have hXL : ((X1 * L : Nat) : Int) = (X1 : Int) * (L : Int) := by simp
  generalize 2 * 2 ^ T * Y1 = E at *
  obtain ⟨z1, z2⟩ := hsz
  cases s <;> cases t <;> simp [Int.neg_mul, Int.mul_neg] <;> rw [← hRY, ← hXL] <;> omega
/-! ### values -/
def pw (n : Nat) : Int := 2 ^ n
theorem pw_add (m n : Nat) : pw (m + n) = pw m * pw n := Int.pow_add ..
theorem pw_pos (n : Nat) : 0 < pw n := Int.pow_pos (by decide)
theorem pw_nat (n : Nat) : pw n = ((2 ^ n : Nat) : Int) := by unfold pw; simp
/-- A unit: the last place of one, in 32 bits, halved. -/
def wq : Int := pw 1050
/-- The number of a word, of either kind. -/
def vl : FloatKind → Nat → Int
  | .f32, x => sv .f32 x * pw 925
  | .f64, x => sv .f64 x
theorem wq_pos : 0 < wq := pw_pos _
theorem scale_le {v : Int} {p q : Nat} (h1 : -(pw (p + q)) ≤ v * pw q) (h2 : v * pw q ≤ pw (p + q)) : v.natAbs ≤ 2 ^ p := by
  have hq := pw_pos q
  rw [pw_add] at h1 h2
  rw [← Int.neg_mul] at h1
  have a := Int.le_of_mul_le_mul_right h1 hq
  have b := Int.le_of_mul_le_mul_right h2 hq
  rw [pw_nat] at a b
  omega
theorem scale_err {d : Int} {p q : Nat} (h : d.natAbs ≤ 2 ^ p) : -(pw (p + q)) ≤ d * pw q ∧ d * pw q ≤ pw (p + q) := by
  have hq := pw_pos q
  have hp := pw_nat p
  rw [pw_add, ← Int.neg_mul]
  exact ⟨Int.mul_le_mul_of_nonneg_right (by omega) (by omega), Int.mul_le_mul_of_nonneg_right (by omega) (by omega)⟩
theorem top_32 {T : Nat} (h : T ≤ 250) : (T + 2) * FloatKind.f32.format.binade < FloatKind.f32.format.infRung := by show (T + 2) * 8388608 < 2139095040; omega
theorem top_64 {T : Nat} (h : T ≤ 2040) : (T + 2) * FloatKind.f64.format.binade < FloatKind.f64.format.infRung := by show (T + 2) * 4503599627370496 < 9218868437227405312; omega
theorem two_bin (k : FloatKind) (T : Nat) : 2 * k.format.binade * 2 ^ T = 2 ^ (k.format.fractionBits + 1 + T) := by
  have hb : k.format.binade = 2 ^ k.format.fractionBits := rfl
  rw [hb, Nat.pow_add 2 (k.format.fractionBits + 1), Nat.pow_succ, Nat.mul_comm 2]
theorem size_pw {a : Nat} {A : Int} (hA : A = 2 ^ a) : A * 16777216 * wq = pw (a + 1074) ∧ A * wq = pw (a + 1050) := by
  have e : A = pw a := hA
  have e2 : (16777216 : Int) = pw 24 := by decide
  unfold wq
  rw [e, e2, ← pw_add, ← pw_add, ← pw_add]
  exact ⟨congrArg pw (by omega), rfl⟩
theorem vl_neg {k : FloatKind} {x : Nat} (h : fin k x = true) : vl k (fneg k x) = - vl k x := by
  cases k
  · show sv .f32 _ * _ = -(sv .f32 _ * _); rw [sv_neg h, Int.neg_mul]
  · exact sv_neg h
/-- A sum: what is lost. -/
theorem vadd {k : FloatKind} {x y : Nat} (a : Nat) {A : Int} (hA : A = 2 ^ a) (ha : a ≤ 60) (hx : fin k x = true) (hy : fin k y = true) (h1 : -(A * 16777216 * wq) ≤ vl k x + vl k y) (h2 : vl k x + vl k y ≤ A * 16777216 * wq) :
    fin k (fadd k x y) = true ∧ -(A * wq) ≤ vl k (fadd k x y) - (vl k x + vl k y) ∧ vl k (fadd k x y) - (vl k x + vl k y) ≤ A * wq := by
  obtain ⟨e1, e2⟩ := size_pw hA
  rw [e1] at h1 h2
  rw [e2]
  cases k with
  | f32 =>
    simp only [vl] at *
    rw [← Int.add_mul] at h1 h2 ⊢
    have hb := scale_le (p := a + 149) (q := 925) (by rw [show a + 149 + 925 = a + 1074 by omega]; exact h1) (by rw [show a + 149 + 925 = a + 1074 by omega]; exact h2)
    obtain ⟨f1, f2⟩ := add_err (T := a + 125) hx hy (top_32 (by omega)) (by rw [two_bin]; show _ ≤ 2 ^ (23 + 1 + (a + 125)); rw [show 23 + 1 + (a + 125) = a + 149 by omega]; exact hb)
    refine ⟨f1, ?_⟩
    have := scale_err (q := 925) f2
    rw [show a + 125 + 925 = a + 1050 by omega, Int.sub_mul] at this
    exact this
  | f64 =>
    simp only [vl] at *
    have hb : (sv .f64 x + sv .f64 y).natAbs ≤ 2 ^ (a + 1074) := by rw [pw_nat] at h1 h2; omega
    obtain ⟨f1, f2⟩ := add_err (T := a + 1021) hx hy (top_64 (by omega)) (by rw [two_bin]; show _ ≤ 2 ^ (52 + 1 + (a + 1021)); rw [show 52 + 1 + (a + 1021) = a + 1074 by omega]; exact hb)
    refine ⟨f1, ?_⟩
    have h3 : 2 ^ (a + 1021) ≤ 2 ^ (a + 1050) := Nat.pow_le_pow_right (by decide) (by omega)
    rw [pw_nat]
    omega
theorem vsub {k : FloatKind} {x y : Nat} (a : Nat) {A : Int} (hA : A = 2 ^ a) (ha : a ≤ 60) (hx : fin k x = true) (hy : fin k y = true) (h1 : -(A * 16777216 * wq) ≤ vl k x - vl k y) (h2 : vl k x - vl k y ≤ A * 16777216 * wq) :
    fin k (fsub k x y) = true ∧ -(A * wq) ≤ vl k (fsub k x y) - (vl k x - vl k y) ∧ vl k (fsub k x y) - (vl k x - vl k y) ≤ A * wq := by
  rw [sub_add hy]
  have e : vl k x - vl k y = vl k x + vl k (fneg k y) := by rw [vl_neg hy]; omega
  rw [e] at h1 h2 ⊢
  exact vadd a hA ha hx (fin_neg hy) h1 h2
theorem fin_of_nearest (k : FloatKind) {n : Int} (h : n.natAbs ≤ 8388608) : fin k (k.nearest n) = true ∧ sv k (k.nearest n) = n * 2 ^ lp k := by
  have e : k.nearest n = rnd k (n * 2 ^ lp k) := by
    have hp : (0 : Int) < 2 ^ lp k := Int.pow_pos (by decide)
    rw [nearest_write]
    unfold rnd Ieee.Format.write
    simp only []
    rw [nearest_up k _ _ (by cases k <;> decide), Nat.shiftLeft_eq]
    have e1 : decide (n * 2 ^ lp k < 0) = decide (n < 0) := by
      by_cases c : n < 0
      · rw [decide_eq_true c, decide_eq_true (Int.mul_neg_of_neg_of_pos c hp)]
      · rw [decide_eq_false c, decide_eq_false]
        have := Int.mul_nonneg (by omega : 0 ≤ n) (by omega : (0 : Int) ≤ 2 ^ lp k)
        omega
    rw [e1, Int.natAbs_mul]
    congr 2
    rw [Int.natAbs_pow]
    show 2 ^ _ = 2 ^ _
    congr 1
    cases k <;> rfl
  rw [e]
  cases k
  · exact rnd_ex .f32 (top_32 (by decide)) (by show _ ≤ 2 * 8388608; omega)
  · exact rnd_ex .f64 (top_64 (by decide)) (by show _ ≤ 2 * 4503599627370496; omega)
/-- A word of 32 bits, widened, is the same number. -/
theorem vl_wide {x : Nat} (h : fin .f32 x = true) : fin .f64 (fwide x) = true ∧ vl .f64 (fwide x) = vl .f32 x := by
  obtain ⟨s, m, e, hr⟩ := fin_num h
  obtain ⟨q, rfl, h1, h2, h3⟩ := read_rung hr
  have hd : FloatKind.f32.decode x = .number s m (FloatKind.f32.format.leastPlace + q) := hr
  have hw : fwide x = FloatKind.f64.format.nearest s m (FloatKind.f32.format.leastPlace + q) := by unfold fwide; rw [hd]; rfl
  have hq : q ≤ 254 := by
    have h3' : q * 8388608 + m < 2139095040 := h3
    omega
  have h2' : m < 2 * 8388608 := h2
  have el : (FloatKind.f32.format.leastPlace + (q : Int) - FloatKind.f64.format.leastPlace).toNat = q + 925 := by rw [l32, l64]; omega
  rw [hw, nearest_up .f64 s m (by rw [l32, l64]; omega), el, Nat.shiftLeft_eq]
  obtain ⟨r, g1, g2, g3⟩ := nearest_exact .f64 s (M := m) (T := q + 925) (top_64 (by omega)) (by show m ≤ 2 * 4503599627370496; omega)
  rw [g1]
  obtain ⟨f1, f2⟩ := sv_word .f64 s g2
  refine ⟨f1, ?_⟩
  show sv .f64 _ = sv .f32 x * pw 925
  rw [f2, g3]
  unfold sv
  rw [hr]
  simp only []
  rw [signed_eq, show (FloatKind.f32.format.leastPlace + (q : Int) - FloatKind.f32.format.leastPlace).toNat = q by omega, pw_nat, Nat.pow_add, ← Nat.mul_assoc]
  generalize (2 : Nat) ^ 925 = D
  cases s
  · simp
  · simp; rw [Int.neg_mul]
/-- A quotient by a small whole number: what is lost. -/
theorem vdivn {x : Nat} (a : Nat) {A : Int} (hA : A = 2 ^ a) (ha : a ≤ 60) {n : Nat} (hn1 : 1 ≤ n) (hn2 : n ≤ 8388608) (hx : fin .f32 x = true) (h1 : -((n : Int) * (A * 8388608 * wq)) ≤ vl .f32 x) (h2 : vl .f32 x ≤ (n : Int) * (A * 8388608 * wq)) :
    fin .f32 (fdiv .f32 x (FloatKind.nearest .f32 (n : Int))) = true ∧ -((n : Int) * (2 * (A * wq))) ≤ (n : Int) * vl .f32 (fdiv .f32 x (FloatKind.nearest .f32 (n : Int))) - vl .f32 x ∧ (n : Int) * vl .f32 (fdiv .f32 x (FloatKind.nearest .f32 (n : Int))) - vl .f32 x ≤ (n : Int) * (2 * (A * wq)) := by
  obtain ⟨fy, sy⟩ := fin_of_nearest .f32 (n := (n : Int)) (by omega)
  have e24 : A * 8388608 * wq = pw (a + 148) * pw 925 := by
    have e : A = pw a := hA
    have e2 : (8388608 : Int) = pw 23 := by decide
    unfold wq
    rw [e, e2, ← pw_add, ← pw_add, ← pw_add]
  have e1 : A * wq = pw (a + 125) * pw 925 := by rw [(size_pw hA).2, ← pw_add]
  have hp := pw_pos 925
  simp only [vl] at h1 h2 ⊢
  rw [e24, ← Int.mul_assoc] at h1 h2
  rw [← Int.neg_mul] at h1
  have b1 := Int.le_of_mul_le_mul_right h1 hp
  have b2 := Int.le_of_mul_le_mul_right h2 hp
  have e3 : (n : Int) * pw (a + 148) = ((n * 2 ^ (a + 148) : Nat) : Int) := by rw [pw_nat]; simp
  rw [e3] at b1 b2
  have hb : (sv .f32 x).natAbs ≤ n * 2 ^ (a + 148) := by omega
  have hL : 0 < 2 ^ lp .f32 := Nat.two_pow_pos _
  have ay : (sv .f32 (FloatKind.nearest .f32 (n : Int))).natAbs = n * 2 ^ lp .f32 := by rw [sy, Int.natAbs_mul, Int.natAbs_pow]; simp
  have h0 : sv .f32 (FloatKind.nearest .f32 (n : Int)) ≠ 0 := by
    intro e
    rw [e] at ay
    have := Nat.mul_pos (by omega : 0 < n) hL
    simp at ay; omega
  obtain ⟨g1, g2⟩ := div_err (T := a + 125) hx fy h0 (top_32 (by omega)) (by
    rw [ay]
    have e5 : FloatKind.f32.format.binade * 2 ^ (a + 125) = 2 ^ (a + 148) := by show 2 ^ 23 * 2 ^ (a + 125) = _; rw [← Nat.pow_add]; congr 1; omega
    rw [e5, ← Nat.mul_assoc, Nat.mul_comm (2 ^ (a + 148))]
    exact Nat.mul_le_mul_right _ hb)
  refine ⟨g1, ?_⟩
  rw [ay, sy] at g2
  generalize sv .f32 (fdiv .f32 x (FloatKind.nearest .f32 (n : Int))) = z at *
  generalize sv .f32 x = X at *
  have e6 : z * ((n : Int) * 2 ^ lp .f32) - X * 2 ^ lp .f32 = ((n : Int) * z - X) * 2 ^ lp .f32 := by rw [Int.sub_mul, ← Int.mul_assoc, Int.mul_comm z]
  rw [e6, Int.natAbs_mul] at g2
  have e7 : ((2 : Int) ^ lp .f32).natAbs = 2 ^ lp .f32 := by rw [Int.natAbs_pow]; rfl
  rw [e7, ← Nat.mul_assoc] at g2
  have g3 := Nat.le_of_mul_le_mul_right g2 hL
  have e8 : (n : Int) * (2 * (A * wq)) = ((2 * 2 ^ (a + 125) * n : Nat) : Int) * pw 925 := by
    rw [e1, pw_nat (a + 125)]
    simp only [Int.natCast_mul, Int.natCast_pow, Int.mul_assoc, Int.mul_comm, Int.mul_left_comm]
    rfl
  have e9 : (n : Int) * (z * pw 925) - X * pw 925 = ((n : Int) * z - X) * pw 925 := by rw [Int.sub_mul, Int.mul_assoc]
  rw [e8, e9, ← Int.neg_mul]
  exact ⟨Int.mul_le_mul_of_nonneg_right (by omega) (by omega), Int.mul_le_mul_of_nonneg_right (by omega) (by omega)⟩
/-- A product: what is lost. -/
theorem mul_err {k : FloatKind} {x y T : Nat} (hx : fin k x = true) (hy : fin k y = true) (ht : (T + 2) * k.format.binade < k.format.infRung)
    (h : (sv k x).natAbs * (sv k y).natAbs ≤ 2 * k.format.binade * 2 ^ T * 2 ^ (lp k)) :
    fin k (fmul k x y) = true ∧ (sv k (fmul k x y) * 2 ^ (lp k) - sv k x * sv k y).natAbs ≤ 2 ^ T * 2 ^ (lp k) := by
  obtain ⟨s, m, i, r1⟩ := fin_num hx
  obtain ⟨t, n, j, r2⟩ := fin_num hy
  obtain ⟨p, rfl, hmn, hm2, _⟩ := read_rung r1
  obtain ⟨q, rfl, hnn, hn2, _⟩ := read_rung r2
  have sx : sv k x = Ieee.signed s m p := by unfold sv; rw [r1]; simp only []; rw [show (k.format.leastPlace + (p : Int) - k.format.leastPlace).toNat = p by omega]
  have sy : sv k y = Ieee.signed t n q := by unfold sv; rw [r2]; simp only []; rw [show (k.format.leastPlace + (q : Int) - k.format.leastPlace).toNat = q by omega]
  have ax : (sv k x).natAbs = m * 2 ^ p := by rw [sx, signed_natAbs, Nat.shiftLeft_eq]
  have ay : (sv k y).natAbs = n * 2 ^ q := by rw [sy, signed_natAbs, Nat.shiftLeft_eq]
  have hlp : k.format.leastPlace = -((lp k : Nat) : Int) := by cases k <;> rfl
  rw [fmul_num r1 r2]
  rw [ax, ay] at h
  have e0 : (k.format.leastPlace + (p : Int) + (k.format.leastPlace + (q : Int))) = k.format.leastPlace + ((p : Int) + q - lp k) := by omega
  rw [e0]
  obtain ⟨α, hα⟩ : ∃ α : Nat, (k.format.leastPlace + ((p : Int) + q - lp k) - k.format.leastPlace).toNat = α := ⟨_, rfl⟩
  obtain ⟨β, hβ⟩ : ∃ β : Nat, (k.format.leastPlace - (k.format.leastPlace + ((p : Int) + q - lp k))).toNat = β := ⟨_, rfl⟩
  have hab : α + lp k = p + q + β := by omega
  have hL := Nat.two_pow_pos (lp k)
  have hB := Nat.two_pow_pos β
  have X : m * n * 2 ^ α * 2 ^ lp k = m * 2 ^ p * (n * 2 ^ q) * 2 ^ β := by
    rw [Nat.mul_assoc (m * n), ← Nat.pow_add, hab, Nat.pow_add, Nat.pow_add]
    simp only [Nat.mul_assoc, Nat.mul_comm, Nat.mul_left_comm]
  obtain ⟨r, g1, g2, g3, g4⟩ := nearest_err k (s ^^ t) (m := m * n) (T := T) (e := k.format.leastPlace + ((p : Int) + q - lp k)) ht (by
    rw [hα, hβ]
    apply Nat.le_of_mul_le_mul_right _ hL
    rw [X]
    calc m * 2 ^ p * (n * 2 ^ q) * 2 ^ β ≤ 2 * k.format.binade * 2 ^ T * 2 ^ lp k * 2 ^ β := Nat.mul_le_mul_right _ h
      _ = 2 * k.format.binade * 2 ^ T * 2 ^ β * 2 ^ lp k := by simp only [Nat.mul_assoc, Nat.mul_comm, Nat.mul_left_comm])
  rw [hα, hβ] at g3 g4
  rw [g1]
  obtain ⟨f1, f2⟩ := sv_word k (s ^^ t) g2
  refine ⟨f1, ?_⟩
  have hsz : rv k.format r * 2 ^ lp k ≤ m * 2 ^ p * (n * 2 ^ q) + 2 ^ T * 2 ^ lp k ∧ m * 2 ^ p * (n * 2 ^ q) ≤ rv k.format r * 2 ^ lp k + 2 ^ T * 2 ^ lp k := by
    have a1 := Nat.mul_le_mul_right (2 ^ lp k) g3
    have a2 := Nat.mul_le_mul_right (2 ^ lp k) g4
    rw [Nat.add_mul, X] at a1 a2
    have c1 : rv k.format r * 2 ^ β * 2 ^ lp k = rv k.format r * 2 ^ lp k * 2 ^ β := by simp only [Nat.mul_assoc, Nat.mul_comm, Nat.mul_left_comm]
    have c2 : 2 ^ T * 2 ^ β * 2 ^ lp k = 2 ^ T * 2 ^ lp k * 2 ^ β := by simp only [Nat.mul_assoc, Nat.mul_comm, Nat.mul_left_comm]
    rw [c1, c2] at a1
    rw [c1, c2] at a2
    constructor
    · apply Nat.le_of_mul_le_mul_right _ hB
      rw [Nat.add_mul]; exact a1
    · apply Nat.le_of_mul_le_mul_right _ hB
      rw [Nat.add_mul]; exact a2
  rw [f2, sx, sy, signed_eq, signed_eq]
  have hc : ((2 : Int) ^ lp k) = ((2 ^ lp k : Nat) : Int) := by simp
  rw [hc]
  generalize m * 2 ^ p = X1 at *
  generalize n * 2 ^ q = Y1 at *
  generalize rv k.format r = R at *
  generalize (2 : Nat) ^ lp k = L at *
  have hRY : ((R * L : Nat) : Int) = (R : Int) * (L : Int) := by simp
  have hXL : ((X1 * Y1 : Nat) : Int) = (X1 : Int) * (Y1 : Int) := by simp
  generalize 2 ^ T * L = E at *
  obtain ⟨z1, z2⟩ := hsz
  cases s <;> cases t <;> simp [Int.neg_mul, Int.mul_neg] <;> rw [← hRY, ← hXL] <;> omega
/-- A product with a number of quarters. -/
theorem vmulq {x y : Nat} (a : Nat) {A : Int} (hA : A = 2 ^ a) (ha : a ≤ 60) {c : Int} (hx : fin .f32 x = true) (hy : fin .f32 y = true) (hc : sv .f32 y = c * 2 ^ 147) (h1 : -(4 * (A * 16777216 * wq)) ≤ c * vl .f32 x) (h2 : c * vl .f32 x ≤ 4 * (A * 16777216 * wq)) :
    fin .f32 (fmul .f32 x y) = true ∧ -(4 * (A * wq)) ≤ 4 * vl .f32 (fmul .f32 x y) - c * vl .f32 x ∧ 4 * vl .f32 (fmul .f32 x y) - c * vl .f32 x ≤ 4 * (A * wq) := by
  obtain ⟨e1, e2⟩ := size_pw hA
  have e3 : (4 : Int) = pw 2 := by decide
  have hp := pw_pos 925
  have e4 : 4 * (A * 16777216 * wq) = pw (a + 151) * pw 925 := by rw [e1, e3, ← pw_add, ← pw_add]; exact congrArg pw (by omega)
  have e5 : 4 * (A * wq) = pw (a + 127) * pw 925 := by rw [e2, e3, ← pw_add, ← pw_add]; exact congrArg pw (by omega)
  simp only [vl] at h1 h2 ⊢
  rw [e4, ← Int.mul_assoc] at h1 h2
  rw [← Int.neg_mul] at h1
  have b1 := Int.le_of_mul_le_mul_right h1 hp
  have b2 := Int.le_of_mul_le_mul_right h2 hp
  rw [pw_nat] at b1 b2
  have hb : (c * sv .f32 x).natAbs ≤ 2 ^ (a + 151) := by omega
  have hlp : lp .f32 = 149 := rfl
  obtain ⟨f1, f2⟩ := mul_err (T := a + 125) hx hy (top_32 (by omega)) (by
    rw [← Int.natAbs_mul, hc, ← Int.mul_assoc, Int.mul_comm (sv .f32 x), Int.natAbs_mul, Int.natAbs_pow, two_bin, hlp]
    show _ * 2 ^ 147 ≤ 2 ^ (23 + 1 + (a + 125)) * 2 ^ 149
    calc (c * sv .f32 x).natAbs * 2 ^ 147 ≤ 2 ^ (a + 151) * 2 ^ 147 := Nat.mul_le_mul_right _ hb
      _ = 2 ^ (23 + 1 + (a + 125)) * 2 ^ 149 := by rw [← Nat.pow_add, ← Nat.pow_add]; congr 1; omega)
  refine ⟨f1, ?_⟩
  rw [hc, hlp] at f2
  generalize sv .f32 (fmul .f32 x y) = z at *
  generalize sv .f32 x = X at *
  have e6 : z * 2 ^ 149 - X * (c * 2 ^ 147) = (4 * z - c * X) * 2 ^ 147 := by
    have e149 : (2 : Int) ^ 149 = 4 * 2 ^ 147 := by decide
    rw [Int.sub_mul, Int.mul_left_comm X c, e149, Int.mul_left_comm z 4, Int.mul_assoc 4, Int.mul_assoc c]
  rw [e6, Int.natAbs_mul, Int.natAbs_pow] at f2
  have f3 : (4 * z - c * X).natAbs ≤ 2 ^ (a + 127) := by
    have hq : 0 < 2 ^ 147 := Nat.two_pow_pos 147
    apply Nat.le_of_mul_le_mul_right _ hq
    refine Nat.le_trans f2 ?_
    rw [← Nat.pow_add, ← Nat.pow_add]
    exact Nat.pow_le_pow_right (by decide) (by omega)
  rw [e5, ← Int.neg_mul]
  have e7 : 4 * (z * pw 925) - c * (X * pw 925) = (4 * z - c * X) * pw 925 := by rw [Int.sub_mul, Int.mul_assoc, Int.mul_assoc]
  rw [e7, pw_nat (a + 127)]
  exact ⟨Int.mul_le_mul_of_nonneg_right (by omega) (by omega), Int.mul_le_mul_of_nonneg_right (by omega) (by omega)⟩
/-- A quotient of numbers: what is lost. -/
theorem vdiv {x y : Nat} (a : Nat) {A : Int} (hA : A = 2 ^ a) (ha : a ≤ 60) (hx : fin .f32 x = true) (hy : fin .f32 y = true) (hy0 : 0 < vl .f32 y) (hs : -(A * vl .f32 y) ≤ 2 * vl .f32 x) (ht : 2 * vl .f32 x ≤ A * vl .f32 y) :
    fin .f32 (fdiv .f32 x y) = true ∧ -(2 * (A * wq) * vl .f32 y) ≤ vl .f32 (fdiv .f32 x y) * vl .f32 y - vl .f32 x * (16777216 * wq) ∧ vl .f32 (fdiv .f32 x y) * vl .f32 y - vl .f32 x * (16777216 * wq) ≤ 2 * (A * wq) * vl .f32 y := by
  have hp := pw_pos 925
  simp only [vl] at hy0 hs ht ⊢
  have hy1 : 0 < sv .f32 y := by
    rcases Int.lt_trichotomy (sv .f32 y) 0 with h | h | h
    · have := Int.mul_neg_of_neg_of_pos h hp; omega
    · rw [h, Int.zero_mul] at hy0; omega
    · exact h
  rw [← Int.mul_assoc, ← Int.mul_assoc] at hs ht
  rw [← Int.neg_mul] at hs
  have b1 := Int.le_of_mul_le_mul_right hs hp
  have b2 := Int.le_of_mul_le_mul_right ht hp
  have hlp : lp .f32 = 149 := rfl
  have eA : A = ((2 ^ a : Nat) : Int) := by rw [hA]; simp
  have hyn : ((sv .f32 y).natAbs : Int) = sv .f32 y := by omega
  have hxy : 2 * (sv .f32 x).natAbs ≤ 2 ^ a * (sv .f32 y).natAbs := by
    have : (((2 ^ a * (sv .f32 y).natAbs : Nat)) : Int) = A * sv .f32 y := by rw [eA, ← hyn]; simp
    omega
  obtain ⟨f1, f2⟩ := div_err (T := a + 125) hx hy (by omega) (top_32 (by omega)) (by
    rw [hlp]
    have e5 : FloatKind.f32.format.binade * 2 ^ (a + 125) = 2 ^ a * 2 ^ 148 := by show 2 ^ 23 * 2 ^ (a + 125) = _; rw [← Nat.pow_add, ← Nat.pow_add]; congr 1; omega
    rw [e5]
    calc (sv .f32 x).natAbs * 2 ^ 149 = 2 * (sv .f32 x).natAbs * 2 ^ 148 := by rw [Nat.pow_succ 2 148, Nat.mul_comm 2, Nat.mul_assoc, Nat.mul_comm (2 ^ 148)]
      _ ≤ 2 ^ a * (sv .f32 y).natAbs * 2 ^ 148 := Nat.mul_le_mul_right _ hxy
      _ = 2 ^ a * 2 ^ 148 * (sv .f32 y).natAbs := by simp only [Nat.mul_assoc, Nat.mul_comm, Nat.mul_left_comm])
  refine ⟨f1, ?_⟩
  rw [hlp] at f2
  have e1 : A * wq = pw (a + 125) * pw 925 := by rw [(size_pw hA).2, ← pw_add]
  have e2 : (16777216 : Int) * wq = pw 149 * pw 925 := by
    unfold wq
    rw [show (16777216 : Int) = pw 24 by decide, ← pw_add, ← pw_add]
  rw [e1, e2]
  have f3 : -((2 * 2 ^ (a + 125) * (sv .f32 y).natAbs : Nat) : Int) ≤ sv .f32 (fdiv .f32 x y) * sv .f32 y - sv .f32 x * 2 ^ 149 ∧ sv .f32 (fdiv .f32 x y) * sv .f32 y - sv .f32 x * 2 ^ 149 ≤ ((2 * 2 ^ (a + 125) * (sv .f32 y).natAbs : Nat) : Int) := by omega
  have e3 : ((2 * 2 ^ (a + 125) * (sv .f32 y).natAbs : Nat) : Int) = 2 * pw (a + 125) * sv .f32 y := by rw [pw_nat]; simp only [Int.natCast_mul]; rw [hyn]; rfl
  rw [e3] at f3
  generalize sv .f32 (fdiv .f32 x y) = z at *
  generalize sv .f32 x = X at *
  generalize sv .f32 y = Y at *
  have hD : 0 < pw 925 * pw 925 := Int.mul_pos hp hp
  have g1 : 2 * (pw (a + 125) * pw 925) * (Y * pw 925) = 2 * pw (a + 125) * Y * (pw 925 * pw 925) := by simp only [Int.mul_assoc, Int.mul_comm, Int.mul_left_comm]
  have g2 : z * pw 925 * (Y * pw 925) - X * pw 925 * (pw 149 * pw 925) = (z * Y - X * 2 ^ 149) * (pw 925 * pw 925) := by
    rw [Int.sub_mul]
    have e149 : (2 : Int) ^ 149 = pw 149 := rfl
    rw [e149]
    simp only [Int.mul_assoc, Int.mul_comm, Int.mul_left_comm]
  rw [g1, g2, ← Int.neg_mul]
  exact ⟨Int.mul_le_mul_of_nonneg_right f3.1 (by omega), Int.mul_le_mul_of_nonneg_right f3.2 (by omega)⟩
end Go.Proofs.Ytbnplefohfamnaa.Ai
