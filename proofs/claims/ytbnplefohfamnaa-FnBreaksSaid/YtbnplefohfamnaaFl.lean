/- Words of floats as numbers: what is read and written again, their order, absolute values, small whole numbers. -/
import Derived.Test.YtbnplefohfamnaaAiF
set_option linter.unusedVariables false
set_option linter.unusedSimpArgs false
namespace Go.Proofs.Ytbnplefohfamnaa.Ai
open Go

theorem cut_none (way : Ieee.Toward) (s : Bool) (n : Nat) : way.cut s n 0 = n := by
  unfold Ieee.Toward.cut
  have e : 1 <<< min 0 (n.log2 + 2) = 1 := by simp
  simp only [e, Nat.div_one, Nat.mod_one]
  cases way <;> simp
theorem log2_of {n k : Nat} (h1 : 2 ^ k ≤ n) (h2 : n < 2 ^ (k + 1)) : n.log2 = k := by
  have h0 : n ≠ 0 := by have := Nat.two_pow_pos k; omega
  have a := (Nat.log2_lt h0).2 h2
  have b := (Nat.le_log2 h0).2 h1
  omega
theorem sw_pos (f : Ieee.Format) : 0 < f.signWeight := Nat.two_pow_pos _
theorem word_rung (f : Ieee.Format) {x : Nat} (hx : x < 2 * f.signWeight) : f.word (x / f.signWeight % 2 == 1) (x % f.signWeight) = x := by
  unfold Ieee.Format.word
  have hpos := sw_pos f
  have h2 : x / f.signWeight < 2 := Nat.div_lt_of_lt_mul (by omega)
  have h3 := Nat.div_add_mod x f.signWeight
  have h4 : x / f.signWeight = 0 ∨ x / f.signWeight = 1 := by generalize x / f.signWeight = q at h2; omega
  rcases h4 with h | h
  · rw [h] at h3 ⊢
    simp only [Nat.zero_mod]
    rw [show ((0 : Nat) == 1) = false from rfl]
    simp; omega
  · rw [h] at h3 ⊢
    rw [show ((1 % 2 : Nat) == 1) = true from rfl]
    simp; omega
theorem nearest_small (f : Ieee.Format) (s : Bool) (m : Nat) (h : m < f.binade) (hi : m ≤ f.infRung) : f.nearest s m f.leastPlace = f.word s m := by
  unfold Ieee.Format.nearest
  by_cases h0 : m = 0
  · rw [if_pos h0, h0]
  · rw [if_neg h0]
    have hl : m.log2 < f.fractionBits := (Nat.log2_lt h0).2 h
    have hlast : max (f.leastPlace + (m.log2 : Int) - (f.fractionBits : Int)) f.leastPlace = f.leastPlace := by omega
    simp only [hlast, Int.sub_self, Int.toNat_zero, Nat.shiftLeft_zero, cut_none, Nat.zero_mul, Nat.zero_add]
    rw [Nat.min_eq_left hi]
theorem nearest_norm (f : Ieee.Format) (s : Bool) (m q : Nat) (h1 : f.binade ≤ m) (h2 : m < 2 * f.binade) (hi : q * f.binade + m ≤ f.infRung) : f.nearest s m (f.leastPlace + q) = f.word s (q * f.binade + m) := by
  have hb : f.binade = 2 ^ f.fractionBits := rfl
  have hbp : 0 < f.binade := Nat.two_pow_pos _
  have hl : m.log2 = f.fractionBits := log2_of (by omega) (by rw [Nat.pow_succ]; omega)
  unfold Ieee.Format.nearest
  rw [if_neg (by omega)]
  have hlast : max (f.leastPlace + (q : Int) + (m.log2 : Int) - (f.fractionBits : Int)) f.leastPlace = f.leastPlace + q := by omega
  have e1 : (f.leastPlace + (q : Int) - (f.leastPlace + q)).toNat = 0 := by omega
  have e2 : (f.leastPlace + (q : Int) - f.leastPlace).toNat = q := by omega
  simp only [hlast, e1, e2, Nat.shiftLeft_zero, cut_none]
  rw [Nat.min_eq_left hi]
theorem bin_le_inf (k : FloatKind) : k.format.binade ≤ k.format.infRung := by cases k <;> decide
/-- What is read and written again. -/
theorem write_read (k : FloatKind) {x : Nat} (hx : x < 2 * k.format.signWeight) (hn : (k.format.read x).isNaN = false) : k.format.write (k.format.read x) = x := by
  have hw := word_rung k.format hx
  have hbi := bin_le_inf k
  have hbp : 0 < k.format.binade := Nat.two_pow_pos _
  generalize k.format = f at *
  revert hn
  unfold Ieee.Format.read
  simp only []
  generalize hr : x % f.signWeight = r at *
  generalize hs : (x / f.signWeight % 2 == 1) = s at *
  split
  · rename_i h
    intro _
    show f.nearest s r f.leastPlace = x
    rw [nearest_small f s r h (by omega)]; exact hw
  · split
    · rename_i h1 h2
      intro _
      show f.nearest s (f.binade + r % f.binade) (f.leastPlace + ((r / f.binade - 1 : Nat) : Int)) = x
      have hm := Nat.mod_lt r hbp
      have hd := Nat.div_add_mod r f.binade
      have hq : 1 ≤ r / f.binade := Nat.div_pos (by omega) hbp
      have key : (r / f.binade - 1) * f.binade + (f.binade + r % f.binade) = r := by
        obtain ⟨q, hq'⟩ : ∃ q, r / f.binade = q + 1 := ⟨r / f.binade - 1, by omega⟩
        rw [hq'] at hd ⊢
        have : f.binade * (q + 1) = q * f.binade + f.binade := by rw [Nat.mul_add, Nat.mul_comm, Nat.mul_one]
        have e : q + 1 - 1 = q := rfl
        rw [e]; omega
      rw [nearest_norm f s _ _ (by omega) (by omega) (by rw [key]; omega), key]; exact hw
    · split
      · rename_i h
        intro _
        show f.word s f.infRung = x
        rw [← h]; exact hw
      · intro hn; cases hn
theorem w32_lt {x : Nat} (h : x < 2 ^ 32) : x < 2 * FloatKind.f32.format.signWeight := h
theorem w64_lt {x : Nat} (h : x < 2 ^ 64) : x < 2 * FloatKind.f64.format.signWeight := h
theorem write_lt32 (d : Ieee.Datum) : FloatKind.f32.format.write d < 2 ^ 32 := FloatKind.f32.format.write_lt d
theorem write_lt64 (d : Ieee.Datum) : FloatKind.f64.format.write d < 2 ^ 64 := FloatKind.f64.format.write_lt d
def wd (k : FloatKind) : Nat := 2 * k.format.signWeight
theorem write_wd (k : FloatKind) (d : Ieee.Datum) : k.format.write d < wd k := by
  have := k.format.write_lt d
  cases k <;> exact this
theorem qnan_wd (k : FloatKind) : qnan k < wd k := by cases k <;> decide
/-- A word, as the machine keeps it: in its width, one NaN. -/
def Wd (k : FloatKind) (x : Nat) : Prop := x < wd k ∧ cn k x = x
theorem Wd.write (k : FloatKind) {d : Ieee.Datum} (h : d.isNaN = false) : Wd k (k.format.write d) := ⟨write_wd k d, cn_encode k h⟩
theorem Wd.nan (k : FloatKind) : Wd k (qnan k) := ⟨qnan_wd k, cn_qnan k⟩
theorem Wd.opt {k : FloatKind} {o : Option Ieee.Datum} (h : ∀ d, o = some d → d.isNaN = false) : Wd k ((o.map k.format.write).getD (qnan k)) := by
  cases o with
  | none => exact Wd.nan k
  | some d => exact Wd.write k (h d rfl)
theorem Wd.add (k : FloatKind) (x y : Nat) : Wd k (fadd k x y) := Wd.opt fun d h => sound_sum.not_nan _ _ _ h
theorem Wd.sub (k : FloatKind) (x y : Nat) : Wd k (fsub k x y) := Wd.opt fun d h => sound_sum.not_nan _ _ _ h
theorem Wd.mul (k : FloatKind) (x y : Nat) : Wd k (fmul k x y) := Wd.opt fun d h => sound_product.not_nan _ _ _ h
theorem Wd.div (k : FloatKind) (x y : Nat) : Wd k (fdiv k x y) := Wd.opt fun d h => (sound_quotient _).not_nan _ _ _ h

/-- Whether a word is a finite number. -/
def fin (k : FloatKind) (x : Nat) : Bool := match k.format.read x with
  | .number _ _ _ => true
  | _ => false
/-- The number, in units of the format's last place. -/
def sv (k : FloatKind) (x : Nat) : Int := match k.format.read x with
  | .number s m e => Ieee.signed s m (e - k.format.leastPlace).toNat
  | _ => 0
theorem fin_num {k : FloatKind} {x : Nat} (h : fin k x = true) : ∃ s m e, k.format.read x = .number s m e := by
  unfold fin at h
  split at h
  · exact ⟨_, _, _, by assumption⟩
  · cases h
theorem read_place {f : Ieee.Format} {x : Nat} {s : Bool} {m : Nat} {e : Int} (h : f.read x = .number s m e) : f.leastPlace ≤ e := by
  unfold Ieee.Format.read at h
  simp only [] at h
  split at h
  · cases h; omega
  · split at h
    · cases h; omega
    · split at h <;> cases h
theorem signed_shift (s : Bool) (m a b : Nat) : Ieee.signed s m (a + b) = Ieee.signed s m a * 2 ^ b := by
  unfold Ieee.signed
  have : m <<< (a + b) = m <<< a * 2 ^ b := by rw [Nat.shiftLeft_add, Nat.shiftLeft_eq (m <<< a)]
  cases s
  · simp [this]
  · simp [this, Int.neg_mul]
theorem cmp_mul (a b : Int) (n : Nat) : compare (a * 2 ^ n) (b * 2 ^ n) = compare a b := by
  have hp : (0 : Int) < 2 ^ n := Int.pow_pos (by decide)
  simp only [compare, compareOfLessAndEq]
  have h1 : a * 2 ^ n < b * 2 ^ n ↔ a < b := Int.mul_lt_mul_right hp
  have h2 : a * 2 ^ n = b * 2 ^ n ↔ a = b := ⟨fun h => Int.eq_of_mul_eq_mul_right (by omega) h, fun h => by rw [h]⟩
  by_cases c1 : a < b
  · rw [if_pos c1, if_pos (h1.2 c1)]
  · rw [if_neg c1, if_neg (fun h => c1 (h1.1 h))]
    by_cases c2 : a = b
    · rw [if_pos c2, if_pos (h2.2 c2)]
    · rw [if_neg c2, if_neg (fun h => c2 (h2.1 h))]
theorem order_fin {k : FloatKind} {x y : Nat} (hx : fin k x = true) (hy : fin k y = true) : k.format.order x y = some (compare (sv k x) (sv k y)) := by
  obtain ⟨s, m, i, h1⟩ := fin_num hx
  obtain ⟨t, n, j, h2⟩ := fin_num hy
  have p1 := read_place h1
  have p2 := read_place h2
  unfold Ieee.Format.order sv
  rw [h1, h2]
  simp only [Ieee.Datum.order]
  have e1 : (i - k.format.leastPlace).toNat = (i - min i j).toNat + (min i j - k.format.leastPlace).toNat := by omega
  have e2 : (j - k.format.leastPlace).toNat = (j - min i j).toNat + (min i j - k.format.leastPlace).toNat := by omega
  rw [e1, e2, signed_shift, signed_shift, cmp_mul]
theorem cmp_lt {a b : Int} : (compare a b == Ordering.lt) = decide (a < b) := by
  simp only [compare, compareOfLessAndEq]
  by_cases c1 : a < b
  · rw [if_pos c1, decide_eq_true c1]; rfl
  · rw [if_neg c1, decide_eq_false c1]
    split <;> rfl
theorem cmp_eq {a b : Int} : (compare a b == Ordering.eq) = decide (a = b) := by
  simp only [compare, compareOfLessAndEq]
  by_cases c1 : a < b
  · rw [if_pos c1, decide_eq_false (by omega)]; rfl
  · rw [if_neg c1]
    by_cases c2 : a = b
    · rw [if_pos c2, decide_eq_true c2]; rfl
    · rw [if_neg c2, decide_eq_false c2]; rfl
theorem some_beq {a b : Ordering} : (some a == some b) = (a == b) := rfl
theorem flt_fin {k : FloatKind} {x y : Nat} (hx : fin k x = true) (hy : fin k y = true) : flt k x y = decide (sv k x < sv k y) := by
  unfold flt; rw [order_fin hx hy, some_beq, cmp_lt]
theorem feq_fin {k : FloatKind} {x y : Nat} (hx : fin k x = true) (hy : fin k y = true) : feq k x y = decide (sv k x = sv k y) := by
  unfold feq; rw [order_fin hx hy, some_beq, cmp_eq]
theorem fle_fin {k : FloatKind} {x y : Nat} (hx : fin k x = true) (hy : fin k y = true) : fle k x y = decide (sv k x ≤ sv k y) := by
  unfold fle; rw [order_fin hx hy, some_beq, some_beq, cmp_lt, cmp_eq]
  by_cases c1 : sv k x < sv k y
  · rw [decide_eq_true c1, decide_eq_true (by omega : sv k x ≤ sv k y)]; rfl
  · rw [decide_eq_false c1, Bool.false_or]
    by_cases c2 : sv k x = sv k y
    · rw [decide_eq_true c2, decide_eq_true (by omega : sv k x ≤ sv k y)]
    · rw [decide_eq_false c2, decide_eq_false (by omega : ¬ sv k x ≤ sv k y)]

/-- What is asked by 'x - x == 0'. -/
theorem fin_asked {k : FloatKind} (x : Nat) : feq k (fsub k x x) 0 = fin k x := by
  have hz : k.format.order 0 0 = some .eq := by cases k <;> decide +kernel
  have hw : k.format.word false 0 = 0 := by cases k <;> rfl
  have hq : k.format.order (qnan k) 0 = none := by cases k <;> decide +kernel
  unfold fsub Ieee.Format.sub fin
  cases h : k.format.read x with
  | number s m e =>
    simp only [Ieee.Datum.opposite, Ieee.Datum.sum]
    have t : Ieee.signed s m (e - min e e).toNat + Ieee.signed (!s) m (e - min e e).toNat = 0 := by
      unfold Ieee.signed; cases s <;> simp <;> omega
    rw [t]
    simp only [if_true, Int.natAbs_zero, Option.map_some, Option.getD_some, Ieee.Format.write, Ieee.Format.nearest]
    rw [show (s && !s) = false by cases s <;> rfl, hw]
    unfold feq; rw [hz]; rfl
  | infinity s =>
    simp only [Ieee.Datum.opposite, Ieee.Datum.sum]
    rw [if_neg (by cases s <;> simp)]
    show feq k (qnan k) 0 = false
    unfold feq; rw [hq]; rfl
  | nan s t =>
    show feq k (qnan k) 0 = false
    unfold feq; rw [hq]; rfl

theorem order_nan1 {k : FloatKind} {x : Nat} (h : (k.format.read x).isNaN = true) (y : Nat) : k.format.order x y = none := by
  obtain ⟨s, t, e⟩ := isNaN_spec _ h
  unfold Ieee.Format.order; rw [e, order_nan_left]
theorem order_nan2 {k : FloatKind} {y : Nat} (h : (k.format.read y).isNaN = true) (x : Nat) : k.format.order x y = none := by
  obtain ⟨s, t, e⟩ := isNaN_spec _ h
  unfold Ieee.Format.order; rw [e, order_nan_right]
theorem flt_nan1 {k : FloatKind} {x : Nat} (h : (k.format.read x).isNaN = true) (y : Nat) : flt k x y = false := by unfold flt; rw [order_nan1 h]; rfl
theorem flt_nan2 {k : FloatKind} {y : Nat} (h : (k.format.read y).isNaN = true) (x : Nat) : flt k x y = false := by unfold flt; rw [order_nan2 h]; rfl
theorem fle_nan1 {k : FloatKind} {x : Nat} (h : (k.format.read x).isNaN = true) (y : Nat) : fle k x y = false := by unfold fle; rw [order_nan1 h]; rfl
theorem fle_nan2 {k : FloatKind} {y : Nat} (h : (k.format.read y).isNaN = true) (x : Nat) : fle k x y = false := by unfold fle; rw [order_nan2 h]; rfl
theorem feq_nan1 {k : FloatKind} {x : Nat} (h : (k.format.read x).isNaN = true) (y : Nat) : feq k x y = false := by unfold feq; rw [order_nan1 h]; rfl
theorem feq_nan2 {k : FloatKind} {y : Nat} (h : (k.format.read y).isNaN = true) (x : Nat) : feq k x y = false := by unfold feq; rw [order_nan2 h]; rfl

/-- The three kinds of words. -/
theorem Wd.cases {k : FloatKind} {x : Nat} (h : Wd k x) : fin k x = true ∨ x = k.format.word false k.format.infRung ∨ x = k.format.word true k.format.infRung ∨ x = qnan k := by
  cases hr : k.format.read x with
  | number s m e => left; unfold fin; rw [hr]
  | infinity s =>
    have := write_read k h.1 (by rw [hr]; rfl)
    rw [hr] at this
    cases s
    · exact .inr (.inl this.symm)
    · exact .inr (.inr (.inl this.symm))
  | nan s t =>
    right; right; right
    have : cn k x = qnan k := cn_of_nan (by show (k.format.read x).isNaN = true; rw [hr]; rfl)
    rw [← h.2]; exact this

/-! ### shifts -/
theorem log2_shift {m : Nat} (h : m ≠ 0) (n : Nat) : (m <<< n).log2 = m.log2 + n := by
  refine log2_of ?_ ?_
  · rw [Nat.shiftLeft_eq, Nat.pow_add]; exact Nat.mul_le_mul_right _ (Nat.log2_self_le h)
  · rw [Nat.shiftLeft_eq, show m.log2 + n + 1 = (m.log2 + 1) + n by omega, Nat.pow_add]
    exact Nat.mul_lt_mul_of_pos_right Nat.lt_log2_self (Nat.two_pow_pos _)
/-- A cut of what is shifted. -/
theorem cut_shift (s : Bool) (m d n : Nat) (h0 : m ≠ 0) : Ieee.Toward.even.cut s (m <<< n) (d + n) = Ieee.Toward.even.cut s m d := by
  unfold Ieee.Toward.cut
  rw [log2_shift h0]
  have hmin : min (d + n) (m.log2 + n + 2) = min d (m.log2 + 2) + n := by omega
  rw [hmin]
  generalize min d (m.log2 + 2) = g
  have e1 : 1 <<< (g + n) = 1 <<< g * 2 ^ n := by rw [Nat.shiftLeft_add, Nat.shiftLeft_eq (1 <<< g)]
  have hp := Nat.two_pow_pos n
  rw [e1, Nat.shiftLeft_eq m]
  generalize 1 <<< g = G
  simp only []
  rw [Nat.mul_div_mul_right _ _ hp, Nat.mul_mod_mul_right]
  have l1 : decide (G * 2 ^ n < 2 * (m % G * 2 ^ n)) = decide (G < 2 * (m % G)) := by
    rw [← Nat.mul_assoc]
    have : G * 2 ^ n < 2 * (m % G) * 2 ^ n ↔ G < 2 * (m % G) := Nat.mul_lt_mul_right hp
    by_cases c : G < 2 * (m % G)
    · rw [decide_eq_true c, decide_eq_true (this.2 c)]
    · rw [decide_eq_false c, decide_eq_false (fun h => c (this.1 h))]
  have l2 : (G * 2 ^ n == 2 * (m % G * 2 ^ n)) = (G == 2 * (m % G)) := by
    rw [← Nat.mul_assoc]
    by_cases c : G = 2 * (m % G)
    · rw [← c]; simp
    · have : ¬ G * 2 ^ n = 2 * (m % G) * 2 ^ n := fun h => c (Nat.eq_of_mul_eq_mul_right hp h)
      rw [beq_eq_false_iff_ne.2 c, beq_eq_false_iff_ne.2 this]
  rw [l1, l2]
theorem nearest_shift (f : Ieee.Format) (s : Bool) (m n : Nat) (e : Int) : f.nearest s (m <<< n) e = f.nearest s m (e + n) := by
  by_cases h0 : m = 0
  · subst h0; unfold Ieee.Format.nearest; simp
  have h1 : m <<< n ≠ 0 := by rw [Nat.shiftLeft_eq]; have := Nat.two_pow_pos n; exact Nat.mul_ne_zero h0 (by omega)
  unfold Ieee.Format.nearest
  rw [if_neg h0, if_neg h1, log2_shift h0]
  have el : e + ((m.log2 + n : Nat) : Int) - f.fractionBits = e + n + (m.log2 : Int) - f.fractionBits := by omega
  rw [el]
  generalize max (e + (n : Int) + (m.log2 : Int) - f.fractionBits) f.leastPlace = last
  simp only []
  by_cases hc : e + n ≤ last
  · have d1 : (e - last).toNat = 0 := by omega
    have d2 : (e + n - last).toNat = 0 := by omega
    have d3 : (last - e).toNat = (last - (e + n)).toNat + n := by omega
    rw [d1, d2, d3, Nat.shiftLeft_zero, Nat.shiftLeft_zero, cut_shift s m _ n h0]
  · by_cases hc2 : e ≤ last
    · have d1 : (e - last).toNat = 0 := by omega
      have d2 : (last - (e + n)).toNat = 0 := by omega
      have d3 : n = (e + n - last).toNat + (last - e).toNat := by omega
      rw [d1, d2, Nat.shiftLeft_zero, cut_none]
      conv => lhs; rw [d3, Nat.shiftLeft_add]
      have h2 : m <<< (e + n - last).toNat ≠ 0 := by rw [Nat.shiftLeft_eq]; have := Nat.two_pow_pos (e + n - last).toNat; exact Nat.mul_ne_zero h0 (by omega)
      have := cut_shift s (m <<< (e + n - last).toNat) 0 (last - e).toNat h2
      rw [Nat.zero_add] at this
      rw [this, cut_none]
    · have d1 : (last - e).toNat = 0 := by omega
      have d2 : (last - (e + n)).toNat = 0 := by omega
      have d3 : (e + n - last).toNat = n + (e - last).toNat := by omega
      rw [d1, d2, d3, cut_none, cut_none, Nat.shiftLeft_add]

/-! ### the sign -/
theorem sw_pow (k : FloatKind) : ∃ n, k.format.signWeight = 2 ^ n ∧ Op.negFloat k = fun b => b ^^^ 2 ^ n := by
  cases k
  · exact ⟨31, rfl, rfl⟩
  · exact ⟨63, rfl, rfl⟩
theorem xor_top (b n : Nat) : (b ^^^ 2 ^ n) / 2 ^ n % 2 = 1 - b / 2 ^ n % 2 := by
  have h := Nat.testBit_xor b (2 ^ n) n
  rw [Nat.testBit_two_pow_self] at h
  have e : ∀ x : Nat, x.testBit n = decide (x / 2 ^ n % 2 = 1) := fun x => by rw [Nat.testBit_eq_decide_div_mod_eq]
  rw [e, e] at h
  have m1 := Nat.mod_two_eq_zero_or_one ((b ^^^ 2 ^ n) / 2 ^ n)
  have m2 := Nat.mod_two_eq_zero_or_one (b / 2 ^ n)
  rcases m1 with h1 | h1 <;> rcases m2 with h2 | h2 <;> simp [h1, h2] at h ⊢
theorem read_neg (k : FloatKind) (x : Nat) : k.format.read (Op.negFloat k x) = (k.format.read x).opposite := by
  obtain ⟨n, h1, h2⟩ := sw_pow k
  rw [h2]
  unfold Ieee.Format.read
  rw [h1]
  simp only []
  rw [xor_mod, xor_top]
  have hs : (1 - x / 2 ^ n % 2 == 1) = !(x / 2 ^ n % 2 == 1) := by
    rcases Nat.mod_two_eq_zero_or_one (x / 2 ^ n) with h | h <;> rw [h] <;> rfl
  rw [hs]
  split
  · rfl
  · split
    · rfl
    · split <;> rfl
theorem neg_wd (k : FloatKind) {x : Nat} (h : x < wd k) : Op.negFloat k x < wd k := by
  cases k
  · exact Nat.xor_lt_two_pow (n := 32) h (by decide)
  · exact Nat.xor_lt_two_pow (n := 64) h (by decide)
theorem fneg_write {k : FloatKind} {x : Nat} (h : x < wd k) (hn : (k.format.read x).isNaN = false) : fneg k x = k.format.write (k.format.read x).opposite := by
  unfold fneg
  rw [show (k.decode x).isNaN = false from hn]
  have hn2 : (k.format.read (Op.negFloat k x)).isNaN = false := by rw [read_neg]; cases hr : k.format.read x <;> rw [hr] at hn <;> first | rfl | exact hn
  have := write_read k (neg_wd k h) hn2
  rw [read_neg] at this
  exact this.symm
theorem signed_eq (s : Bool) (m n : Nat) : Ieee.signed s m n = if s then -((m * 2 ^ n : Nat) : Int) else ((m * 2 ^ n : Nat) : Int) := by
  unfold Ieee.signed; rw [Nat.shiftLeft_eq]
theorem signed_natAbs (s : Bool) (m n : Nat) : (Ieee.signed s m n).natAbs = m <<< n := by
  rw [signed_eq, Nat.shiftLeft_eq]
  cases s
  · rw [if_neg (by simp), Int.natAbs_natCast]
  · rw [if_pos rfl, Int.natAbs_neg, Int.natAbs_natCast]
theorem mul_pow_pos {m : Nat} (h : m ≠ 0) (n : Nat) : 0 < m * 2 ^ n := Nat.mul_pos (by omega) (Nat.two_pow_pos n)
theorem signed_neg {m n : Nat} (h : m ≠ 0) (s : Bool) : (decide (Ieee.signed s m n < 0)) = s := by
  have h1 := mul_pow_pos h n
  rw [signed_eq]
  generalize m * 2 ^ n = q at *
  cases s
  · rw [if_neg (by simp)]; exact decide_eq_false (by omega)
  · rw [if_pos rfl]; exact decide_eq_true (by omega)
theorem signed_zero {m n : Nat} {s : Bool} : Ieee.signed s m n = 0 ↔ m = 0 := by
  constructor
  · intro h
    apply Classical.byContradiction
    intro hm
    have h1 := mul_pow_pos hm n
    rw [signed_eq] at h
    generalize m * 2 ^ n = q at *
    cases s
    · rw [if_neg (by simp)] at h; omega
    · rw [if_pos rfl] at h; omega
  · intro h
    subst h
    rw [signed_eq, Nat.zero_mul]
    cases s <;> rfl
theorem read_zero (k : FloatKind) : k.format.read 0 = .number false 0 k.format.leastPlace := by cases k <;> decide +kernel
theorem fin_zero (k : FloatKind) : fin k 0 = true := by unfold fin; rw [read_zero]
theorem sv_zero (k : FloatKind) : sv k 0 = 0 := by unfold sv; rw [read_zero]; simp [Ieee.signed]
/-- Zero less a number. -/
theorem zero_sub {k : FloatKind} {x : Nat} (h : x < wd k) (hf : fin k x = true) (h0 : sv k x ≠ 0) : fsub k 0 x = fneg k x := by
  obtain ⟨s, m, e, hr⟩ := fin_num hf
  have hp := read_place hr
  have hm : m ≠ 0 := by
    intro hm; apply h0; unfold sv; rw [hr]; exact signed_zero.2 hm
  rw [fneg_write h (by rw [hr]; rfl)]
  unfold fsub Ieee.Format.sub
  rw [read_zero, hr]
  simp only [Ieee.Datum.opposite, Ieee.Datum.sum]
  have hb : min k.format.leastPlace e = k.format.leastPlace := by omega
  rw [hb, Int.sub_self, Int.toNat_zero]
  have hz : Ieee.signed false 0 0 = 0 := rfl
  rw [hz, Int.zero_add, if_neg (fun h => hm (signed_zero.1 h)), signed_natAbs, signed_neg hm]
  simp only [Option.map_some, Option.getD_some, Ieee.Format.write]
  rw [nearest_shift]
  congr 1; omega
theorem zero_of_sv {k : FloatKind} {x : Nat} (h : x < wd k) (hf : fin k x = true) (h0 : sv k x = 0) : x = 0 ∨ x = k.format.signWeight := by
  obtain ⟨s, m, e, hr⟩ := fin_num hf
  have hm : m = 0 := by unfold sv at h0; rw [hr] at h0; exact signed_zero.1 h0
  have hw := write_read k h (by rw [hr]; rfl)
  rw [hr, hm] at hw
  simp only [Ieee.Format.write, Ieee.Format.nearest, if_true, Ieee.Format.word] at hw
  cases s
  · left; simpa using hw.symm
  · right; simpa using hw.symm

/-- The absolute value, told in two ways. -/
theorem size_two {k : FloatKind} {x : Nat} (h : Wd k x) : (bif flt k x 0 then fneg k x else bif feq k x 0 then 0 else x) = (bif fle k x 0 then fsub k 0 x else x) := by
  rcases h.cases with hf | rfl | rfl | rfl
  · rw [flt_fin hf (fin_zero k), feq_fin hf (fin_zero k), fle_fin hf (fin_zero k), sv_zero]
    by_cases c1 : sv k x < 0
    · rw [decide_eq_true c1, decide_eq_true (by omega : sv k x ≤ 0), zero_sub h.1 hf (by omega)]; rfl
    · rw [decide_eq_false c1]
      by_cases c2 : sv k x = 0
      · rw [decide_eq_true c2, decide_eq_true (by omega : sv k x ≤ 0)]
        rcases zero_of_sv h.1 hf c2 with rfl | rfl
        · cases k <;> decide +kernel
        · cases k <;> decide +kernel
      · rw [decide_eq_false c2, decide_eq_false (by omega : ¬ sv k x ≤ 0)]; rfl
  · cases k <;> decide +kernel
  · cases k <;> decide +kernel
  · cases k <;> decide +kernel
theorem feq_self {k : FloatKind} {x : Nat} (h : (k.format.read x).isNaN = false) : feq k x x = true := by
  unfold feq Ieee.Format.order
  cases hr : k.format.read x with
  | number s m e => simp only [Ieee.Datum.order, some_beq, cmp_eq]; simp
  | infinity s => cases s <;> rfl
  | nan s t => rw [hr] at h; cases h
theorem nearest_write (k : FloatKind) (n : Int) : k.nearest n = k.format.write (.number (n < 0) n.natAbs 0) := rfl
theorem feq_nearest (k : FloatKind) (n : Int) : feq k (k.nearest n) (k.nearest n) = true := by
  rw [nearest_write]; exact feq_self (write_not_nan k.format rfl)
theorem Wd.nearest (k : FloatKind) (n : Int) : Wd k (k.nearest n) := by rw [nearest_write]; exact Wd.write k rfl
/-! ### sums and signs -/
theorem xor_word (f : Nat) {r : Nat} (h : r < 2 ^ f) : (2 ^ f + r) ^^^ 2 ^ f = r ∧ r ^^^ 2 ^ f = 2 ^ f + r := by
  have h1 : r ^^^ 2 ^ f = 2 ^ f + r := by
    have := Nat.two_pow_add_eq_or_of_lt h 1
    rw [Nat.mul_one] at this
    rw [this]
    apply Nat.eq_of_testBit_eq
    intro i
    rw [Nat.testBit_xor, Nat.testBit_or]
    by_cases hi : i = f
    · subst hi
      rw [Nat.testBit_two_pow_self, Nat.testBit_lt_two_pow h]; rfl
    · rw [Nat.testBit_two_pow_of_ne (by omega)]; simp
  refine ⟨?_, h1⟩
  rw [← h1, Nat.xor_assoc, Nat.xor_self, Nat.xor_zero]
theorem neg_word (k : FloatKind) (s : Bool) {r : Nat} (h : r < k.format.signWeight) : Op.negFloat k (k.format.word s r) = k.format.word (!s) r := by
  obtain ⟨n, h1, h2⟩ := sw_pow k
  rw [h2]
  unfold Ieee.Format.word
  rw [h1] at h ⊢
  cases s
  · simpa using (xor_word n h).2
  · simpa using (xor_word n h).1
theorem inf_lt (k : FloatKind) : k.format.infRung < k.format.signWeight := k.format.infRung_lt
theorem neg_write {k : FloatKind} {d : Ieee.Datum} (h : d.isNaN = false) : fneg k (k.format.write d) = k.format.write d.opposite := by
  unfold fneg
  rw [show (k.decode (k.format.write d)).isNaN = false from write_not_nan k.format h]
  show Op.negFloat k _ = _
  have hi := inf_lt k
  have hs := sw_pos k.format
  cases d with
  | number s m e =>
    show Op.negFloat k (k.format.nearest s m e) = k.format.nearest (!s) m e
    unfold Ieee.Format.nearest
    by_cases h0 : m = 0
    · rw [if_pos h0, if_pos h0]; exact neg_word k s hs
    · rw [if_neg h0, if_neg h0]
      exact neg_word k s (Nat.lt_of_le_of_lt (Nat.min_le_right _ _) hi)
  | infinity s => exact neg_word k s hi
  | nan s t => cases h
theorem fin_neg {k : FloatKind} {x : Nat} (h : fin k x = true) : fin k (fneg k x) = true := by
  obtain ⟨s, m, e, hr⟩ := fin_num h
  unfold fneg
  rw [show (k.decode x).isNaN = false from by show (k.format.read x).isNaN = false; rw [hr]; rfl]
  show fin k (Op.negFloat k x) = true
  unfold fin; rw [read_neg, hr]; rfl
theorem fin_nn {k : FloatKind} {x : Nat} (h : fin k x = true) : (k.format.read x).isNaN = false := by
  obtain ⟨s, m, e, hr⟩ := fin_num h; rw [hr]; rfl
theorem read_fneg {k : FloatKind} {x : Nat} (h : (k.format.read x).isNaN = false) : k.format.read (fneg k x) = (k.format.read x).opposite := by
  unfold fneg
  rw [show (k.decode x).isNaN = false from h]
  exact read_neg k x
theorem sv_neg {k : FloatKind} {x : Nat} (h : fin k x = true) : sv k (fneg k x) = - sv k x := by
  obtain ⟨s, m, e, hr⟩ := fin_num h
  unfold sv
  rw [read_fneg (fin_nn h), hr]
  show Ieee.signed (!s) m _ = - Ieee.signed s m _
  rw [signed_eq, signed_eq]
  cases s <;> simp
theorem fsub_neg {k : FloatKind} {x y : Nat} (hy : (k.format.read y).isNaN = false) : fsub k x y = fadd k x (fneg k y) := by
  unfold fsub fadd Ieee.Format.sub Ieee.Format.add
  rw [read_fneg hy]
theorem sum_neg {s t : Bool} {m n : Nat} {i j : Int} (h : Ieee.signed s m (i - min i j).toNat + Ieee.signed t n (j - min i j).toNat ≠ 0) :
    Ieee.Datum.sum (.number (!s) m i) (.number (!t) n j) = ((Ieee.Datum.sum (.number s m i) (.number t n j)).map Ieee.Datum.opposite) := by
  have e : ∀ (s : Bool) (m a : Nat), Ieee.signed (!s) m a = - Ieee.signed s m a := by intro s m a; rw [signed_eq, signed_eq]; cases s <;> simp
  simp only [Ieee.Datum.sum, e, Option.map_some, Ieee.Datum.opposite]
  generalize Ieee.signed s m (i - min i j).toNat = a at *
  generalize Ieee.signed t n (j - min i j).toNat = b at *
  rw [if_neg (by omega), if_neg h, show (-a + -b) = -(a + b) by omega, Int.natAbs_neg]
  have : decide (-(a + b) < 0) = !decide (a + b < 0) := by
    by_cases c : a + b < 0
    · rw [decide_eq_true c, decide_eq_false (by omega)]; rfl
    · rw [decide_eq_false c, decide_eq_true (by omega)]; rfl
  rw [this]
theorem sv_sum {k : FloatKind} {s t : Bool} {m n : Nat} {i j : Int} (h1 : k.format.leastPlace ≤ i) (h2 : k.format.leastPlace ≤ j) :
    Ieee.signed s m (i - k.format.leastPlace).toNat + Ieee.signed t n (j - k.format.leastPlace).toNat =
      (Ieee.signed s m (i - min i j).toNat + Ieee.signed t n (j - min i j).toNat) * 2 ^ (min i j - k.format.leastPlace).toNat := by
  have e1 : (i - k.format.leastPlace).toNat = (i - min i j).toNat + (min i j - k.format.leastPlace).toNat := by omega
  have e2 : (j - k.format.leastPlace).toNat = (j - min i j).toNat + (min i j - k.format.leastPlace).toNat := by omega
  rw [e1, e2, signed_shift, signed_shift, ← Int.add_mul]
/-- The sum of two negated numbers. -/
theorem fadd_negs {k : FloatKind} {x y : Nat} (hx : fin k x = true) (hy : fin k y = true) (h : sv k x + sv k y ≠ 0) : fadd k (fneg k x) (fneg k y) = fneg k (fadd k x y) := by
  obtain ⟨s, m, i, h1⟩ := fin_num hx
  obtain ⟨t, n, j, h2⟩ := fin_num hy
  unfold sv at h
  rw [h1, h2] at h
  simp only [] at h
  rw [sv_sum (read_place h1) (read_place h2)] at h
  have hne : Ieee.signed s m (i - min i j).toNat + Ieee.signed t n (j - min i j).toNat ≠ 0 := fun e => h (by rw [e, Int.zero_mul])
  unfold fadd Ieee.Format.add
  rw [read_fneg (fin_nn hx), read_fneg (fin_nn hy), h1, h2]
  show ((Ieee.Datum.sum (.number (!s) m i) (.number (!t) n j)).map _).getD _ = fneg k (((Ieee.Datum.sum (.number s m i) (.number t n j)).map _).getD _)
  rw [sum_neg hne]
  simp only [Ieee.Datum.sum, Option.map_some, Option.getD_some]
  exact (neg_write rfl).symm
theorem fneg_fneg {k : FloatKind} {x : Nat} (h : Wd k x) : fneg k (fneg k x) = x := by
  by_cases hn : (k.format.read x).isNaN = true
  · have : x = qnan k := by rw [← h.2]; exact cn_of_nan hn
    rw [this]; cases k <;> decide +kernel
  · have hn : (k.format.read x).isNaN = false := by simpa using hn
    have w := write_read k h.1 hn
    have hn2 : (k.format.read x).opposite.isNaN = false := by
      cases hr : k.format.read x with
      | nan s t => rw [hr] at hn; cases hn
      | number s m e => rfl
      | infinity s => rfl
    have e : fneg k x = k.format.write (k.format.read x).opposite := fneg_write h.1 hn
    rw [e, neg_write hn2]
    have : (k.format.read x).opposite.opposite = k.format.read x := by cases k.format.read x <;> simp [Ieee.Datum.opposite]
    rw [this]; exact w
theorem Wd.neg {k : FloatKind} {x : Nat} (h : Wd k x) : Wd k (fneg k x) := by
  by_cases hn : (k.format.read x).isNaN = true
  · have : x = qnan k := by rw [← h.2]; exact cn_of_nan hn
    rw [this]
    have : fneg k (qnan k) = qnan k := by cases k <;> decide +kernel
    rw [this]; exact Wd.nan k
  · have hn : (k.format.read x).isNaN = false := by simpa using hn
    rw [fneg_write h.1 hn]
    refine Wd.write k ?_
    cases hr : k.format.read x with
    | nan s t => rw [hr] at hn; cases hn
    | number s m e => rfl
    | infinity s => rfl
/-! ### what is finite, what is no NaN, what has no sign -/
def nn (k : FloatKind) (x : Nat) : Prop := (k.format.read x).isNaN = false
theorem nn_fin {k : FloatKind} {x : Nat} (h : fin k x = true) : nn k x := fin_nn h
theorem fin_qnan (k : FloatKind) : fin k (qnan k) = false := by cases k <;> decide +kernel
theorem fin_inf {k : FloatKind} {x : Nat} {s : Bool} (h : k.format.read x = .infinity s) : fin k x = false := by unfold fin; rw [h]
theorem read_word (k : FloatKind) (s : Bool) {r : Nat} (h : r ≤ k.format.infRung) : (k.format.read (k.format.word s r)).neg = s ∧ ((k.format.read (k.format.word s r)).isInfinity = true ↔ r = k.format.infRung) ∧ (k.format.read (k.format.word s r)).isNaN = false := by
  refine ⟨?_, ?_, read_word_not_nan _ _ h⟩
  · have hlt := inf_lt k
    have hp := sw_pos k.format
    have e : k.format.word s r % k.format.signWeight = r := by
      unfold Ieee.Format.word
      split
      · rw [Nat.add_mod_left]; exact Nat.mod_eq_of_lt (by omega)
      · exact Nat.mod_eq_of_lt (by omega)
    have e2 : (k.format.word s r / k.format.signWeight % 2 == 1) = s := by
      unfold Ieee.Format.word
      cases s
      · rw [if_neg (by simp), Nat.div_eq_of_lt (by omega)]; rfl
      · rw [if_pos rfl, Nat.add_div_left _ hp, Nat.div_eq_of_lt (by omega)]; rfl
    unfold Ieee.Format.read
    simp only [e, e2]
    split
    · rfl
    · split
      · rfl
      · split <;> rfl
  · have hlt := inf_lt k
    have hb := bin_le_inf k
    have e : k.format.word s r % k.format.signWeight = r := by
      unfold Ieee.Format.word
      split
      · rw [Nat.add_mod_left]; exact Nat.mod_eq_of_lt (by omega)
      · exact Nat.mod_eq_of_lt (by omega)
    unfold Ieee.Format.read
    simp only [e]
    generalize k.format = f at *
    have hbp : f.infRung ≠ r → r < f.infRung := by omega
    split
    · simp [Ieee.Datum.isInfinity]; intro h2; omega
    · split
      · simp [Ieee.Datum.isInfinity]; omega
      · split
        · simp [Ieee.Datum.isInfinity]; assumption
        · simp [Ieee.Datum.isInfinity]; omega
theorem write_neg (k : FloatKind) {d : Ieee.Datum} (h : d.isNaN = false) : (k.format.read (k.format.write d)).neg = d.neg := by
  cases d with
  | number s m e =>
    show (k.format.read (k.format.nearest s m e)).neg = s
    unfold Ieee.Format.nearest
    split
    · exact (read_word k s (Nat.zero_le _)).1
    · exact (read_word k s (Nat.min_le_right _ _)).1
  | infinity s => exact (read_word k s (Nat.le_refl _)).1
  | nan s t => cases h
theorem fin_write_inf (k : FloatKind) (s : Bool) : fin k (k.format.write (.infinity s)) = false := by
  have := (read_word k s (Nat.le_refl k.format.infRung)).2.1.2 rfl
  unfold fin
  show (match k.format.read (k.format.word s k.format.infRung) with | .number _ _ _ => true | _ => false) = false
  cases h : k.format.read (k.format.word s k.format.infRung) with
  | number a b c => rw [h] at this; cases this
  | infinity a => rfl
  | nan a b => rfl
theorem fin_of_add {k : FloatKind} {x y : Nat} (h : fin k (fadd k x y) = true) : fin k x = true ∧ fin k y = true := by
  unfold fadd Ieee.Format.add at h
  cases h1 : k.format.read x <;> cases h2 : k.format.read y <;> rw [h1, h2] at h <;> simp only [Ieee.Datum.sum, Option.map_none, Option.getD_none, Option.map_some, Option.getD_some, fin_qnan, fin_write_inf] at h
  all_goals first | (cases h; done) | skip
  · constructor
    · unfold fin; rw [h1]
    · unfold fin; rw [h2]
  · split at h <;> simp [fin_qnan, fin_write_inf] at h
theorem fin_of_sub {k : FloatKind} {x y : Nat} (h : fin k (fsub k x y) = true) : fin k x = true ∧ fin k y = true := by
  unfold fsub Ieee.Format.sub at h
  cases h1 : k.format.read x <;> cases h2 : k.format.read y <;> rw [h1, h2] at h <;> simp only [Ieee.Datum.opposite, Ieee.Datum.sum, Option.map_none, Option.getD_none, Option.map_some, Option.getD_some, fin_qnan, fin_write_inf] at h
  all_goals first | (cases h; done) | skip
  · constructor
    · unfold fin; rw [h1]
    · unfold fin; rw [h2]
  · split at h <;> simp [fin_qnan, fin_write_inf] at h
theorem fin_of_mul {k : FloatKind} {x y : Nat} (h : fin k (fmul k x y) = true) : fin k x = true ∧ fin k y = true := by
  unfold fmul Ieee.Format.mul at h
  cases h1 : k.format.read x <;> cases h2 : k.format.read y <;> rw [h1, h2] at h <;> simp only [Ieee.Datum.product, Option.map_none, Option.getD_none, Option.map_some, Option.getD_some, fin_qnan, fin_write_inf] at h
  all_goals first | (cases h; done) | skip
  · constructor
    · unfold fin; rw [h1]
    · unfold fin; rw [h2]
  · split at h <;> simp [fin_qnan, fin_write_inf] at h
  · split at h <;> simp [fin_qnan, fin_write_inf] at h
theorem nn_some {k : FloatKind} {o : Option Ieee.Datum} {d : Ieee.Datum} (h : o = some d) (hd : d.isNaN = false) : nn k ((o.map k.format.write).getD (qnan k)) := by
  rw [h]; exact write_not_nan k.format hd
theorem nn_add_fin {k : FloatKind} {x y : Nat} (hx : nn k x) (hy : fin k y = true) : nn k (fadd k x y) := by
  obtain ⟨t, n, j, h2⟩ := fin_num hy
  unfold nn at hx
  cases h1 : k.format.read x with
  | number s m i => exact nn_some (d := _) (by rw [h1, h2]; rfl) rfl
  | infinity s => exact nn_some (d := _) (by rw [h1, h2]; rfl) rfl
  | nan s t => rw [h1] at hx; cases hx
theorem nn_sub_fin {k : FloatKind} {x y : Nat} (hx : nn k x) (hy : fin k y = true) : nn k (fsub k x y) := by
  obtain ⟨t, n, j, h2⟩ := fin_num hy
  unfold nn at hx
  cases h1 : k.format.read x with
  | number s m i => exact nn_some (d := _) (by rw [h1, h2]; rfl) rfl
  | infinity s => exact nn_some (d := _) (by rw [h1, h2]; rfl) rfl
  | nan s t => rw [h1] at hx; cases hx
theorem sv_mag {k : FloatKind} {x : Nat} {s : Bool} {m : Nat} {e : Int} (h : k.format.read x = .number s m e) : sv k x = 0 ↔ m = 0 := by
  unfold sv; rw [h]; exact signed_zero
theorem nn_div_fin {k : FloatKind} {x y : Nat} (hx : nn k x) (hy : fin k y = true) (h0 : sv k y ≠ 0) : nn k (fdiv k x y) := by
  obtain ⟨t, n, j, h2⟩ := fin_num hy
  have hn : n ≠ 0 := fun e => h0 ((sv_mag h2).2 e)
  unfold nn at hx
  cases h1 : k.format.read x with
  | number s m i => exact nn_some (d := _) (by rw [h1, h2]; simp only [Ieee.Datum.quotient]; rw [if_neg hn]) rfl
  | infinity s => exact nn_some (d := _) (by rw [h1, h2]; rfl) rfl
  | nan s t => rw [h1] at hx; cases hx
/-- A weighed square is no NaN. -/
theorem nn_sq {k : FloatKind} {c a : Nat} (hc : fin k c = true) (h0 : sv k c ≠ 0) (ha : nn k a) : nn k (fmul k (fmul k c a) a) := by
  obtain ⟨t, n, j, h2⟩ := fin_num hc
  have hn : n ≠ 0 := fun e => h0 ((sv_mag h2).2 e)
  unfold nn at ha
  cases h1 : k.format.read a with
  | number s m i =>
    have e1 : fmul k c a = k.format.nearest (t ^^ s) (n * m) (j + i) := by unfold fmul Ieee.Format.mul; rw [h1, h2]; rfl
    by_cases hm : m = 0
    · have e2 : k.format.nearest (t ^^ s) (n * m) (j + i) = k.format.word (t ^^ s) 0 := by rw [hm, Nat.mul_zero]; rfl
      have r := read_word k (t ^^ s) (Nat.zero_le k.format.infRung)
      rw [e1, e2]
      cases h3 : k.format.read (k.format.word (t ^^ s) 0) with
      | number a b c => exact nn_some (d := _) (by rw [h3, h1]; rfl) rfl
      | infinity a =>
        have := r.2.1.1 (by rw [h3]; rfl)
        have hb := bin_le_inf k
        have hbp : 0 < k.format.binade := Nat.two_pow_pos _
        omega
      | nan a b => have := r.2.2; rw [h3] at this; cases this
    · have r := write_not_nan k.format (d := .number (t ^^ s) (n * m) (j + i)) rfl
      rw [e1]
      cases h3 : k.format.read (k.format.nearest (t ^^ s) (n * m) (j + i)) with
      | number a b c => exact nn_some (d := _) (by rw [h3, h1]; rfl) rfl
      | infinity a => exact nn_some (d := _) (by rw [h3, h1]; simp only [Ieee.Datum.product]; rw [if_neg hm]) rfl
      | nan a b => have r' : (k.format.read (k.format.nearest (t ^^ s) (n * m) (j + i))).isNaN = false := r; rw [h3] at r'; cases r'
  | infinity s =>
    have e1 : fmul k c a = k.format.write (.infinity (s ^^ t)) := by unfold fmul Ieee.Format.mul; rw [h1, h2]; simp only [Ieee.Datum.product]; rw [if_neg hn]; rfl
    have r := (read_word k (s ^^ t) (Nat.le_refl k.format.infRung)).2
    rw [e1]
    cases h3 : k.format.read (k.format.write (.infinity (s ^^ t))) with
    | number a b c => have := r.1.2 rfl; rw [show k.format.word (s ^^ t) k.format.infRung = k.format.write (.infinity (s ^^ t)) from rfl, h3] at this; cases this
    | infinity a => exact nn_some (d := _) (by rw [h3, h1]; rfl) rfl
    | nan a b => have := r.2; rw [show k.format.word (s ^^ t) k.format.infRung = k.format.write (.infinity (s ^^ t)) from rfl, h3] at this; cases this
  | nan s t => rw [h1] at ha; cases ha
/-- No sign, or a NaN. -/
def un (k : FloatKind) (x : Nat) : Prop := (k.format.read x).isNaN = true ∨ (k.format.read x).neg = false
theorem un_some {k : FloatKind} {o : Option Ieee.Datum} (h : ∀ d, o = some d → d.isNaN = false ∧ d.neg = false) : un k ((o.map k.format.write).getD (qnan k)) := by
  cases o with
  | none => left; exact qnan_nan k
  | some d => right; have := h d rfl; show (k.format.read (k.format.write d)).neg = false; rw [write_neg k this.1]; exact this.2
theorem product_neg {d e r : Ieee.Datum} (h : Ieee.Datum.product d e = some r) : r.neg = (d.neg ^^ e.neg) := by
  cases d <;> cases e <;> simp only [Ieee.Datum.product] at h
  all_goals first | (cases h; done) | (cases h; rfl) | skip
  · rename_i s m i t; split at h
    · cases h
    · cases h; show (t ^^ s) = (s ^^ t); cases s <;> cases t <;> rfl
  · split at h
    · cases h
    · cases h; rfl
theorem un_sq {k : FloatKind} {c a : Nat} (hc : (k.format.read c).neg = false) : un k (fmul k (fmul k c a) a) := by
  unfold fmul Ieee.Format.mul
  refine un_some fun d hd => ⟨sound_product.not_nan _ _ _ hd, ?_⟩
  rw [product_neg hd]
  cases h1 : Ieee.Datum.product (k.format.read c) (k.format.read a) with
  | none =>
    rw [h1] at hd
    obtain ⟨s, t, e⟩ := isNaN_spec _ (qnan_nan k)
    have e' : k.format.read (qnan k) = .nan s t := e
    simp only [Option.map_none, Option.getD_none, e'] at hd
    rw [sound_product.left] at hd; cases hd
  | some r =>
    show ((k.format.read (k.format.write r)).neg ^^ (k.format.read a).neg) = false
    rw [write_neg k (sound_product.not_nan _ _ _ h1), product_neg h1, hc]
    cases (k.format.read a).neg <;> rfl
theorem un_add {k : FloatKind} {x y : Nat} (hx : un k x) (hy : un k y) : un k (fadd k x y) := by
  unfold fadd Ieee.Format.add
  refine un_some fun d hd => ⟨sound_sum.not_nan _ _ _ hd, ?_⟩
  rcases hx with hx | hx
  · obtain ⟨s, t, e⟩ := isNaN_spec _ hx; rw [e, sound_sum.left] at hd; cases hd
  rcases hy with hy | hy
  · obtain ⟨s, t, e⟩ := isNaN_spec _ hy; rw [e, sound_sum.right] at hd; cases hd
  cases h1 : k.format.read x <;> cases h2 : k.format.read y <;> rw [h1, h2] at hd <;> rw [h1] at hx <;> rw [h2] at hy <;> simp only [Ieee.Datum.sum] at hd <;> simp only [Ieee.Datum.neg] at hx hy
  all_goals first | (cases hd; done) | (cases hd; assumption) | skip
  · subst hx; subst hy
    cases hd
    simp only [Ieee.Datum.neg]
    have p1 : ∀ m a, 0 ≤ Ieee.signed false m a := fun m a => by rw [signed_eq, if_neg (by simp)]; omega
    split
    · rfl
    · rename_i m1 i1 m2 i2 _
      have q1 := p1 m1 (i1 - min i1 i2).toNat
      have q2 := p1 m2 (i2 - min i1 i2).toNat
      exact decide_eq_false (by omega)
  · split at hd
    · cases hd; assumption
    · cases hd
/-- A word that is no finite number, no NaN, and has no sign. -/
theorem inf_of {k : FloatKind} {x : Nat} (hw : Wd k x) (hu : un k x) (hn : nn k x) (hf : fin k x = false) : x = k.format.word false k.format.infRung := by
  rcases hw.cases with h | h | h | h
  · rw [h] at hf; cases hf
  · exact h
  · rcases hu with hu | hu
    · unfold nn at hn; rw [hn] at hu; cases hu
    · rw [h, (read_word k true (Nat.le_refl _)).1] at hu; cases hu
  · unfold nn at hn
    rw [h] at hn
    have := qnan_nan k
    rw [show (k.decode (qnan k)) = k.format.read (qnan k) from rfl, hn] at this; cases this
/-- Below infinity, and not above. -/
theorem flt_inf {k : FloatKind} {x : Nat} (h : fin k x = true) : flt k x (k.format.word false k.format.infRung) = true := by
  obtain ⟨s, m, e, hr⟩ := fin_num h
  have hi : ∃ a, k.format.read (k.format.word false k.format.infRung) = .infinity a ∧ a = false := by
    have r := read_word k false (Nat.le_refl k.format.infRung)
    have := r.2.1.2 rfl
    cases h3 : k.format.read (k.format.word false k.format.infRung) with
    | number a b c => rw [h3] at this; cases this
    | infinity a => have := r.1; rw [h3] at this; exact ⟨a, rfl, this⟩
    | nan a b => rw [h3] at this; cases this
  obtain ⟨a, h3, rfl⟩ := hi
  unfold flt Ieee.Format.order
  rw [hr, h3]; rfl
theorem inf_flt (k : FloatKind) (x : Nat) : flt k (k.format.word false k.format.infRung) x = false := by
  have hi : ∃ a, k.format.read (k.format.word false k.format.infRung) = .infinity a ∧ a = false := by
    have r := read_word k false (Nat.le_refl k.format.infRung)
    have := r.2.1.2 rfl
    cases h3 : k.format.read (k.format.word false k.format.infRung) with
    | number a b c => rw [h3] at this; cases this
    | infinity a => have := r.1; rw [h3] at this; exact ⟨a, rfl, this⟩
    | nan a b => rw [h3] at this; cases this
  obtain ⟨a, h3, rfl⟩ := hi
  unfold flt Ieee.Format.order
  rw [h3]
  cases k.format.read x with
  | number s m e => rfl
  | infinity s => cases s <;> rfl
  | nan s t => rfl
/-- Small whole numbers. -/
theorem fin_small : ∀ n : Nat, n < 300 → fin .f32 (FloatKind.nearest .f32 (n : Int)) = true ∧ (FloatKind.f32.format.read (FloatKind.nearest .f32 (n : Int))).neg = false ∧ (sv .f32 (FloatKind.nearest .f32 (n : Int)) = 0 → n = 0) := by decide +kernel
theorem add_one : ∀ n : Nat, n < 300 → fadd .f32 (FloatKind.nearest .f32 (n : Int)) 1065353216 = FloatKind.nearest .f32 ((n + 1 : Nat) : Int) := by decide +kernel
/-! ### exact values -/
/-- The word nearest to a number of last places. -/
def rnd (k : FloatKind) (v : Int) : Nat := k.format.nearest (decide (v < 0)) v.natAbs k.format.leastPlace
theorem signed_mul (s : Bool) (m a b : Nat) : Ieee.signed s m a * 2 ^ b = Ieee.signed s m (a + b) := (signed_shift s m a b).symm
theorem nearest_up (k : FloatKind) (s : Bool) (m : Nat) {e : Int} (h : k.format.leastPlace ≤ e) : k.format.nearest s m e = k.format.nearest s (m <<< (e - k.format.leastPlace).toNat) k.format.leastPlace := by
  rw [nearest_shift]; congr 1; omega
theorem fadd_val {k : FloatKind} {x y : Nat} (hx : fin k x = true) (hy : fin k y = true) (h : sv k x + sv k y ≠ 0) : fadd k x y = rnd k (sv k x + sv k y) := by
  obtain ⟨s, m, i, h1⟩ := fin_num hx
  obtain ⟨t, n, j, h2⟩ := fin_num hy
  have p1 := read_place h1
  have p2 := read_place h2
  have e : sv k x + sv k y = (Ieee.signed s m (i - min i j).toNat + Ieee.signed t n (j - min i j).toNat) * 2 ^ (min i j - k.format.leastPlace).toNat := by
    unfold sv; rw [h1, h2]; exact sv_sum p1 p2
  unfold rnd fadd Ieee.Format.add
  rw [e] at h ⊢
  rw [h1, h2]
  simp only [Ieee.Datum.sum]
  generalize Ieee.signed s m (i - min i j).toNat + Ieee.signed t n (j - min i j).toNat = a at *
  have ha : a ≠ 0 := fun e => h (by rw [e, Int.zero_mul])
  have hp : (0 : Int) < 2 ^ (min i j - k.format.leastPlace).toNat := Int.pow_pos (by decide)
  rw [if_neg ha]
  simp only [Option.map_some, Option.getD_some, Ieee.Format.write]
  rw [nearest_up k _ _ (by omega : k.format.leastPlace ≤ min i j)]
  have e1 : decide (a * 2 ^ (min i j - k.format.leastPlace).toNat < 0) = decide (a < 0) := by
    by_cases c : a < 0
    · rw [decide_eq_true c, decide_eq_true (Int.mul_neg_of_neg_of_pos c hp)]
    · rw [decide_eq_false c, decide_eq_false]
      have := Int.mul_nonneg (by omega : 0 ≤ a) (by omega : (0 : Int) ≤ 2 ^ (min i j - k.format.leastPlace).toNat)
      omega
  rw [e1, Int.natAbs_mul, Nat.shiftLeft_eq]
  congr 2
theorem fsub_val {k : FloatKind} {x y : Nat} (hx : fin k x = true) (hy : fin k y = true) (h : sv k x - sv k y ≠ 0) : fsub k x y = rnd k (sv k x - sv k y) := by
  have e : sv k x - sv k y = sv k x + sv k (fneg k y) := by rw [sv_neg hy]; omega
  rw [fsub_neg (fin_nn hy), e]
  exact fadd_val hx (fin_neg hy) (by omega)
/-- A number that the format has. -/
theorem read_norm (k : FloatKind) (s : Bool) (m q : Nat) (h1 : k.format.binade ≤ m) (h2 : m < 2 * k.format.binade) (hi : q * k.format.binade + m < k.format.infRung) :
    k.format.read (k.format.word s (q * k.format.binade + m)) = .number s m (k.format.leastPlace + q) := by
  have hlt := inf_lt k
  have hp := sw_pos k.format
  have hbp : 0 < k.format.binade := Nat.two_pow_pos _
  generalize k.format = f at *
  generalize hr : q * f.binade + m = r at *
  have e : f.word s r % f.signWeight = r := by
    unfold Ieee.Format.word
    split
    · rw [Nat.add_mod_left]; exact Nat.mod_eq_of_lt (by omega)
    · exact Nat.mod_eq_of_lt (by omega)
  have e2 : (f.word s r / f.signWeight % 2 == 1) = s := by
    unfold Ieee.Format.word
    cases s
    · rw [if_neg (by simp), Nat.div_eq_of_lt (by omega)]; rfl
    · rw [if_pos rfl, Nat.add_div_left _ hp, Nat.div_eq_of_lt (by omega)]; rfl
  have d1 : r / f.binade = q + 1 := by
    rw [← hr]
    obtain ⟨c, hc⟩ : ∃ c, m = f.binade + c := ⟨m - f.binade, by omega⟩
    rw [hc, show q * f.binade + (f.binade + c) = c + f.binade * (q + 1) by rw [Nat.mul_add, Nat.mul_one, Nat.mul_comm f.binade q]; omega, Nat.add_mul_div_left _ _ hbp, Nat.div_eq_of_lt (by omega)]; omega
  have d2 : f.binade + r % f.binade = m := by
    have := Nat.div_add_mod r f.binade
    rw [d1, Nat.mul_add, Nat.mul_one, Nat.mul_comm f.binade q] at this
    omega
  unfold Ieee.Format.read
  simp only [e, e2]
  have hge : f.binade ≤ r := by rw [← hr]; omega
  rw [if_neg (by omega), if_pos hi, d1, d2]
  rfl
theorem sv_norm (k : FloatKind) (s : Bool) (m q : Nat) (h1 : k.format.binade ≤ m) (h2 : m < 2 * k.format.binade) (hi : q * k.format.binade + m < k.format.infRung) :
    fin k (k.format.nearest s m (k.format.leastPlace + q)) = true ∧ sv k (k.format.nearest s m (k.format.leastPlace + q)) = Ieee.signed s m q := by
  rw [nearest_norm _ _ _ _ h1 h2 (by omega)]
  have := read_norm k s m q h1 h2 hi
  unfold fin sv
  rw [this]
  refine ⟨rfl, ?_⟩
  show Ieee.signed s m _ = _
  congr 1; omega
/-- The least place, negated. -/
def lp (k : FloatKind) : Nat := (- k.format.leastPlace).toNat
theorem lp_eq (k : FloatKind) : k.format.leastPlace = - (lp k : Int) := by cases k <;> rfl
theorem nat_exact (k : FloatKind) (s : Bool) {n : Nat} (h0 : n ≠ 0) (h : n < 2 * k.format.binade) : fin k (k.format.nearest s n 0) = true ∧ sv k (k.format.nearest s n 0) = Ieee.signed s n (lp k) := by
  have hb : k.format.binade = 2 ^ k.format.fractionBits := rfl
  have hl : n.log2 ≤ k.format.fractionBits := by
    have := (Nat.log2_lt h0).2 (show n < 2 ^ (k.format.fractionBits + 1) by rw [Nat.pow_succ]; omega)
    omega
  obtain ⟨d, hd⟩ : ∃ d, k.format.fractionBits = n.log2 + d := ⟨k.format.fractionBits - n.log2, by omega⟩
  have big : k.format.fractionBits < lp k ∧ (lp k + 1) * k.format.binade < k.format.infRung := by cases k <;> decide +kernel
  obtain ⟨q, hq⟩ : ∃ q, lp k = q + d := ⟨lp k - d, by omega⟩
  have e : k.format.nearest s n 0 = k.format.nearest s (n <<< d) (k.format.leastPlace + (q : Int)) := by
    rw [nearest_shift, lp_eq]; congr 1; omega
  have m1 : k.format.binade ≤ n <<< d := by
    rw [hb, hd, Nat.shiftLeft_eq, Nat.pow_add]; exact Nat.mul_le_mul_right _ (Nat.log2_self_le h0)
  have m2 : n <<< d < 2 * k.format.binade := by
    have a1 : n < 2 ^ (n.log2 + 1) := Nat.lt_log2_self
    rw [hb, hd, Nat.shiftLeft_eq, Nat.pow_add]
    calc n * 2 ^ d < 2 ^ (n.log2 + 1) * 2 ^ d := Nat.mul_lt_mul_of_pos_right a1 (Nat.two_pow_pos d)
      _ = 2 * (2 ^ n.log2 * 2 ^ d) := by rw [Nat.pow_succ, Nat.mul_comm (2 ^ n.log2) 2, Nat.mul_assoc]
  have m3 : q * k.format.binade + n <<< d < k.format.infRung := by
    have a2 := big.2
    have a3 : (q + 2) * k.format.binade ≤ (lp k + 2) * k.format.binade := Nat.mul_le_mul_right _ (by omega)
    have a4 : (q + 2) * k.format.binade = q * k.format.binade + 2 * k.format.binade := Nat.add_mul _ _ _
    have a5 : (lp k + 2) * k.format.binade ≤ k.format.infRung := by cases k <;> decide +kernel
    omega
  rw [e]
  have := sv_norm k s (n <<< d) q m1 m2 m3
  refine ⟨this.1, this.2.trans ?_⟩
  rw [signed_eq, signed_eq, Nat.shiftLeft_eq, Nat.mul_assoc, ← Nat.pow_add, hq, Nat.add_comm d q]
theorem int_exact (k : FloatKind) {n : Int} (h : n.natAbs < 2 * k.format.binade) : fin k (k.nearest n) = true ∧ sv k (k.nearest n) = n * 2 ^ lp k := by
  rw [nearest_write]
  show fin k (k.format.nearest _ _ _) = true ∧ sv k (k.format.nearest _ _ _) = _
  by_cases h0 : n = 0
  · subst h0
    have e : k.format.nearest (decide ((0 : Int) < 0)) (0 : Int).natAbs 0 = 0 := by cases k <;> decide +kernel
    rw [e]
    exact ⟨fin_zero k, by rw [sv_zero, Int.zero_mul]⟩
  · have := nat_exact k (decide (n < 0)) (show n.natAbs ≠ 0 by omega) h
    refine ⟨this.1, this.2.trans ?_⟩
    rw [signed_eq]
    by_cases c : n < 0
    · rw [if_pos (by simpa using c)]
      have : ((n.natAbs * 2 ^ lp k : Nat) : Int) = (n.natAbs : Int) * 2 ^ lp k := by simp
      rw [this, ← Int.neg_mul, show -(n.natAbs : Int) = n by omega]
    · rw [if_neg (by simpa using c)]
      have : ((n.natAbs * 2 ^ lp k : Nat) : Int) = (n.natAbs : Int) * 2 ^ lp k := by simp
      rw [this, show (n.natAbs : Int) = n by omega]
/-- A whole number, rounded from its value. -/
theorem rnd_int (k : FloatKind) (n : Int) : rnd k (n * 2 ^ lp k) = k.nearest n := by
  have hp : (0 : Int) < 2 ^ lp k := Int.pow_pos (by decide)
  rw [nearest_write]
  unfold rnd
  show _ = k.format.nearest _ _ _
  have e1 : decide (n * 2 ^ lp k < 0) = decide (n < 0) := by
    by_cases c : n < 0
    · rw [decide_eq_true c, decide_eq_true (Int.mul_neg_of_neg_of_pos c hp)]
    · rw [decide_eq_false c, decide_eq_false]
      have := Int.mul_nonneg (by omega : 0 ≤ n) (by omega : (0 : Int) ≤ 2 ^ lp k)
      omega
  rw [e1, nearest_up k _ n.natAbs (by rw [lp_eq]; omega), Int.natAbs_mul, Nat.shiftLeft_eq]
  have e2 : ((0 : Int) - k.format.leastPlace).toNat = lp k := by rw [lp_eq]; omega
  rw [e2]
  congr 2
theorem int_sub {k : FloatKind} {a b : Int} (ha : a.natAbs < 2 * k.format.binade) (hb : b.natAbs < 2 * k.format.binade) (h : a ≠ b) : fsub k (k.nearest a) (k.nearest b) = k.nearest (a - b) := by
  obtain ⟨h1, h2⟩ := int_exact k ha
  obtain ⟨h3, h4⟩ := int_exact k hb
  have hp : (0 : Int) < 2 ^ lp k := Int.pow_pos (by decide)
  have e : sv k (k.nearest a) - sv k (k.nearest b) = (a - b) * 2 ^ lp k := by rw [h2, h4, Int.sub_mul]
  rw [fsub_val h1 h3 (by rw [e]; exact Int.mul_ne_zero (by omega) (by omega)), e, rnd_int]
theorem int_add {k : FloatKind} {a b : Int} (ha : a.natAbs < 2 * k.format.binade) (hb : b.natAbs < 2 * k.format.binade) (h : a + b ≠ 0) : fadd k (k.nearest a) (k.nearest b) = k.nearest (a + b) := by
  obtain ⟨h1, h2⟩ := int_exact k ha
  obtain ⟨h3, h4⟩ := int_exact k hb
  have hp : (0 : Int) < 2 ^ lp k := Int.pow_pos (by decide)
  have e : sv k (k.nearest a) + sv k (k.nearest b) = (a + b) * 2 ^ lp k := by rw [h2, h4, Int.add_mul]
  rw [fadd_val h1 h3 (by rw [e]; exact Int.mul_ne_zero (by omega) (by omega)), e, rnd_int]
theorem int_sub_self : ∀ n : Nat, n < 300 → fsub .f32 (FloatKind.nearest .f32 (n : Int)) (FloatKind.nearest .f32 (n : Int)) = 0 := by decide +kernel
end Go.Proofs.Ytbnplefohfamnaa.Ai
