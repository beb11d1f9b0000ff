/- Words of floats as numbers: what is read and written again, their order, absolute values, small whole numbers. -/
import Derived.Test.YthheoefadijhdaaFFnExactLiftRowsAiA
set_option linter.unusedVariables false
set_option linter.unusedSimpArgs false
namespace Go.Proofs.Ythheoefadijhdaa.Ai
open Go

theorem cut_none (way : Ieee.Toward) (s : Bool) (n : Nat) : way.cut s n 0 = n := by
 unfold Ieee.Toward.cut
 have e : 1 <<< min 0 (n.log2 + 2) = 1 := by simp
 simp only [e, Nat.div_one, Nat.mod_one]
 cases way <;> simp
theorem log2_of {n k : Nat} (h1 : 2 ^ k ≤ n) (h2 : n < 2 ^ (k + 1)) : n.log2 = k := by
 have h0 : n ≠ 0 := by have := Nat.two_pow_pos k; omega
 have a := (Nat.log2_lt h0).2 h2
 have b := (Nat.le_log2 h0).2 h1
 omega
theorem sw_pos (f : Ieee.Format) : 0 < f.signWeight := Nat.two_pow_pos _
theorem word_rung (f : Ieee.Format) {x : Nat} (hx : x < 2 * f.signWeight) : f.word (x / f.signWeight % 2 == 1) (x % f.signWeight) = x := by
 unfold Ieee.Format.word
 have hpos := sw_pos f
 have h2 : x / f.signWeight < 2 := Nat.div_lt_of_lt_mul (by omega)
 have h3 := Nat.div_add_mod x f.signWeight
 have h4 : x / f.signWeight = 0 ∨ x / f.signWeight = 1 := by generalize x / f.signWeight = q at h2; omega
 rcases h4 with h | h
 ·rw [h] at h3 ⊢
  simp only [Nat.zero_mod]
  rw [show ((0 : Nat) == 1) = false from rfl]
  simp; omega
 ·rw [h] at h3 ⊢
  rw [show ((1 % 2 : Nat) == 1) = true from rfl]
  simp; omega
theorem nearest_small (f : Ieee.Format) (s : Bool) (m : Nat) (h : m < f.binade) (hi : m ≤ f.infRung) : f.nearest s m f.leastPlace = f.word s m := by
 unfold Ieee.Format.nearest
 by_cases h0 : m = 0
 ·rw [if_pos h0, h0]
 ·rw [if_neg h0]
  have hl : m.log2 < f.fractionBits := (Nat.log2_lt h0).2 h
  have hlast : max (f.leastPlace + (m.log2 : Int) - (f.fractionBits : Int)) f.leastPlace = f.leastPlace := by omega
  simp only [hlast, Int.sub_self, Int.toNat_zero, Nat.shiftLeft_zero, cut_none, Nat.zero_mul, Nat.zero_add]
  rw [Nat.min_eq_left hi]
theorem nearest_norm (f : Ieee.Format) (s : Bool) (m q : Nat) (h1 : f.binade ≤ m) (h2 : m < 2 * f.binade) (hi : q * f.binade + m ≤ f.infRung) : f.nearest s m (f.leastPlace + q) = f.word s (q * f.binade + m) := by
 have hb : f.binade = 2 ^ f.fractionBits := rfl
 have hbp : 0 < f.binade := Nat.two_pow_pos _
 have hl : m.log2 = f.fractionBits := log2_of (by omega) (by rw [Nat.pow_succ]; omega)
 unfold Ieee.Format.nearest
 rw [if_neg (by omega)]
 have hlast : max (f.leastPlace + (q : Int) + (m.log2 : Int) - (f.fractionBits : Int)) f.leastPlace = f.leastPlace + q := by omega
 have e1 : (f.leastPlace + (q : Int) - (f.leastPlace + q)).toNat = 0 := by omega
 have e2 : (f.leastPlace + (q : Int) - f.leastPlace).toNat = q := by omega
 simp only [hlast, e1, e2, Nat.shiftLeft_zero, cut_none]
 rw [Nat.min_eq_left hi]
theorem bin_le_inf (k : FloatKind) : k.format.binade ≤ k.format.infRung := by cases k <;> decide
theorem write_read (k : FloatKind) {x : Nat} (hx : x < 2 * k.format.signWeight) (hn : (k.format.read x).isNaN = false) : k.format.write (k.format.read x) = x := by
 have hw := word_rung k.format hx
 have hbi := bin_le_inf k
 have hbp : 0 < k.format.binade := Nat.two_pow_pos _
 generalize k.format = f at *
 revert hn
 unfold Ieee.Format.read
 simp only []
 generalize hr : x % f.signWeight = r at *
 generalize hs : (x / f.signWeight % 2 == 1) = s at *
 split
 ·rename_i h
  intro _
  show f.nearest s r f.leastPlace = x
  rw [nearest_small f s r h (by omega)]; exact hw
 ·split
  ·rename_i h1 h2
   intro _
   show f.nearest s (f.binade + r % f.binade) (f.leastPlace + ((r / f.binade - 1 : Nat) : Int)) = x
   have hm := Nat.mod_lt r hbp
   have hd := Nat.div_add_mod r f.binade
   have hq : 1 ≤ r / f.binade := Nat.div_pos (by omega) hbp
   have key : (r / f.binade - 1) * f.binade + (f.binade + r % f.binade) = r := by
    obtain ⟨q, hq'⟩ : ∃ q, r / f.binade = q + 1 := ⟨r / f.binade - 1, by omega⟩
    rw [hq'] at hd ⊢
    have : f.binade * (q + 1) = q * f.binade + f.binade := by rw [Nat.mul_add, Nat.mul_comm, Nat.mul_one]
    have e : q + 1 - 1 = q := rfl
    rw [e]; omega
   rw [nearest_norm f s _ _ (by omega) (by omega) (by rw [key]; omega), key]; exact hw
  ·split
   ·rename_i h
    intro _
    show f.word s f.infRung = x
    rw [← h]; exact hw
   ·intro hn; cases hn
def wd (k : FloatKind) : Nat := 2 * k.format.signWeight
theorem write_wd (k : FloatKind) (d : Ieee.Datum) : k.format.write d < wd k := by
 have := k.format.write_lt d
 cases k <;> exact this
theorem qnan_wd (k : FloatKind) : qnan k < wd k := by cases k <;> decide
def Wd (k : FloatKind) (x : Nat) : Prop := x < wd k ∧ cn k x = x
theorem Wd.write (k : FloatKind) {d : Ieee.Datum} (h : d.isNaN = false) : Wd k (k.format.write d) := ⟨write_wd k d, cn_encode k h⟩
theorem Wd.nan (k : FloatKind) : Wd k (qnan k) := ⟨qnan_wd k, cn_qnan k⟩
theorem Wd.opt {k : FloatKind} {o : Option Ieee.Datum} (h : ∀ d, o = some d → d.isNaN = false) : Wd k ((o.map k.format.write).getD (qnan k)) := by
 cases o with
 | none => exact Wd.nan k
 | some d => exact Wd.write k (h d rfl)
theorem Wd.add (k : FloatKind) (x y : Nat) : Wd k (fadd k x y) := Wd.opt fun d h => sound_sum.not_nan _ _ _ h
theorem Wd.sub (k : FloatKind) (x y : Nat) : Wd k (fsub k x y) := Wd.opt fun d h => sound_sum.not_nan _ _ _ h
theorem Wd.mul (k : FloatKind) (x y : Nat) : Wd k (fmul k x y) := Wd.opt fun d h => sound_product.not_nan _ _ _ h
theorem Wd.div (k : FloatKind) (x y : Nat) : Wd k (fdiv k x y) := Wd.opt fun d h => (sound_quotient _).not_nan _ _ _ h

def fin (k : FloatKind) (x : Nat) : Bool := match k.format.read x with
 | .number _ _ _ => true
 | _ => false
def sv (k : FloatKind) (x : Nat) : Int := match k.format.read x with
 | .number s m e => Ieee.signed s m (e - k.format.leastPlace).toNat
 | _ => 0
theorem cmp_eq {a b : Int} : (compare a b == Ordering.eq) = decide (a = b) := by
 simp only [compare, compareOfLessAndEq]
 by_cases c1 : a < b
 ·rw [if_pos c1, decide_eq_false (by omega)]; rfl
 ·rw [if_neg c1]
  by_cases c2 : a = b
  ·rw [if_pos c2, decide_eq_true c2]; rfl
  ·rw [if_neg c2, decide_eq_false c2]; rfl
theorem some_beq {a b : Ordering} : (some a == some b) = (a == b) := rfl
theorem fin_asked {k : FloatKind} (x : Nat) : feq k (fsub k x x) 0 = fin k x := by
 have hz : k.format.order 0 0 = some .eq := by cases k <;> decide +kernel
 have hw : k.format.word false 0 = 0 := by cases k <;> rfl
 have hq : k.format.order (qnan k) 0 = none := by cases k <;> decide +kernel
 unfold fsub Ieee.Format.sub fin
 cases h : k.format.read x with
 | number s m e =>
  simp only [Ieee.Datum.opposite, Ieee.Datum.sum]
  have t : Ieee.signed s m (e - min e e).toNat + Ieee.signed (!s) m (e - min e e).toNat = 0 := by
   unfold Ieee.signed; cases s <;> simp <;> omega
  rw [t]
  simp only [if_true, Int.natAbs_zero, Option.map_some, Option.getD_some, Ieee.Format.write, Ieee.Format.nearest]
  rw [show (s && !s) = false by cases s <;> rfl, hw]
  unfold feq; rw [hz]; rfl
 | infinity s =>
  simp only [Ieee.Datum.opposite, Ieee.Datum.sum]
  rw [if_neg (by cases s <;> simp)]
  show feq k (qnan k) 0 = false
  unfold feq; rw [hq]; rfl
 | nan s t =>
  show feq k (qnan k) 0 = false
  unfold feq; rw [hq]; rfl

theorem Wd.cases {k : FloatKind} {x : Nat} (h : Wd k x) : fin k x = true ∨ x = k.format.word false k.format.infRung ∨ x = k.format.word true k.format.infRung ∨ x = qnan k := by
 cases hr : k.format.read x with
 | number s m e => left; unfold fin; rw [hr]
 | infinity s =>
  have := write_read k h.1 (by rw [hr]; rfl)
  rw [hr] at this
  cases s
  ·exact .inr (.inl this.symm)
  ·exact .inr (.inr (.inl this.symm))
 | nan s t =>
  right; right; right
  have : cn k x = qnan k := cn_of_nan (by show (k.format.read x).isNaN = true; rw [hr]; rfl)
  rw [← h.2]; exact this

/-! ### shifts -/
/-! ### the sign -/
theorem sw_pow (k : FloatKind) : ∃ n, k.format.signWeight = 2 ^ n ∧ Op.negFloat k = fun b => b ^^^ 2 ^ n := by
 cases k
 ·exact ⟨31, rfl, rfl⟩
 ·exact ⟨63, rfl, rfl⟩
theorem xor_top (b n : Nat) : (b ^^^ 2 ^ n) / 2 ^ n % 2 = 1 - b / 2 ^ n % 2 := by
 have h := Nat.testBit_xor b (2 ^ n) n
 rw [Nat.testBit_two_pow_self] at h
 have e : ∀ x : Nat, x.testBit n = decide (x / 2 ^ n % 2 = 1) := fun x => by rw [Nat.testBit_eq_decide_div_mod_eq]
 rw [e, e] at h
 have m1 := Nat.mod_two_eq_zero_or_one ((b ^^^ 2 ^ n) / 2 ^ n)
 have m2 := Nat.mod_two_eq_zero_or_one (b / 2 ^ n)
 rcases m1 with h1 | h1 <;> rcases m2 with h2 | h2 <;> simp [h1, h2] at h ⊢
theorem read_neg (k : FloatKind) (x : Nat) : k.format.read (Op.negFloat k x) = (k.format.read x).opposite := by
 obtain ⟨n, h1, h2⟩ := sw_pow k
 rw [h2]
 unfold Ieee.Format.read
 rw [h1]
 simp only []
 rw [xor_mod, xor_top]
 have hs : (1 - x / 2 ^ n % 2 == 1) = !(x / 2 ^ n % 2 == 1) := by
  rcases Nat.mod_two_eq_zero_or_one (x / 2 ^ n) with h | h <;> rw [h] <;> rfl
 rw [hs]
 split
 ·rfl
 ·split
  ·rfl
  ·split <;> rfl
theorem neg_wd (k : FloatKind) {x : Nat} (h : x < wd k) : Op.negFloat k x < wd k := by
 cases k
 ·exact Nat.xor_lt_two_pow (n := 32) h (by decide)
 ·exact Nat.xor_lt_two_pow (n := 64) h (by decide)
theorem fneg_write {k : FloatKind} {x : Nat} (h : x < wd k) (hn : (k.format.read x).isNaN = false) : fneg k x = k.format.write (k.format.read x).opposite := by
 unfold fneg
 rw [show (k.decode x).isNaN = false from hn]
 have hn2 : (k.format.read (Op.negFloat k x)).isNaN = false := by rw [read_neg]; cases hr : k.format.read x <;> rw [hr] at hn <;> first | rfl | exact hn
 have := write_read k (neg_wd k h) hn2
 rw [read_neg] at this
 exact this.symm
theorem feq_self {k : FloatKind} {x : Nat} (h : (k.format.read x).isNaN = false) : feq k x x = true := by
 unfold feq Ieee.Format.order
 cases hr : k.format.read x with
 | number s m e => simp only [Ieee.Datum.order, some_beq, cmp_eq]; simp
 | infinity s => cases s <;> rfl
 | nan s t => rw [hr] at h; cases h
theorem nearest_write (k : FloatKind) (n : Int) : k.nearest n = k.format.write (.number (n < 0) n.natAbs 0) := rfl
theorem feq_nearest (k : FloatKind) (n : Int) : feq k (k.nearest n) (k.nearest n) = true := by
 rw [nearest_write]; exact feq_self (write_not_nan k.format rfl)
theorem Wd.nearest (k : FloatKind) (n : Int) : Wd k (k.nearest n) := by rw [nearest_write]; exact Wd.write k rfl
/-! ### sums and signs -/
theorem Wd.neg {k : FloatKind} {x : Nat} (h : Wd k x) : Wd k (fneg k x) := by
 by_cases hn : (k.format.read x).isNaN = true
 ·have : x = qnan k := by rw [← h.2]; exact cn_of_nan hn
  rw [this]
  have : fneg k (qnan k) = qnan k := by cases k <;> decide +kernel
  rw [this]; exact Wd.nan k
 ·have hn : (k.format.read x).isNaN = false := by simpa using hn
  rw [fneg_write h.1 hn]
  refine Wd.write k ?_
  cases hr : k.format.read x with
  | nan s t => rw [hr] at hn; cases hn
  | number s m e => rfl
  | infinity s => rfl
/-! ### what is finite, what is no NaN, what has no sign -/
def nn (k : FloatKind) (x : Nat) : Prop := (k.format.read x).isNaN = false
def un (k : FloatKind) (x : Nat) : Prop := (k.format.read x).isNaN = true ∨ (k.format.read x).neg = false
/-! ### exact values -/
def rnd (k : FloatKind) (v : Int) : Nat := k.format.nearest (decide (v < 0)) v.natAbs k.format.leastPlace
def lp (k : FloatKind) : Nat := (- k.format.leastPlace).toNat
end Go.Proofs.Ythheoefadijhdaa.Ai
