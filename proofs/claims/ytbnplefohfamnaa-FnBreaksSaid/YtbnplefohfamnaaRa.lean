/- Numbers as rationals: what sums, products and quotients lose. -/
import Derived.Test.YtbnplefohfamnaaEr
set_option linter.unusedVariables false
set_option linter.unusedSimpArgs false
namespace Go.Proofs.Ytbnplefohfamnaa.Ai
open Go

/-! Numbers as rationals. -/
theorem le_mul_iff {a b c : Rat} (hc : 0 < c) : a * c ≤ b * c ↔ a ≤ b := by rw [← Rat.not_lt, ← Rat.not_lt, Rat.mul_lt_mul_right hc]
theorem sub_mul_ (a b c : Rat) : (a - b) * c = a * c - b * c := by grind
def PP (k : FloatKind) : Rat := (((2 ^ lp k : Nat) : Int) : Rat)
/-- The number of a word. -/
def rq (k : FloatKind) (x : Nat) : Rat := (sv k x : Rat) / PP k
def uu : FloatKind → Nat
  | .f32 => 24
  | .f64 => 53
/-- What a number of size one may lose. -/
def ur (k : FloatKind) : Rat := 1 / (((2 ^ uu k : Nat) : Int) : Rat)
theorem two_pos (n : Nat) : (0 : Rat) < (((2 ^ n : Nat) : Int) : Rat) := by
  have : (0 : Int) < ((2 ^ n : Nat) : Int) := by have := Nat.two_pow_pos n; omega
  exact Rat.intCast_pos.2 this
theorem two_add (m n : Nat) : ((((2 ^ (m + n) : Nat) : Int)) : Rat) = (((2 ^ m : Nat) : Int) : Rat) * (((2 ^ n : Nat) : Int) : Rat) := by
  rw [← Rat.intCast_mul, Nat.pow_add, Int.natCast_mul]
theorem pp_pos (k : FloatKind) : 0 < PP k := two_pos _
theorem rq_mul (k : FloatKind) (x : Nat) : rq k x * PP k = (sv k x : Rat) := by
  unfold rq
  exact Rat.div_mul_cancel (Rat.ne_of_gt (pp_pos k))
theorem rq_lt {k : FloatKind} {x y : Nat} : sv k x < sv k y ↔ rq k x < rq k y := by
  have h := pp_pos k
  rw [← Rat.intCast_lt_intCast, ← rq_mul, ← rq_mul]
  exact Rat.mul_lt_mul_right h
theorem rq_le {k : FloatKind} {x y : Nat} : sv k x ≤ sv k y ↔ rq k x ≤ rq k y := by
  have h := pp_pos k
  rw [← Rat.intCast_le_intCast, ← rq_mul, ← rq_mul]
  exact le_mul_iff h
theorem bnd_iff {P q A : Rat} {s : Int} {B : Nat} (hP : 0 < P) (hs : q * P = (s : Rat)) (hB : A * P = (((B : Nat) : Int) : Rat)) : (-A ≤ q ∧ q ≤ A) ↔ s.natAbs ≤ B := by
  have e1 : -A ≤ q ↔ -((B : Nat) : Int) ≤ s := by
    rw [← le_mul_iff hP, hs, Rat.neg_mul, hB, ← Rat.intCast_neg, Rat.intCast_le_intCast]
  have e2 : q ≤ A ↔ s ≤ ((B : Nat) : Int) := by
    rw [← le_mul_iff hP, hs, hB, Rat.intCast_le_intCast]
  rw [e1, e2]; omega
theorem unit_pp (k : FloatKind) (a : Nat) {A : Rat} (hA : A = (((2 ^ a : Nat) : Int) : Rat)) : A * PP k = (((2 ^ (a + lp k) : Nat) : Int) : Rat) ∧ A * ur k * PP k = (((2 ^ (a + (lp k - uu k)) : Nat) : Int) : Rat) := by
  subst hA
  refine ⟨(two_add _ _).symm, ?_⟩
  have h1 : lp k = uu k + (lp k - uu k) := by cases k <;> rfl
  have hu := two_pos (uu k)
  unfold ur PP
  rw [two_add a, show ((((2 ^ lp k : Nat) : Int)) : Rat) = (((2 ^ uu k : Nat) : Int) : Rat) * (((2 ^ (lp k - uu k) : Nat) : Int) : Rat) from by rw [← two_add, ← h1]]
  generalize ((((2 ^ uu k : Nat) : Int)) : Rat) = U at *
  generalize ((((2 ^ (lp k - uu k) : Nat) : Int)) : Rat) = V
  have : U ≠ 0 := Rat.ne_of_gt hu
  grind
theorem top_k (k : FloatKind) {a : Nat} (h : a ≤ 60) : (a + (lp k - uu k) + 2) * k.format.binade < k.format.infRung := by
  cases k
  · exact top_32 (T := a + 125) (by omega)
  · exact top_64 (T := a + 1021) (by omega)
theorem bin_k (k : FloatKind) (a : Nat) : 2 * k.format.binade * 2 ^ (a + (lp k - uu k)) = 2 ^ (a + lp k) := by
  rw [two_bin]
  cases k
  · show 2 ^ (23 + 1 + (a + 125)) = 2 ^ (a + 149); exact congrArg _ (by omega)
  · show 2 ^ (52 + 1 + (a + 1021)) = 2 ^ (a + 1074); exact congrArg _ (by omega)
theorem radd {k : FloatKind} {x y : Nat} (a : Nat) {A : Rat} (hA : A = (((2 ^ a : Nat) : Int) : Rat)) (ha : a ≤ 60) (hx : fin k x = true) (hy : fin k y = true) (h1 : -A ≤ rq k x + rq k y) (h2 : rq k x + rq k y ≤ A) :
    fin k (fadd k x y) = true ∧ -(A * ur k) ≤ rq k (fadd k x y) - (rq k x + rq k y) ∧ rq k (fadd k x y) - (rq k x + rq k y) ≤ A * ur k := by
  obtain ⟨u1, u2⟩ := unit_pp k a hA
  have hp := pp_pos k
  have e : (rq k x + rq k y) * PP k = ((sv k x + sv k y : Int) : Rat) := by rw [Rat.add_mul, rq_mul, rq_mul, Rat.intCast_add]
  have hb := (bnd_iff hp e u1).1 ⟨h1, h2⟩
  obtain ⟨f1, f2⟩ := add_err hx hy (top_k k ha) (by rw [bin_k]; exact hb)
  refine ⟨f1, ?_⟩
  exact (bnd_iff hp (by rw [sub_mul_, e, rq_mul, ← Rat.intCast_sub]) u2).2 f2
theorem rneg {k : FloatKind} {x : Nat} (h : fin k x = true) : rq k (fneg k x) = - rq k x := by
  unfold rq; rw [sv_neg h, Rat.intCast_neg, Rat.div_def, Rat.neg_mul, ← Rat.div_def]
theorem rsub {k : FloatKind} {x y : Nat} (a : Nat) {A : Rat} (hA : A = (((2 ^ a : Nat) : Int) : Rat)) (ha : a ≤ 60) (hx : fin k x = true) (hy : fin k y = true) (h1 : -A ≤ rq k x - rq k y) (h2 : rq k x - rq k y ≤ A) :
    fin k (fsub k x y) = true ∧ -(A * ur k) ≤ rq k (fsub k x y) - (rq k x - rq k y) ∧ rq k (fsub k x y) - (rq k x - rq k y) ≤ A * ur k := by
  rw [sub_add hy]
  have e : rq k x - rq k y = rq k x + rq k (fneg k y) := by rw [rneg hy, Rat.sub_eq_add_neg]
  rw [e] at h1 h2 ⊢
  exact radd a hA ha hx (fin_neg hy) h1 h2
theorem rmul {k : FloatKind} {x y : Nat} (a : Nat) {A : Rat} (hA : A = (((2 ^ a : Nat) : Int) : Rat)) (ha : a ≤ 60) (hx : fin k x = true) (hy : fin k y = true) (h1 : -A ≤ rq k x * rq k y) (h2 : rq k x * rq k y ≤ A) :
    fin k (fmul k x y) = true ∧ -(A * ur k) ≤ rq k (fmul k x y) - rq k x * rq k y ∧ rq k (fmul k x y) - rq k x * rq k y ≤ A * ur k := by
  obtain ⟨u1, u2⟩ := unit_pp k a hA
  have hp := pp_pos k
  have hpp : 0 < PP k * PP k := Rat.mul_pos hp hp
  have e : rq k x * rq k y * (PP k * PP k) = ((sv k x * sv k y : Int) : Rat) := by
    rw [Rat.intCast_mul, ← rq_mul, ← rq_mul]; grind
  have w1 : A * (PP k * PP k) = (((2 ^ (a + lp k) * 2 ^ lp k : Nat) : Int) : Rat) := by
    rw [Int.natCast_mul, Rat.intCast_mul, ← u1]; unfold PP; grind
  have w2 : A * ur k * (PP k * PP k) = (((2 ^ (a + (lp k - uu k)) * 2 ^ lp k : Nat) : Int) : Rat) := by
    rw [Int.natCast_mul, Rat.intCast_mul, ← u2]; unfold PP; grind
  have hb := (bnd_iff hpp e w1).1 ⟨h1, h2⟩
  obtain ⟨f1, f2⟩ := mul_err hx hy (top_k k ha) (by rw [bin_k, ← Int.natAbs_mul]; exact hb)
  refine ⟨f1, ?_⟩
  refine (bnd_iff hpp ?_ w2).2 f2
  have e3 : ((((2 : Int) ^ lp k : Int)) : Rat) = PP k := by unfold PP; rw [Int.natCast_pow]; rfl
  rw [sub_mul_, e, ← Rat.mul_assoc, rq_mul, Rat.intCast_sub, Rat.intCast_mul (sv k (fmul k x y)), e3]
theorem rdiv {k : FloatKind} {x y : Nat} (a : Nat) {A : Rat} (hA : A = (((2 ^ a : Nat) : Int) : Rat)) (ha : a ≤ 60) (hx : fin k x = true) (hy : fin k y = true) (hy0 : 0 < rq k y) (h1 : -(A * rq k y) ≤ 2 * rq k x) (h2 : 2 * rq k x ≤ A * rq k y) :
    fin k (fdiv k x y) = true ∧ -(2 * (A * ur k) * rq k y) ≤ rq k (fdiv k x y) * rq k y - rq k x ∧ rq k (fdiv k x y) * rq k y - rq k x ≤ 2 * (A * ur k) * rq k y := by
  obtain ⟨u1, u2⟩ := unit_pp k a hA
  have hp := pp_pos k
  have hpp : 0 < PP k * PP k := Rat.mul_pos hp hp
  have y0 : 0 < sv k y := by
    rw [← Rat.intCast_pos, ← rq_mul]; exact Rat.mul_pos hy0 hp
  have ey : ((sv k y : Int) : Rat) = (((sv k y).natAbs : Int) : Rat) := by rw [Int.natAbs_of_nonneg (Int.le_of_lt y0)]
  have e3 : ((((2 : Int) ^ lp k : Int)) : Rat) = PP k := by unfold PP; rw [Int.natCast_pow]; rfl
  have w0 : 2 * rq k x * (PP k * PP k) = ((2 * sv k x * 2 ^ lp k : Int) : Rat) := by
    rw [Rat.intCast_mul, Rat.intCast_mul, e3, ← rq_mul]; grind
  have w1 : A * rq k y * (PP k * PP k) = (((2 ^ (a + lp k) * (sv k y).natAbs : Nat) : Int) : Rat) := by
    rw [Int.natCast_mul, Rat.intCast_mul, ← u1, ← ey, ← rq_mul]; grind
  have hb := (bnd_iff hpp w0 w1).1 ⟨h1, h2⟩
  obtain ⟨f1, f2⟩ := div_err hx hy (by omega) (top_k k ha) (by
    have := bin_k k a
    rw [Int.natAbs_mul, Int.natAbs_mul, Int.natAbs_pow, ← this] at hb
    have e5 : 2 * k.format.binade * 2 ^ (a + (lp k - uu k)) * (sv k y).natAbs = 2 * (k.format.binade * 2 ^ (a + (lp k - uu k)) * (sv k y).natAbs) := by simp only [Nat.mul_assoc]
    rw [e5, show (2 : Int).natAbs = 2 from rfl, Nat.mul_assoc] at hb
    omega)
  refine ⟨f1, ?_⟩
  have w2 : 2 * (A * ur k) * rq k y * (PP k * PP k) = (((2 * 2 ^ (a + (lp k - uu k)) * (sv k y).natAbs : Nat) : Int) : Rat) := by
    rw [Int.natCast_mul, Rat.intCast_mul, Int.natCast_mul, Rat.intCast_mul, ← u2, ← ey, ← rq_mul]
    show _ = ((2 : Int) : Rat) * _ * _
    have : ((2 : Int) : Rat) = 2 := rfl
    rw [this]; grind
  refine (bnd_iff hpp ?_ w2).2 f2
  rw [Rat.intCast_sub, Rat.intCast_mul, Rat.intCast_mul, e3, ← rq_mul, ← rq_mul, ← rq_mul]; grind
theorem rq_near (k : FloatKind) {n : Int} (h : n.natAbs ≤ 8388608) : fin k (k.nearest n) = true ∧ rq k (k.nearest n) = (n : Rat) := by
  obtain ⟨f1, f2⟩ := fin_of_nearest k h
  refine ⟨f1, ?_⟩
  have e3 : ((((2 : Int) ^ lp k : Int)) : Rat) = PP k := by unfold PP; rw [Int.natCast_pow]; rfl
  unfold rq
  rw [f2, Rat.intCast_mul, e3]
  have := pp_pos k
  have : PP k ≠ 0 := Rat.ne_of_gt this
  grind
theorem pp_two {j k : FloatKind} (a b : Nat) (h : lp k = a + b) (g : lp j = a) : PP k = PP j * (((2 ^ b : Nat) : Int) : Rat) := by
  unfold PP; rw [h, g, two_add]
theorem rq_wide {x : Nat} (h : fin .f32 x = true) : fin .f64 (fwide x) = true ∧ rq .f64 (fwide x) = rq .f32 x := by
  obtain ⟨f1, f2⟩ := vl_wide h
  refine ⟨f1, ?_⟩
  obtain ⟨b, hb⟩ : ∃ b : Nat, b = 925 := ⟨_, rfl⟩
  have e : PP .f64 = PP .f32 * (((2 ^ b : Nat) : Int) : Rat) := pp_two 149 b (by rw [hb]; rfl) rfl
  have f3 : sv .f64 (fwide x) = sv .f32 x * ((2 ^ b : Nat) : Int) := by rw [← pw_nat, hb]; exact f2
  unfold rq
  rw [f3, Rat.intCast_mul, e]
  have h1 := two_pos b
  have h2 := pp_pos .f32
  generalize ((((2 ^ b : Nat) : Int)) : Rat) = U at *
  generalize PP .f32 = V at *
  have : U ≠ 0 := Rat.ne_of_gt h1
  have : V ≠ 0 := Rat.ne_of_gt h2
  grind
theorem rq_lit {k : FloatKind} {x : Nat} {m : Int} (q s : Nat) (h : sv k x = m * ((2 ^ q : Nat) : Int)) (hs : q + s = lp k) : rq k x * (((2 ^ s : Nat) : Int) : Rat) = (m : Rat) := by
  unfold rq PP
  rw [h, Rat.intCast_mul, ← hs, two_add]
  have h1 := two_pos q
  have h2 := two_pos s
  generalize ((((2 ^ q : Nat) : Int)) : Rat) = U at *
  generalize ((((2 ^ s : Nat) : Int)) : Rat) = V at *
  have : U ≠ 0 := Rat.ne_of_gt h1
  have : V ≠ 0 := Rat.ne_of_gt h2
  grind
theorem ur32 : ur .f32 = 1 / 16777216 := rfl
theorem ur64 : ur .f64 = 1 / 9007199254740992 := rfl
theorem two_lit : (32 : Rat) = (((2 ^ 5 : Nat) : Int) : Rat) := by decide
theorem rq_zero (k : FloatKind) : rq k 0 = 0 := by unfold rq; rw [sv_zero]; rw [Rat.div_def]; exact Rat.zero_mul _
theorem flt_rq {k : FloatKind} {x y : Nat} (hx : fin k x = true) (hy : fin k y = true) : flt k x y = decide (rq k x < rq k y) := by
  rw [flt_fin hx hy]; exact decide_eq_decide.2 rq_lt
theorem fle_rq {k : FloatKind} {x y : Nat} (hx : fin k x = true) (hy : fin k y = true) : fle k x y = decide (rq k x ≤ rq k y) := by
  rw [fle_fin hx hy]; exact decide_eq_decide.2 rq_le
end Go.Proofs.Ytbnplefohfamnaa.Ai
