/- Words of single floats in one order: a number for each word, as cmp.Compare has them. -/
import Derived.Test.YtbnplefohfamnaaSo
import Derived.Test.YtbnplefohfamnaaAp
set_option linter.unusedVariables false
set_option linter.unusedSimpArgs false
namespace Go.Proofs.Ytbnplefohfamnaa.Ai
open Go

theorem sv_small {x n : Nat} (hn : n = 400) (h : fin .f32 x = true) : (sv .f32 x).natAbs < 2 ^ n := by
  obtain ⟨s, m, e, hr⟩ := fin_num h
  have hb : m < 2 ^ 24 ∧ e ≤ 200 := by
    revert hr
    show Ieee.Format.read Ieee.single x = _ → _
    unfold Ieee.Format.read
    have bi : Ieee.single.binade = 2 ^ 23 := rfl
    have ir : Ieee.single.infRung = 255 * 2 ^ 23 := rfl
    have lp : Ieee.single.leastPlace = -149 := rfl
    simp only [bi, ir, lp]
    generalize x % Ieee.single.signWeight = r
    split
    · intro h; cases h; omega
    · split
      · intro h; cases h
        have := Nat.mod_lt r (y := 2 ^ 23) (by decide)
        constructor
        · omega
        · have : r / 2 ^ 23 < 255 := Nat.div_lt_of_lt_mul (by omega)
          omega
      · split
        · intro h; cases h
        · intro h; cases h
  have e1 : sv .f32 x = Ieee.signed s m (e - FloatKind.f32.format.leastPlace).toNat := by unfold sv; rw [hr]
  rw [e1, signed_natAbs, Nat.shiftLeft_eq]
  have hl : FloatKind.f32.format.leastPlace = -149 := rfl
  rw [hl]
  generalize hq : (e - -149).toNat = q
  have hq2 : q ≤ 349 := by omega
  have h1 : m * 2 ^ q < 2 ^ 24 * 2 ^ q := Nat.mul_lt_mul_of_pos_right hb.1 (Nat.two_pow_pos _)
  rw [← Nat.pow_add] at h1
  exact Nat.lt_of_lt_of_le h1 (Nat.pow_le_pow_right (by decide) (by omega))

def topE : Nat := 400
theorem topE_eq : topE = 400 := rfl
/-- Above all finite words. -/
def topK : Int := ((2 ^ topE : Nat) : Int)
theorem topK_pos : 0 < topK := by unfold topK; exact Int.natCast_pos.2 (Nat.two_pow_pos _)
theorem sv_topK {x : Nat} (h : fin .f32 x = true) : - topK < sv .f32 x ∧ sv .f32 x < topK := by
  have := sv_small topE_eq h
  unfold topK
  generalize 2 ^ topE = n at *
  omega
attribute [local irreducible] topK
/-- A word's place in the order. -/
def kappa (x : Nat) : Int :=
  match FloatKind.f32.format.read x with
  | .nan _ _ => - topK - 1
  | .infinity s => if s then - topK else topK
  | .number _ _ _ => sv .f32 x
theorem kappa_fin {x : Nat} (h : fin .f32 x = true) : kappa x = sv .f32 x := by
  obtain ⟨s, m, e, hr⟩ := fin_num h
  unfold kappa; rw [hr]
theorem nn_self {x : Nat} (h : (FloatKind.f32.format.read x).isNaN = false) : feq .f32 x x = true := feq_self h

theorem flt_kappa {x y : Nat} (hx : (FloatKind.f32.format.read x).isNaN = false) (hy : (FloatKind.f32.format.read y).isNaN = false) : flt .f32 x y = decide (kappa x < kappa y) := by
  have tp := topK_pos
  cases hrx : FloatKind.f32.format.read x with
  | nan s t => rw [hrx] at hx; cases hx
  | number s m e =>
    have fx : fin .f32 x = true := by unfold fin; rw [hrx]
    have bx := sv_topK fx
    cases hry : FloatKind.f32.format.read y with
    | nan s t => rw [hry] at hy; cases hy
    | number t n i =>
      have fy : fin .f32 y = true := by unfold fin; rw [hry]
      rw [flt_fin fx fy, kappa_fin fx, kappa_fin fy]
    | infinity t =>
      rw [kappa_fin fx]
      unfold flt Ieee.Format.order kappa
      rw [hrx, hry]
      cases t
      · exact (decide_eq_true (by simp; omega)).symm
      · exact (decide_eq_false (by simp; omega)).symm
  | infinity s =>
    cases hry : FloatKind.f32.format.read y with
    | nan s t => rw [hry] at hy; cases hy
    | number t n i =>
      have fy : fin .f32 y = true := by unfold fin; rw [hry]
      have bx := sv_topK fy
      rw [kappa_fin fy]
      unfold flt Ieee.Format.order kappa
      rw [hrx, hry]
      cases s
      · exact (decide_eq_false (by simp; omega)).symm
      · exact (decide_eq_true (by simp; omega)).symm
    | infinity t =>
      unfold flt Ieee.Format.order kappa
      rw [hrx, hry]
      cases s <;> cases t
      · exact (decide_eq_false (by simp)).symm
      · exact (decide_eq_false (by simp; omega)).symm
      · exact (decide_eq_true (by simp; omega)).symm
      · exact (decide_eq_false (by simp)).symm
theorem kappa_nan {x : Nat} (h : (FloatKind.f32.format.read x).isNaN = true) : kappa x = - topK - 1 := by
  obtain ⟨s, t, e⟩ := isNaN_spec _ h
  unfold kappa; rw [e]
theorem kappa_nn {x : Nat} (h : (FloatKind.f32.format.read x).isNaN = false) : - topK - 1 < kappa x := by
  have tp := topK_pos
  cases hr : FloatKind.f32.format.read x with
  | nan s t => rw [hr] at h; cases h
  | number s m e =>
    have fx : fin .f32 x = true := by unfold fin; rw [hr]
    have := sv_topK fx
    rw [kappa_fin fx]; omega
  | infinity s =>
    unfold kappa; rw [hr]
    cases s
    · simp; omega
    · simp; omega
/-- What cmp.Compare says. -/
theorem cmp_kappa (x y : Nat) : (bif !(feq .f32 x x) then (bif !(feq .f32 y y) then false else true) else (bif !(feq .f32 y y) then false else flt .f32 x y)) = So.lt_ kappa x y := by
  unfold So.lt_
  cases hx : (FloatKind.f32.format.read x).isNaN with
  | true =>
    rw [feq_nan1 hx]
    cases hy : (FloatKind.f32.format.read y).isNaN with
    | true => rw [feq_nan1 hy, kappa_nan hx, kappa_nan hy]; simp
    | false =>
      have := kappa_nn hy
      rw [feq_self hy, kappa_nan hx]; simp; omega
  | false =>
    rw [feq_self hx]
    cases hy : (FloatKind.f32.format.read y).isNaN with
    | true =>
      have := kappa_nn hx
      rw [feq_nan1 hy, kappa_nan hy]; simp; omega
    | false => rw [feq_self hy, flt_kappa hx hy]; simp
/-- Half of a sum, as the library reckons it. -/
theorem shr1 {x : Int} (h0 : 0 ≤ x) (h1 : x < 4611686018427387904) : Int.fdiv (IntKind.wrap .u64 x) (2 ^ (min (1 : Int).toNat (IntKind.bits .u64))) = x / 2 := by
  have e1 : IntKind.wrap .u64 x = x := by
    show x % (2 ^ 64 : Int) = x
    exact Int.emod_eq_of_lt h0 (by omega)
  have e2 : (2 : Int) ^ (min (1 : Int).toNat (IntKind.bits .u64)) = 2 := by decide
  rw [e1, e2, Int.fdiv_eq_ediv_of_nonneg _ (by decide)]
end Go.Proofs.Ytbnplefohfamnaa.Ai
