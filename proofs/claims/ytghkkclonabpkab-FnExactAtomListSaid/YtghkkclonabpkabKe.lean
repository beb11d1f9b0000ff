/- Words of single floats in one order: a number for each word, as cmp.Compare has them. -/
import Derived.Test.YtghkkclonabpkabSo
import Derived.Test.YtghkkclonabpkabLibB
set_option linter.unusedVariables false
set_option linter.unusedSimpArgs false
namespace Go.Proofs.Ytghkkclonabpkab.Ai
open Go

theorem sv_small {x n : Nat} (hn : n = 400) (h : fin .f32 x = true) : (sv .f32 x).natAbs < 2 ^ n := by
  obtain ⟨s, m, e, hr⟩ := fin_num h
  have hb : m < 2 ^ 24 ∧ e ≤ 200 := by
    revert hr
    show Ieee.Format.read Ieee.single x = _ → _
    unfold Ieee.Format.read
    have bi : Ieee.single.binade = 2 ^ 23 := rfl
    have ir : Ieee.single.infRung = 255 * 2 ^ 23 := rfl
    have lp : Ieee.single.leastPlace = -149 := rfl
    simp only [bi, ir, lp]
    generalize x % Ieee.single.signWeight = r
    split
    · intro h; cases h; omega
    · split
      · intro h; cases h
        have := Nat.mod_lt r (y := 2 ^ 23) (by decide)
        constructor
        · omega
        · have : r / 2 ^ 23 < 255 := Nat.div_lt_of_lt_mul (by omega)
          omega
      · split
        · intro h; cases h
        · intro h; cases h
  have e1 : sv .f32 x = Ieee.signed s m (e - FloatKind.f32.format.leastPlace).toNat := by unfold sv; rw [hr]
  rw [e1, signed_natAbs, Nat.shiftLeft_eq]
  have hl : FloatKind.f32.format.leastPlace = -149 := rfl
  rw [hl]
  generalize hq : (e - -149).toNat = q
  have hq2 : q ≤ 349 := by omega
  have h1 : m * 2 ^ q < 2 ^ 24 * 2 ^ q := Nat.mul_lt_mul_of_pos_right hb.1 (Nat.two_pow_pos _)
  rw [← Nat.pow_add] at h1
  exact Nat.lt_of_lt_of_le h1 (Nat.pow_le_pow_right (by decide) (by omega))

def topE : Nat := 400
theorem topE_eq : topE = 400 := rfl
/-- Above all finite words. -/
def topK : Int := ((2 ^ topE : Nat) : Int)
theorem topK_pos : 0 < topK := by unfold topK; exact Int.natCast_pos.2 (Nat.two_pow_pos _)
theorem sv_topK {x : Nat} (h : fin .f32 x = true) : - topK < sv .f32 x ∧ sv .f32 x < topK := by
  have := sv_small topE_eq h
  unfold topK
  generalize 2 ^ topE = n at *
  omega
attribute [local irreducible] topK
/-- A word's place in the order. -/
def kappa (x : Nat) : Int :=
  match FloatKind.f32.format.read x with
  | .nan _ _ => - topK - 1
  | .infinity s => if s then - topK else topK
  | .number _ _ _ => sv .f32 x
theorem kappa_fin {x : Nat} (h : fin .f32 x = true) : kappa x = sv .f32 x := by
  obtain ⟨s, m, e, hr⟩ := fin_num h
  unfold kappa; rw [hr]
theorem nn_self {x : Nat} (h : (FloatKind.f32.format.read x).isNaN = false) : feq .f32 x x = true := feq_self h

theorem flt_kappa {x y : Nat} (hx : (FloatKind.f32.format.read x).isNaN = false) (hy : (FloatKind.f32.format.read y).isNaN = false) : flt .f32 x y = decide (kappa x < kappa y) := by
  have tp := topK_pos
  cases hrx : FloatKind.f32.format.read x with
  | nan s t => rw [hrx] at hx; cases hx
  | number s m e =>
    have fx : fin .f32 x = true := by unfold fin; rw [hrx]
    have bx := sv_topK fx
    cases hry : FloatKind.f32.format.read y with
    | nan s t => rw [hry] at hy; cases hy
    | number t n i =>
      have fy : fin .f32 y = true := by unfold fin; rw [hry]
      rw [flt_fin fx fy, kappa_fin fx, kappa_fin fy]
    | infinity t =>
      rw [kappa_fin fx]
      unfold flt Ieee.Format.order kappa
      rw [hrx, hry]
      cases t
      · exact (decide_eq_true (by simp; omega)).symm
      · exact (decide_eq_false (by simp; omega)).symm
  | infinity s =>
    cases hry : FloatKind.f32.format.read y with
    | nan s t => rw [hry] at hy; cases hy
    | number t n i =>
      have fy : fin .f32 y = true := by unfold fin; rw [hry]
      have bx := sv_topK fy
      rw [kappa_fin fy]
      unfold flt Ieee.Format.order kappa
      rw [hrx, hry]
      cases s
      · exact (decide_eq_false (by simp; omega)).symm
      · exact (decide_eq_true (by simp; omega)).symm
    | infinity t =>
      unfold flt Ieee.Format.order kappa
      rw [hrx, hry]
      cases s <;> cases t
      · exact (decide_eq_false (by simp)).symm
      · exact (decide_eq_false (by simp; omega)).symm
      · exact (decide_eq_true (by simp; omega)).symm
      · exact (decide_eq_false (by simp)).symm
theorem kappa_nan {x : Nat} (h : (FloatKind.f32.format.read x).isNaN = true) : kappa x = - topK - 1 := by
  obtain ⟨s, t, e⟩ := isNaN_spec _ h
  unfold kappa; rw [e]
theorem kappa_nn {x : Nat} (h : (FloatKind.f32.format.read x).isNaN = false) : - topK - 1 < kappa x := by
  have tp := topK_pos
  cases hr : FloatKind.f32.format.read x with
  | nan s t => rw [hr] at h; cases h
  | number s m e =>
    have fx : fin .f32 x = true := by unfold fin; rw [hr]
    have := sv_topK fx
    rw [kappa_fin fx]; omega
  | infinity s =>
    unfold kappa; rw [hr]
    cases s
    · simp; omega
    · simp; omega
/-- What cmp.Compare says. -/
theorem cmp_kappa (x y : Nat) : (bif !(feq .f32 x x) then (bif !(feq .f32 y y) then false else true) else (bif !(feq .f32 y y) then false else flt .f32 x y)) = So.lt_ kappa x y := by
  unfold So.lt_
  cases hx : (FloatKind.f32.format.read x).isNaN with
  | true =>
    rw [feq_nan1 hx]
    cases hy : (FloatKind.f32.format.read y).isNaN with
    | true => rw [feq_nan1 hy, kappa_nan hx, kappa_nan hy]; simp
    | false =>
      have := kappa_nn hy
      rw [feq_self hy, kappa_nan hx]; simp; omega
  | false =>
    rw [feq_self hx]
    cases hy : (FloatKind.f32.format.read y).isNaN with
    | true =>
      have := kappa_nn hx
      rw [feq_nan1 hy, kappa_nan hy]; simp; omega
    | false => rw [feq_self hy, flt_kappa hx hy]; simp
/-- Half of a sum, as the library reckons it. -/
theorem shr1 {x : Int} (h0 : 0 ≤ x) (h1 : x < 4611686018427387904) : Int.fdiv (IntKind.wrap .u64 x) (2 ^ (min (1 : Int).toNat (IntKind.bits .u64))) = x / 2 := by
  have e1 : IntKind.wrap .u64 x = x := by
    show x % (2 ^ 64 : Int) = x
    exact Int.emod_eq_of_lt h0 (by omega)
  have e2 : (2 : Int) ^ (min (1 : Int).toNat (IntKind.bits .u64)) = 2 := by decide
  rw [e1, e2, Int.fdiv_eq_ediv_of_nonneg _ (by decide)]
/-! Appending to a list that may be nil. -/
theorem OwnS.ownB {α : Type} {f : α → Value} {H : AHeap} {lo n e : Nat} {a : Option Addr} {xs : List α} (h : OwnS f H lo a n e xs) : Ai.ownB H a n e 1 = some (xs.map f) := by
  obtain ⟨hn, ⟨rfl, hx⟩ | ⟨c, rfl, h, he, hl⟩⟩ := h
  · subst hx; subst hn; rfl
  · exact Own.ownB h (by simp [hn]) he
theorem Ap.appS {α : Type} {f : α → Value} {H : AHeap} {lo n e : Nat} {a : Option Addr} {xs ys : List α} {o w : List Value} {K : Nat → AHeap → Prop} (hb : OwnS f H lo a n e xs) (ho : o = xs.map f) (hw : w = ys.map f)
    (h : ∀ (b' : Nat) (H' : AHeap), b' = H.length → H'.length = H.length + 1 → Own H' b' ((xs ++ ys).map f) → KeepA a H H' → K b' H') : Ap H (killB H a ++ [some ⟨o ++ w, true⟩]) K := by
  subst ho; subst hw
  obtain ⟨hn, ⟨rfl, hx⟩ | ⟨c, rfl, hc, he, hl⟩⟩ := hb
  · refine h H.length _ rfl (by simp [killB]) ?_ ⟨by simp [killB], fun i hi _ => by simp only [killB]; exact List.getElem?_append_left hi⟩
    unfold Own
    simp only [killB]
    rw [List.getElem?_append_right (Nat.le_refl _)]
    simp
  · exact Ap.app hc rfl rfl fun b' H' h1 h2 h3 h4 => h b' H' h1 h2 (by rw [List.map_append]; exact h3) (OwnS.keep1 h4)
theorem KeepA.grow {H H' : AHeap} (k : KeepA none H H') : Grow H H' := ⟨k.1, fun i hi => k.2 i hi fun x hx => by cases hx⟩
/-- A place in a part of a picture. -/
theorem crop_idx {x y u v W H : Int} (h1 : 0 ≤ x) (h2 : 0 ≤ y) (h3 : 0 ≤ u) (h4 : 0 ≤ v) (h5 : x + u < W) (h6 : y + v < H) : 0 ≤ (y + v) * W ∧ (y + v) * W + x + u < W * H ∧ (y + v) * W ≤ W * H := by
  have hW : 0 < W := by omega
  have e1 : 0 ≤ (y + v) * W := Int.mul_nonneg (by omega) (by omega)
  have e2 : (y + v + 1) * W ≤ H * W := Int.mul_le_mul_of_nonneg_right (by omega) (by omega)
  rw [Int.add_mul, Int.one_mul, Int.mul_comm H W] at e2
  omega
theorem side_mul {W H : Int} (h1 : 1 ≤ W) (h2 : W ≤ 16) (h3 : 1 ≤ H) (h4 : H ≤ 16) : 1 ≤ W * H ∧ W * H ≤ 256 := by
  have e1 : W * 1 ≤ W * H := Int.mul_le_mul_of_nonneg_left h3 (by omega)
  have e2 : W * H ≤ 16 * 16 := Int.mul_le_mul h2 h4 (by omega) (by omega)
  omega
/-- A place in a part of a picture, told by one number. -/
theorem crop_at {x y W H w h i : Int} (h1 : 0 ≤ x) (h2 : 0 ≤ y) (h3 : 1 ≤ w) (h4 : 1 ≤ h) (h5 : x + w ≤ W) (h6 : y + h ≤ H) (hW : W ≤ 16) (hH : H ≤ 16) (h7 : 0 ≤ i) :
    i < w * h → 0 ≤ Int.tdiv i w ∧ Int.tdiv i w < h ∧ 0 ≤ Int.tmod i w ∧ Int.tmod i w < w ∧ 0 ≤ (y + Int.tdiv i w) * W ∧ (y + Int.tdiv i w) * W + x + Int.tmod i w < W * H ∧ W * H ≤ 256 := fun hi => by
  have e1 : Int.tdiv i w = i / w := Int.tdiv_eq_ediv_of_nonneg h7
  have e2 : Int.tmod i w = i % w := Int.tmod_eq_emod_of_nonneg h7
  rw [e1, e2]
  have g1 : 0 ≤ i / w := Int.ediv_nonneg h7 (by omega)
  have g2 : i / w < h := Int.ediv_lt_of_lt_mul (by omega) (by rw [Int.mul_comm]; exact hi)
  have g3 : 0 ≤ i % w := Int.emod_nonneg _ (by omega)
  have g4 : i % w < w := Int.emod_lt_of_pos _ (by omega)
  have g5 := crop_idx (x := x) (y := y) (u := i % w) (v := i / w) (W := W) (H := H) h1 h2 g3 g1 (by omega) (by omega)
  have g6 := side_mul (W := W) (H := H) (by omega) hW (by omega) hH
  exact ⟨g1, g2, g3, g4, g5.1, g5.2.1, g6.2⟩
end Go.Proofs.Ytghkkclonabpkab.Ai
