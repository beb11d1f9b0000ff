/- Appending to a list that may be nil; places in pictures. -/
import Derived.Test.YtbnplefohfamnaaLibB
set_option linter.unusedVariables false
set_option linter.unusedSimpArgs false
namespace Go.Proofs.Ytbnplefohfamnaa.Ai
open Go

/-! Appending to a list that may be nil. -/
theorem OwnS.ownB {α : Type} {f : α → Value} {H : AHeap} {lo n e : Nat} {a : Option Addr} {xs : List α} (h : OwnS f H lo a n e xs) : Ai.ownB H a n e 1 = some (xs.map f) := by
  obtain ⟨hn, ⟨rfl, hx⟩ | ⟨c, rfl, h, he, hl⟩⟩ := h
  · subst hx; subst hn; rfl
  · exact Own.ownB h (by simp [hn]) he
theorem Ap.appS {α : Type} {f : α → Value} {H : AHeap} {lo n e : Nat} {a : Option Addr} {xs ys : List α} {o w : List Value} {K : Nat → AHeap → Prop} (hb : OwnS f H lo a n e xs) (ho : o = xs.map f) (hw : w = ys.map f)
    (h : ∀ (b' : Nat) (H' : AHeap), b' = H.length → H'.length = H.length + 1 → Own H' b' ((xs ++ ys).map f) → KeepA a H H' → K b' H') : Ap H (killB H a ++ [some ⟨o ++ w, true⟩]) K := by
  subst ho; subst hw
  obtain ⟨hn, ⟨rfl, hx⟩ | ⟨c, rfl, hc, he, hl⟩⟩ := hb
  · refine h H.length _ rfl (by simp [killB]) ?_ ⟨by simp [killB], fun i hi _ => by simp only [killB]; exact List.getElem?_append_left hi⟩
    unfold Own
    simp only [killB]
    rw [List.getElem?_append_right (Nat.le_refl _)]
    simp
  · exact Ap.app hc rfl rfl fun b' H' h1 h2 h3 h4 => h b' H' h1 h2 (by rw [List.map_append]; exact h3) (OwnS.keep1 h4)
theorem KeepA.grow {H H' : AHeap} (k : KeepA none H H') : Grow H H' := ⟨k.1, fun i hi => k.2 i hi fun x hx => by cases hx⟩
/-- A place in a part of a picture. -/
theorem crop_idx {x y u v W H : Int} (h1 : 0 ≤ x) (h2 : 0 ≤ y) (h3 : 0 ≤ u) (h4 : 0 ≤ v) (h5 : x + u < W) (h6 : y + v < H) : 0 ≤ (y + v) * W ∧ (y + v) * W + x + u < W * H ∧ (y + v) * W ≤ W * H := by
  have hW : 0 < W := by omega
  have e1 : 0 ≤ (y + v) * W := Int.mul_nonneg (by omega) (by omega)
  have e2 : (y + v + 1) * W ≤ H * W := Int.mul_le_mul_of_nonneg_right (by omega) (by omega)
  rw [Int.add_mul, Int.one_mul, Int.mul_comm H W] at e2
  omega
theorem side_mul {W H : Int} (h1 : 1 ≤ W) (h2 : W ≤ 16) (h3 : 1 ≤ H) (h4 : H ≤ 16) : 1 ≤ W * H ∧ W * H ≤ 256 := by
  have e1 : W * 1 ≤ W * H := Int.mul_le_mul_of_nonneg_left h3 (by omega)
  have e2 : W * H ≤ 16 * 16 := Int.mul_le_mul h2 h4 (by omega) (by omega)
  omega
/-- A place in a part of a picture, told by one number. -/
theorem crop_at {x y W H w h i : Int} (h1 : 0 ≤ x) (h2 : 0 ≤ y) (h3 : 1 ≤ w) (h4 : 1 ≤ h) (h5 : x + w ≤ W) (h6 : y + h ≤ H) (hW : W ≤ 16) (hH : H ≤ 16) (h7 : 0 ≤ i) :
    i < w * h → 0 ≤ Int.tdiv i w ∧ Int.tdiv i w < h ∧ 0 ≤ Int.tmod i w ∧ Int.tmod i w < w ∧ 0 ≤ (y + Int.tdiv i w) * W ∧ (y + Int.tdiv i w) * W + x + Int.tmod i w < W * H ∧ W * H ≤ 256 := fun hi => by
  have e1 : Int.tdiv i w = i / w := Int.tdiv_eq_ediv_of_nonneg h7
  have e2 : Int.tmod i w = i % w := Int.tmod_eq_emod_of_nonneg h7
  rw [e1, e2]
  have g1 : 0 ≤ i / w := Int.ediv_nonneg h7 (by omega)
  have g2 : i / w < h := Int.ediv_lt_of_lt_mul (by omega) (by rw [Int.mul_comm]; exact hi)
  have g3 : 0 ≤ i % w := Int.emod_nonneg _ (by omega)
  have g4 : i % w < w := Int.emod_lt_of_pos _ (by omega)
  have g5 := crop_idx (x := x) (y := y) (u := i % w) (v := i / w) (W := W) (H := H) h1 h2 g3 g1 (by omega) (by omega)
  have g6 := side_mul (W := W) (H := H) (by omega) hW (by omega) hH
  exact ⟨g1, g2, g3, g4, g5.1, g5.2.1, g6.2⟩
/-- One, moved left a few places. -/
theorem shl_val {n : Int} (h0 : 0 ≤ n) (h1 : n ≤ 6) : IntKind.wrap .i64 (1 * 2 ^ (min (n : Int).toNat (IntKind.bits .i64))) = 2 ^ n.toNat := by
  obtain ⟨k, rfl⟩ : ∃ k : Nat, n = k := ⟨n.toNat, by omega⟩
  have hk : k < 7 := by omega
  rw [Int.toNat_natCast]
  revert k
  intro k _ _ hk
  match k, hk with
  | 0, _ => decide
  | 1, _ => decide
  | 2, _ => decide
  | 3, _ => decide
  | 4, _ => decide
  | 5, _ => decide
  | 6, _ => decide
theorem shl_ne {n : Int} (h0 : 0 ≤ n) (h1 : n ≤ 6) : IntKind.wrap .i64 (1 * 2 ^ (min (n : Int).toNat (IntKind.bits .i64))) ≠ 0 := by
  rw [shl_val h0 h1]
  have : (0 : Int) < 2 ^ n.toNat := Int.pow_pos (by decide)
  omega
end Go.Proofs.Ytbnplefohfamnaa.Ai
