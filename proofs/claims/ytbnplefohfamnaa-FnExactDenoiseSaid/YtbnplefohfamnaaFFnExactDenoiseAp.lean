/- Appending to a list that may be nil; places in pictures. -/
import Derived.Test.YtbnplefohfamnaaFFnExactDenoiseLibB
set_option linter.unusedVariables false
set_option linter.unusedSimpArgs false
namespace Go.Proofs.Ytbnplefohfamnaa.Ai
open Go

/-! Appending to a list that may be nil. -/
theorem OwnS.ownB {α : Type} {f : α → Value} {H : AHeap} {lo n e : Nat} {a : Option Addr} {xs : List α} (h : OwnS f H lo a n e xs) : Ai.ownB H a n e 1 = some (xs.map f) := by
 obtain ⟨hn, ⟨rfl, hx⟩ | ⟨c, rfl, h, he, hl⟩⟩ := h
 ·subst hx; subst hn; rfl
 ·exact Own.ownB h (by simp [hn]) he
theorem KeepA.grow {H H' : AHeap} (k : KeepA none H H') : Grow H H' := ⟨k.1, fun i hi => k.2 i hi fun x hx => by cases hx⟩
theorem shl_val {n : Int} (h0 : 0 ≤ n) (h1 : n ≤ 6) : IntKind.wrap .i64 (1 * 2 ^ (min (n : Int).toNat (IntKind.bits .i64))) = 2 ^ n.toNat := by
 obtain ⟨k, rfl⟩ : ∃ k : Nat, n = k := ⟨n.toNat, by omega⟩
 have hk : k < 7 := by omega
 rw [Int.toNat_natCast]
 revert k
 intro k _ _ hk
 match k, hk with
 | 0, _ => decide
 | 1, _ => decide
 | 2, _ => decide
 | 3, _ => decide
 | 4, _ => decide
 | 5, _ => decide
 | 6, _ => decide
theorem shl_ne {n : Int} (h0 : 0 ≤ n) (h1 : n ≤ 6) : IntKind.wrap .i64 (1 * 2 ^ (min (n : Int).toNat (IntKind.bits .i64))) ≠ 0 := by
 rw [shl_val h0 h1]
 have : (0 : Int) < 2 ^ n.toNat := Int.pow_pos (by decide)
 omega
end Go.Proofs.Ytbnplefohfamnaa.Ai
