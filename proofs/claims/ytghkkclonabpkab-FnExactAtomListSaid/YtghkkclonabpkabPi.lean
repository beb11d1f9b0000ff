/- Pictures as lists of lights: rows, parts, halves of sides. -/
import Derived.Test.YtghkkclonabpkabKe
set_option linter.unusedVariables false
namespace Go.Proofs.Ytghkkclonabpkab.Ai
open Go
/-- The lights of a picture, row by row. -/
def rowL (w : Nat) (F : Int → Nat) : List Nat := (List.range w).map fun i : Nat => F (i : Int)
def picL (w h : Nat) (F : Int → Int → Nat) : List Nat := ((List.range h).map fun v : Nat => rowL w fun u => F u (v : Int)).flatten
theorem rowL_length (w : Nat) (F : Int → Nat) : (rowL w F).length = w := by simp [rowL]
theorem picL_succ (w h : Nat) (F : Int → Int → Nat) : picL w (h + 1) F = picL w h F ++ rowL w fun u => F u h := by
  unfold picL; rw [List.range_succ, List.map_append, List.flatten_append]; simp
theorem picL_length (w : Nat) (F : Int → Int → Nat) : ∀ h, (picL w h F).length = h * w
  | 0 => by simp [picL]
  | h + 1 => by rw [picL_succ, List.length_append, picL_length w F h, rowL_length, Nat.succ_mul]
theorem range_add (a b : Nat) : List.range (a + b) = List.range a ++ (List.range b).map (a + ·) := by
  rw [List.range_eq_range', List.range_eq_range', List.range_eq_range', List.range'_append_1.symm, List.map_add_range']; simp
theorem picL_flat {w : Nat} (hw : 0 < w) (F : Int → Int → Nat) : ∀ h, (List.range (h * w)).map (fun i : Nat => F ((i % w : Nat) : Int) ((i / w : Nat) : Int)) = picL w h F
  | 0 => by simp [picL]
  | h + 1 => by
    rw [Nat.succ_mul, range_add, List.map_append, picL_flat hw F h, picL_succ]
    congr 1
    unfold rowL
    rw [List.map_map]
    apply List.map_congr_left
    intro i hi
    have hi := List.mem_range.1 hi
    have e1 : (h * w + i) % w = i := by rw [Nat.add_comm, Nat.mul_comm, Nat.add_mul_mod_self_left]; exact Nat.mod_eq_of_lt hi
    have e2 : (h * w + i) / w = h := by rw [Nat.add_comm, Nat.mul_comm, Nat.add_mul_div_left _ _ hw, Nat.div_eq_of_lt hi]; omega
    show F (((h * w + i) % w : Nat) : Int) (((h * w + i) / w : Nat) : Int) = F i h
    rw [e1, e2]
theorem picL_mem {w h : Nat} {F : Int → Int → Nat} {z : Nat} (hz : z ∈ picL w h F) : ∃ u v : Nat, u < w ∧ v < h ∧ z = F u v := by
  obtain ⟨r, hr, hz⟩ := List.mem_flatten.1 hz
  obtain ⟨v, hv, rfl⟩ := List.mem_map.1 hr
  obtain ⟨u, hu, rfl⟩ := List.mem_map.1 hz
  exact ⟨u, v, List.mem_range.1 hu, List.mem_range.1 hv, rfl⟩
/-- Half of a side, rounded up. -/
def halfI (n : Int) : Int := (n + 1) / 2
theorem halfI_div {n : Int} (h1 : 1 ≤ n) : Int.tdiv (n + 1) 2 = halfI n := Int.tdiv_eq_ediv_of_nonneg (by omega)
theorem halfI_rng {n : Int} (h1 : 1 ≤ n) (h2 : n ≤ 16) : 1 ≤ halfI n ∧ halfI n ≤ n := by unfold halfI; omega
def halves : Nat → Int → Int
  | 0, n => n
  | k + 1, n => halves k (halfI n)
theorem halves_rng : ∀ (k : Nat) (n : Int), 1 ≤ n → n ≤ 16 → 1 ≤ halves k n ∧ halves k n ≤ n
  | 0, n, h1, h2 => ⟨h1, Int.le_refl _⟩
  | k + 1, n, h1, h2 => by
    have r := halfI_rng h1 h2
    have := halves_rng k (halfI n) r.1 (by omega)
    unfold halves; omega
/-- The light at a place of a part. -/
def cropF (L : List Nat) (x y W : Int) (u v : Int) : Nat := L.getD ((y + v) * W + x + u).toNat 0
end Go.Proofs.Ytghkkclonabpkab.Ai
