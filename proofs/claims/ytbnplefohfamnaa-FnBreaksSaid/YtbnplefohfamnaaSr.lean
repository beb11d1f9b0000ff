/- The library's sort of integers, by the kit's contract: a list of our own is sorted in place. -/
import Derived.Test.YtbnplefohfamnaaAp
import Derived.Shelf.SortM.Plain
set_option linter.unusedVariables false
namespace Go.Proofs.Ytbnplefohfamnaa.Ai
open Go Go.RowKit

/-- Cuts of a list of n. -/
def Cut (n : Nat) (es : List Int) : Prop := ∀ y ∈ es, 0 ≤ y ∧ y ≤ (n : Int)
theorem cut_at {n : Nat} {es : List Int} (h : Cut n es) (j : Int) : 0 ≤ es.getD j.toNat 0 ∧ es.getD j.toNat 0 ≤ (n : Int) := by
  by_cases hj : j.toNat < es.length
  · rw [List.getD_eq_getElem?_getD, List.getElem?_eq_getElem hj]; exact h _ (List.getElem_mem hj)
  · rw [List.getD_eq_getElem?_getD, List.getElem?_eq_none (by omega)]; exact ⟨Int.le_refl _, Int.natCast_nonneg _⟩
theorem cut_nil (n : Nat) : Cut n [] := fun y hy => by cases hy
theorem cut_app {n : Nat} {a b : List Int} (ha : Cut n a) (hb : Cut n b) : Cut n (a ++ b) := fun y hy => (List.mem_append.1 hy).elim (ha y) (hb y)
theorem cut_one {n : Nat} {x : Int} (h0 : 0 ≤ x) (h1 : x ≤ (n : Int)) : Cut n [x] := fun y hy => by rw [List.mem_singleton.1 hy]; exact ⟨h0, h1⟩
theorem cut_end {n : Nat} {b : List Int} (h : Cut n b) : Cut n ((([] : List Int) ++ b) ++ [((n : Int) : Int)]) := cut_app (cut_app (cut_nil n) h) (cut_one (Int.natCast_nonneg _) (Int.le_refl _))
theorem cut_sub {n : Nat} {a b : List Int} (h : Cut n b) (hs : ∀ y ∈ a, y ∈ b) : Cut n a := fun y hy => h y (hs y hy)
theorem cut_take {n : Nat} {a : List Int} (h : Cut n a) (k : Nat) : Cut n (a.take k) := cut_sub h fun _ hy => List.mem_of_mem_take hy
theorem cut_drop {n : Nat} {a : List Int} (h : Cut n a) (k : Nat) : Cut n (a.drop k) := cut_sub h fun _ hy => List.mem_of_mem_drop hy
theorem cut_sort {n : Nat} {a : List Int} (h : Cut n a) : Cut n (a.mergeSort fun x y => decide (x ≤ y)) := cut_sub h fun _ hy => List.mem_mergeSort.1 hy

theorem KeepA.keep1o {H H' : AHeap} {b o : Nat} (k : KeepA (some ⟨b, o, none⟩) H H') : Keep1 b H H' := ⟨k.1, fun i hi hn => k.2 i hi (fun x hx => by cases hx; exact fun e => hn e.symm)⟩
theorem OwnS.own1 {α : Type} {f : α → Value} {H : AHeap} {lo b n e : Nat} {xs : List α} (h : OwnS f H lo (some ⟨b, 0, none⟩) n e xs) : Own H b (xs.map f) := by
  obtain ⟨hn, ⟨hx, _⟩ | ⟨c, hx, h, he, hl⟩⟩ := h
  · cases hx
  · cases hx; exact h

theorem HR.sorted {B0 : Nat} {ρ : Ren} {H : AHeap} {w : World} (h : HR B0 ρ H w) {b : Nat} {xs ys : List Int} (hb : Own H b (xs.map fI)) (hl : ys.length = xs.length)
    {c base sz : Nat} (hr : ρ[b]? = some (c, base, sz)) (n : Nat) (os : Array Obj) :
    HR B0 ρ (H.set b (some { cells := ys.map fI, own := true })) (Sort.grow (Sort.putRow fI (Sort.ahead w n) c base ys.toArray) os) ∧
      Below B0 w (Sort.grow (Sort.putRow fI (Sort.ahead w n) c base ys.toArray) os) := by
  obtain ⟨arr, e, fz, hh, h1, h2, h3, h4⟩ := h.live b _ hb c base sz hr
  obtain ⟨hB, rfl⟩ := h4 rfl
  have hcl : c < w.heap.size := (Array.getElem?_eq_some_iff.1 hh).1
  simp only [List.length_map] at h1
  have hbl : b < H.length := (List.getElem?_eq_some_iff.1 hb).1
  have hsz : w.heap.size ≤ (Sort.grow (Sort.putRow fI (Sort.ahead w n) c base ys.toArray) os).heap.size := by
    simp [Sort.grow, Sort.putRow, Sort.mapBlock, Sort.ahead]
  have heap_c : (Sort.grow (Sort.putRow fI (Sort.ahead w n) c base ys.toArray) os).heap[c]? = some (.cells (Sort.putCells fI base ys.toArray arr) e (0, 0)) := by
    simp only [Sort.grow, Sort.putRow, Sort.mapBlock, Sort.ahead]
    rw [Array.getElem?_append_left (by simpa using hcl), Array.getElem?_modify, if_pos rfl, hh]; rfl
  have heap_o : ∀ k, k < w.heap.size → k ≠ c → (Sort.grow (Sort.putRow fI (Sort.ahead w n) c base ys.toArray) os).heap[k]? = w.heap[k]? := fun k hk hn => by
    simp only [Sort.grow, Sort.putRow, Sort.mapBlock, Sort.ahead]
    rw [Array.getElem?_append_left (by simpa using hk), Array.getElem?_modify, if_neg (Ne.symm hn)]
  have get : ∀ (b' : Nat) (blk' : Blk), (H.set b (some { cells := ys.map fI, own := true }))[b']? = some (some blk') → ∃ blk'' : Blk, H[b']? = some (some blk'') ∧ blk''.own = blk'.own := by
    intro b' blk' hb'
    rw [List.getElem?_set] at hb'
    split at hb'
    · rename_i e'; subst e'; (try rw [if_pos hbl] at hb'); cases hb'; exact ⟨_, hb, rfl⟩
    · exact ⟨blk', hb', rfl⟩
  refine ⟨⟨by simp [h.len], Nat.le_trans h.base0 hsz, ?_, ?_⟩, rfl, rfl, rfl, hsz, fun k hk => ?_⟩
  · intro b' blk' hb' c' base' sz' hr'
    rw [List.getElem?_set] at hb'
    split at hb'
    · rename_i e'; subst e'
      (try rw [if_pos hbl] at hb'); cases hb'
      rw [hr] at hr'; cases hr'
      refine ⟨_, _, _, heap_c, by simp only [List.length_map]; omega, by simpa [Sort.putCells] using h2, fun i x hi => ?_, fun _ => ⟨hB, rfl⟩⟩
      have hi' : i < ys.length := by have := (List.getElem?_eq_some_iff.1 hi).1; simpa using this
      refine ⟨x, ?_, ?_, ?_⟩
      · simp only [Sort.putCells, Array.getElem?_mapIdx]
        rw [Array.getElem?_eq_getElem (by omega)]
        simp only [Option.map_some]
        rw [if_pos ⟨by omega, by simp; omega⟩, show base + i - base = i by omega]
        rw [List.getElem?_map, List.getElem?_eq_getElem hi'] at hi
        rw [← hi]
        simp [hi']
      · rw [List.getElem?_map, List.getElem?_eq_getElem hi'] at hi
        cases hi; exact .int _ _
      · rw [List.getElem?_map, List.getElem?_eq_getElem hi'] at hi
        cases hi; rfl
    · rename_i e'
      have hne := h.sep b b' _ blk' hb hb' e' rfl c base sz c' base' sz' hr hr'
      obtain ⟨arr', e'', fz', g1, g2⟩ := h.live b' blk' hb' c' base' sz' hr'
      exact ⟨arr', e'', fz', by rw [heap_o _ (Array.getElem?_eq_some_iff.1 g1).1 (Ne.symm hne)]; exact g1, g2⟩
  · intro b1 b2 blk1 blk2 g1 g2 hne ho1
    obtain ⟨k1, q1, q2⟩ := get _ _ g1
    obtain ⟨k2, q3, q4⟩ := get _ _ g2
    exact h.sep b1 b2 k1 k2 q1 q3 hne (q2.trans ho1)
  · exact heap_o k (Nat.lt_of_lt_of_le hk h.base0) (by omega)

theorem HR.holdsI {B0 : Nat} {ρ : Ren} {H : AHeap} {w : World} (h : HR B0 ρ H w) {b : Nat} {xs : List Int} (hb : Own H b (xs.map fI))
    {c base sz : Nat} (hr : ρ[b]? = some (c, base, sz)) : Sort.Holds fI w c base xs.toArray ∧ c < w.heap.size := by
  obtain ⟨arr, e, fz, hh, h1, h2, h3, h4⟩ := h.live b _ hb c base sz hr
  obtain ⟨hB, rfl⟩ := h4 rfl
  refine ⟨fun j hj => ?_, (Array.getElem?_eq_some_iff.1 hh).1⟩
  have hj' : j < xs.length := by simpa using hj
  obtain ⟨v', a1, a2, a3⟩ := h3 j (fI xs[j]) (by simp [hj'])
  cases a2
  exact ⟨by simp [World.cell?, hh, a1, hj'], by simp [World.frozen?, hh]⟩

def sortF : List Value → AHeap → (Value → AHeap → Prop) → Prop
  | [.slice a n e], H, K => ∃ lo : Nat, ∃ l : List Int, OwnS fI H lo a n e l ∧ l.length < 1073741824 ∧ l ≠ [] ∧ ∀ H' : AHeap, KeepA a H H' → OwnS fI H' lo a n e (l.mergeSort fun x y => decide (x ≤ y)) → K (.tuple #[]) H'
  | _, _, _ => False
def sortS : FSpec := { F := sortF, quiet := false, tame := false }
theorem sortF_o {args : List Value} {H : AHeap} {K : Value → AHeap → Prop} (h : sortS.F args H K) : ∃ (b n e : Nat) (l : List Int) (lo : Nat), args = [.slice (some ⟨b, 0, none⟩) n e] ∧ OwnS fI H lo (some ⟨b, 0, none⟩) n e l ∧ Own H b (l.map fI) ∧ n = l.length ∧ l.length < 1073741824 ∧ l ≠ [] ∧ e = 1 ∧
    ∀ H' : AHeap, KeepA (some ⟨b, 0, none⟩) H H' → OwnS fI H' lo (some ⟨b, 0, none⟩) n e (l.mergeSort fun x y => decide (x ≤ y)) → K (.tuple #[]) H' := by
  simp only [sortS] at h
  unfold sortF at h
  split at h
  · obtain ⟨lo, l, ow, hl, hne, k⟩ := h
    have ow' := ow
    obtain ⟨hn, ⟨rfl, hx⟩ | ⟨c, rfl, h, he, hlo⟩⟩ := ow
    · exact absurd hx hne
    · exact ⟨c, _, _, l, lo, rfl, ow', h, hn, hl, hne, he, k⟩
  · exact h.elim

theorem sort_ok {P : Program} {r : Go.Shelf.Ren} (Ly : SlLaysM.n5 P r) {g : Nat} (hg : g = r.f 5) {fn : Func} (hf : P.funcs[g]? = some fn) (hb : fn.body.isNone = false) (hn : (fn.name == "runtime.NumGoroutine") = false) : FnOk P g sortS := by
  subst hg
  refine ⟨?_, ?_, ?_, ?_, ?_⟩
  · intro args H K K' h hk
    simp only [sortS] at *
    unfold sortF at *
    split at hk
    · obtain ⟨lo, l, ow, hl, hne, k⟩ := hk
      exact ⟨lo, l, ow, hl, hne, fun H' gg o => h _ _ (k H' gg o)⟩
    · exact hk.elim
  · intro hq; cases hq
  · intro args H K hk
    simp only [sortS] at *
    unfold sortF at *
    split at hk
    · obtain ⟨lo, l, ow, hl, hne, k⟩ := hk
      exact (ow.put _ (List.length_mergeSort _)).elim fun H1 h => ⟨_, _, k H1 h.1 h.2⟩
    · exact hk.elim
  · intro hq; cases hq
  · intro B0 ρ H w args args' K hr ha hk o a next Q hnext
    obtain ⟨b, n, e, l, lo, rfl, ow, hb', rfl, hl, hne, rfl, k⟩ := sortF_o hk
    obtain ⟨y, ys, rfl, h3, h4⟩ := ha.uncons
    obtain rfl := h4.unnil
    have hpos : 0 < l.length := List.length_pos_iff.2 hne
    generalize hm : l.length = m at h3
    cases h3 with
    | slice _ _ _ _ c base sz cap hρ hcap hfit =>
      subst hm
      obtain ⟨hH, hblk⟩ := hr.holdsI hb' hρ
      have hc := AnyM.slices_Sort_int Ly c base cap l w hH hblk (by omega)
      have hrun : (callFunc (r.f 5) #[Value.slice (some ⟨c, base, none⟩) l.length cap]).run P w = .ok (.enter (r.f 5) #[Value.slice (some ⟨c, base, none⟩) l.length cap]) w := by
        simp only [callFunc, Sem.run_bind, run_program, Result.andThen_ok, hf, hn, Bool.false_eq_true, if_false, hb, Sem.run_pure]
      show o.upon P a next Q ((callFunc (r.f 5) #[Value.slice (some ⟨c, base + 0, none⟩) l.length cap]).run P w)
      rw [Nat.add_zero, hrun, Oper.upon_enter]
      refine hc.mono ?_
      rintro ed w' ⟨rfl, m, os, rfl⟩
      obtain ⟨hr', hbel⟩ := hr.sorted hb' (List.length_mergeSort (le := fun x y => decide (x ≤ y)) l) hρ m os
      obtain ⟨H1, g1, g2⟩ := ow.put (l.mergeSort fun x y => decide (x ≤ y)) (List.length_mergeSort _)
      refine hnext (.tuple #[]) _ (k _ ⟨by simp, fun i hi hx => ?_⟩ ⟨by rw [List.length_mergeSort], .inr ⟨b, rfl, ?_, rfl, ?_⟩⟩) ρ _ (.tuple #[]) (List.prefix_refl _) hr' ?_ hbel
      · rw [List.getElem?_set, if_neg (fun e => hx _ rfl e)]
      · unfold Own; rw [List.getElem?_set]; simp [hb'.lt]
      · obtain ⟨_, ⟨h, _⟩ | ⟨c', h, _, _, hlo⟩⟩ := ow
        · cases h
        · cases h; exact hlo
      · exact VR.tuple _ _ rfl (by intro i x y hx; simp at hx)
end Go.Proofs.Ytbnplefohfamnaa.Ai
