/- Lists of lists that come in as arguments of a law. -/
import Derived.Test.YtbnplefohfamnaaOpen
import Derived.Test.YtbnplefohfamnaaLl
namespace Go.Proofs.Ytbnplefohfamnaa.Ai
open Go Go.RowKit Go.ChangeShapes Go.WideShapes Go.Deep

section
variable {Hh : Type} {enc : TypeId × Value → Hh} {P : Program} {W : World}
theorem opens_ll {t e e2 : TypeId} {fuel : Nat} {cs : List Value} {x : DataW Hh × List MemPlace} (ht : P.underlying t = some (.slice e)) (hc : P.cellsOf e = 1) (he : P.underlying e = some (.slice e2)) (hc2 : P.cellsOf e2 = 1) (hf : P.underlying e2 = some (.float .f32))
    (h : DataW.trod enc P W 0 (fun _ => true) true fuel t cs = some x) {B0 : Nat} {ρ : Ren} {H : AHeap} (hr : HR B0 ρ H W) (hro : RO H) :
    ∃ (ρ' : Ren) (H' : AHeap) (a : Option Addr) (n : Nat) (v : Value) (xss : List (List Nat)), cs = [v] ∧ ρ <+: ρ' ∧ Grow H H' ∧ HR B0 ρ' H' W ∧ RO H' ∧ VR ρ' (.slice a n 0) v ∧ IsLL fF H' a n xss ∧ (∀ y ∈ xss, (∀ z ∈ y, W32 z) ∧ y.length ≤ 9223372036854775807) ∧ xss.length ≤ 9223372036854775807 := by
  rcases open_slice1 ht hc h with ⟨rfl, _⟩ | ⟨a, len, cap, m, n, V, D, Pl, rfl, hb, hl, hm, hmm, rfl, hx⟩
  · exact ⟨ρ, H, none, 0, _, [], rfl, List.prefix_refl _, .refl _, hr, hro, .snil, ⟨[], rfl, trivial⟩, by simp, by simp⟩
  · simp only [if_true] at hmm
    subst hmm
    have hall : ∀ k, k ≤ len → ∃ (ρ' : Ren) (H' : AHeap) (vs : List Value) (xss : List (List Nat)), vs.length = k ∧ xss.length = k ∧ ρ <+: ρ' ∧ Grow H H' ∧ HR B0 ρ' H' W ∧ RO H' ∧ (∀ y ∈ xss, (∀ z ∈ y, W32 z) ∧ y.length ≤ 9223372036854775807) ∧
        ∀ (i : Nat) (v : Value) (xs : List Nat), vs[i]? = some v → xss[i]? = some xs → ∃ (a : Option Addr) (n : Nat), v = Value.slice a n 0 ∧ VR ρ' v (V i) ∧ IsL fF H' a n xs := by
      intro k
      induction k with
      | zero => intro _; exact ⟨ρ, H, [], [], rfl, rfl, List.prefix_refl _, .refl _, hr, hro, by simp, by simp⟩
      | succ k ih =>
        intro hk
        obtain ⟨ρ1, H1, vs, xss, l1, l2, p1, g1, r1, o1, q1, c1⟩ := ih (by omega)
        obtain ⟨ρ2, H2, a2, n2, v2, xs2, e1, p2, g2, r2, o2, vr2, il2, q2, ln2⟩ := opens_list he hc2 (dec_float (e := e2) hf) (hx k (by omega)).2 r1 o1
        cases e1
        refine ⟨ρ2, H2, vs ++ [Value.slice a2 n2 0], xss ++ [xs2], by simp [l1], by simp [l2], p1.trans p2, g1.trans g2, r2, o2, ?_, ?_⟩
        · intro y hy
          rcases List.mem_append.1 hy with hy | hy
          · exact q1 y hy
          · simp at hy; subst hy; exact ⟨q2, ln2⟩
        · intro i v xs hv hx'
          by_cases hi : i < vs.length
          · rw [List.getElem?_append_left hi] at hv
            rw [List.getElem?_append_left (by omega)] at hx'
            obtain ⟨a, n, z1, z2, z3⟩ := c1 i v xs hv hx'
            exact ⟨a, n, z1, z2.mono p2, z3.grow g2⟩
          · have hik : i = k := by have := (List.getElem?_eq_some_iff.1 hv).1; simp at this; omega
            subst hik
            rw [List.getElem?_append_right (by omega), l1, Nat.sub_self] at hv
            rw [List.getElem?_append_right (by omega), l2, Nat.sub_self] at hx'
            cases hv; cases hx'
            exact ⟨a2, n2, rfl, vr2, il2⟩
    obtain ⟨ρ1, H1, vs, xss, l1, l2, p1, g1, r1, o1, q1, c1⟩ := hall len (Nat.le_refl _)
    have hml : maxLen = 9223372036854775807 := rfl
    rcases Nat.eq_zero_or_pos len with h0 | h0
    · subst h0
      have : xss = [] := List.length_eq_zero_iff.1 l2
      subst this
      exact ⟨ρ, H, some ⟨0, 0, none⟩, 0, _, [], rfl, List.prefix_refl _, .refl _, hr, hro, .sempty _ _ _ _, ⟨[], rfl, trivial⟩, by simp, by simp⟩
    · obtain ⟨hs, hr', hro'⟩ := r1.addRO o1 (a := a) (n := len) (cs := vs) h0 l1 (by
        intro i v hv
        have hi : i < len := by have := (List.getElem?_eq_some_iff.1 hv).1; omega
        obtain ⟨a, n, z1, z2, z3⟩ := c1 i v _ hv (List.getElem?_eq_getElem (by omega : i < xss.length))
        exact ⟨V i, (hx i (by omega)).1, z2, by rw [z1]; rfl⟩)
      have ha : a = ⟨a.block, a.off, none⟩ := by cases a; simp_all
      have g2 := Grow.app H1 (some ({ cells := vs, own := false } : Blk))
      refine ⟨_, _, some ⟨H1.length, 0, none⟩, len, _, xss, rfl, p1.trans (List.prefix_append _ _), g1.trans g2, hr', hro', ?_, ⟨vs, ?_, LLc.of (by omega) fun i v xs hv hx' => ?_⟩, q1, by omega⟩
      · rw [ha]
        have := VR.slice (ρ := ρ1 ++ [(a.block, a.off, len)]) H1.length 0 len 0 a.block a.off len m (by rw [r1.len]; simp) hl (fun h => absurd h (by omega))
        simpa using this
      · unfold rdS
        have hb0 : Nat.beq len 0 = false := by cases hb : Nat.beq len 0; rfl; have := Nat.eq_of_beq_eq_true hb; omega
        rw [hb0]
        simp only [cond_false, rdN, rdB]
        rw [List.getElem?_append_right (Nat.le_refl _), Nat.sub_self]
        simp [l1]
        rw [List.take_of_length_le (by omega)]
      · obtain ⟨a, n, z1, z2, z3⟩ := c1 i v xs hv hx'
        exact ⟨a, n, 0, z1, z3.grow g2⟩
end
theorem or_right {p : Int} {Q : Prop} (h : p < 0 ∨ Q) (h2 : ¬ p < 0) : Q := h.resolve_left h2
end Go.Proofs.Ytbnplefohfamnaa.Ai
