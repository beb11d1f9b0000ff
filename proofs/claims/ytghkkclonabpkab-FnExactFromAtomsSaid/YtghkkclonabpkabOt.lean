/- Lists of structs that come in as arguments of a law. -/
import Derived.Test.YtghkkclonabpkabOpen
import Derived.Test.YtghkkclonabpkabSt
import Derived.ChangeSame
namespace Go.Proofs.Ytghkkclonabpkab.Ai
open Go Go.RowKit Go.ChangeShapes Go.WideShapes Go.Deep

section
variable {Hh : Type} {enc : TypeId × Value → Hh} {P : Program} {W : World}
theorem opens_listT {α : Type} {f : α → List Value} {sz : Nat} [hs : Sz f sz] {Q : α → Prop} {t e : TypeId} {fuel : Nat} {cs : List Value} {x : DataW Hh × List MemPlace} (ht : P.underlying t = some (.slice e)) (hc : P.cellsOf e = sz)
    (dec : ∀ (fuel : Nat) (vs : List Value) (x : DataW Hh × List MemPlace), DataW.trod enc P W 0 (fun _ => true) true fuel e vs = some x → ∃ y : α, (∀ ρ, VRs ρ (f y) vs) ∧ (f y).all isCell = true ∧ Q y)
    (h : DataW.trod enc P W 0 (fun _ => true) true fuel t cs = some x) {B0 : Nat} {ρ : Ren} {H : AHeap} (hr : HR B0 ρ H W) (hro : RO H) :
    ∃ (ρ' : Ren) (H' : AHeap) (a : Option Addr) (n : Nat) (v : Value) (xs : List α), cs = [v] ∧ ρ <+: ρ' ∧ Grow H H' ∧ HR B0 ρ' H' W ∧ RO H' ∧ VR ρ' (.slice a n 0) v ∧ IsT f H' a n xs ∧ (∀ y ∈ xs, Q y) ∧ xs.length ≤ 9223372036854775807 := by
  rcases open_slice ht h with ⟨rfl, _⟩ | ⟨a, len, cap, m, n, D, Pl, rfl, hb, hl, hm, hmm, rfl, hx⟩
  · exact ⟨ρ, H, none, 0, _, [], rfl, List.prefix_refl _, .refl _, hr, hro, .snil, IsT.nil H none, by simp, by simp⟩
  · simp only [if_true] at hmm
    subst hmm
    rw [hc] at hx
    have hall : ∀ k, k ≤ len → ∃ xs : List α, xs.length = k ∧ (∀ y ∈ xs, Q y) ∧ ∀ i y, xs[i]? = some y → ∃ vs, W.cells? 0 (a.add (i * sz)) sz = some vs ∧ (∀ ρ, VRs ρ (f y) vs) ∧ (f y).all isCell = true := by
      intro k
      induction k with
      | zero => intro _; exact ⟨[], rfl, by simp, by simp⟩
      | succ k ih =>
        intro hk
        obtain ⟨xs, h1, h2, h3⟩ := ih (by omega)
        obtain ⟨vs, c1, c2⟩ := hx k (by omega)
        obtain ⟨y, g1, g2, g3⟩ := dec n vs _ c2
        refine ⟨xs ++ [y], by simp [h1], ?_, ?_⟩
        · intro z hz
          rcases List.mem_append.1 hz with hz | hz
          · exact h2 z hz
          · simp at hz; subst hz; exact g3
        · intro i z hz
          by_cases hi : i < xs.length
          · rw [List.getElem?_append_left hi] at hz; exact h3 i z hz
          · have : i = k := by have := (List.getElem?_eq_some_iff.1 hz).1; simp at this; omega
            subst this
            rw [List.getElem?_append_right (by omega)] at hz
            simp [h1] at hz; subst hz; exact ⟨vs, c1, g1, g2⟩
    obtain ⟨xs, h1, h2, h3⟩ := hall len (Nat.le_refl _)
    rcases Nat.eq_zero_or_pos len with h0 | h0
    · subst h0
      have : xs = [] := List.length_eq_zero_iff.1 h1
      subst this
      exact ⟨ρ, H, some ⟨0, 0, none⟩, 0, _, [], rfl, List.prefix_refl _, .refl _, hr, hro, .sempty _ _ _ _, IsT.nil H _, by simp, by simp⟩
    · have hcells : (xs.flatMap f).length = len * sz := by rw [flat_len, h1]
      obtain ⟨hs', hr', hro'⟩ := hr.addRO hro (a := a) (n := len * sz) (cs := xs.flatMap f) (Nat.mul_pos h0 hs.pos) hcells (by
        intro j v hv
        have hj : j < len * sz := by have := (List.getElem?_eq_some_iff.1 hv).1; omega
        have hi : j / sz < len := Nat.div_lt_of_lt_mul (by rw [Nat.mul_comm]; exact hj)
        have hk : j % sz < sz := Nat.mod_lt _ hs.pos
        have ej : j = j / sz * sz + j % sz := (Nat.div_add_mod' j sz).symm
        obtain ⟨y, hy⟩ : ∃ y, xs[j / sz]? = some y := ⟨_, List.getElem?_eq_getElem (by omega)⟩
        obtain ⟨vs, c1, c2, c3⟩ := h3 _ y hy
        have hv2 : (f y)[j % sz]? = some v := by
          have := flat_get (f := f) xs (i := j / sz) (j := j % sz) (by omega) hk y
          rw [← ej, hv, List.getD_eq_getElem?_getD, hy] at this
          exact this.symm
        obtain ⟨_, hlen, hcell⟩ := World.cells?_some c1
        obtain ⟨v', q1, q2⟩ := (c2 ρ).get hv2
        refine ⟨v', ?_, q2, List.all_eq_true.1 c3 v (List.mem_of_getElem? hv2)⟩
        have := hcell (j % sz) hk
        rw [q1, add_add, ← ej] at this
        exact this)
      have ha : a = ⟨a.block, a.off, none⟩ := by cases a; simp_all
      refine ⟨_, _, some ⟨H.length, 0, none⟩, len, _, xs, rfl, List.prefix_append _ _, Grow.app _ _, hr', hro', ?_, ⟨h1.symm, ?_⟩, h2, by rw [h1]; have : maxLen = 9223372036854775807 := rfl; omega⟩
      · rw [ha]
        have := VR.slice (ρ := ρ ++ [(a.block, a.off, len * sz)]) H.length 0 len 0 a.block a.off (len * sz) m (by rw [hr.len]; simp) hl (fun h => absurd h (by omega))
        simpa using this
      · unfold rdS
        have hpos := Nat.mul_pos h0 hs.pos
        have hb0 : Nat.beq (len * sz) 0 = false := by cases hb : Nat.beq (len * sz) 0; rfl; have := Nat.eq_of_beq_eq_true hb; omega
        rw [hb0]
        simp only [cond_false, rdN, rdB]
        rw [List.getElem?_append_right (Nat.le_refl _), Nat.sub_self]
        simp [hcells]
        rw [List.take_of_length_le (by omega)]
def A3 (y : Int × Nat × Nat) : Prop := I64 y.1 ∧ W32 y.2.1 ∧ W32 y.2.2
/-- An atom that comes in. -/
theorem dec_atom {e : TypeId} {fs : Array Field} {f0 f1 f2 : Field} (he : P.underlying e = some (.struct fs)) (hfs : fs = #[f0, f1, f2]) (o0 : f0.offset = 0) (o1 : f1.offset = 1) (o2 : f2.offset = 2)
    (hi : P.underlying f0.type = some (.int .i64)) (hg : P.underlying f1.type = some (.float .f32)) (hh : P.underlying f2.type = some (.float .f32))
    (ci : P.cellsOf f0.type = 1) (cg : P.cellsOf f1.type = 1) (ch : P.cellsOf f2.type = 1) (ce : P.cellsOf e = 3)
    (fuel : Nat) (vs : List Value) (x : DataW Hh × List MemPlace) (hx : DataW.trod enc P W 0 (fun _ => true) true fuel e vs = some x) :
    ∃ y : Int × Nat × Nat, (∀ ρ, VRs ρ (fA y) vs) ∧ (fA y).all isCell = true ∧ A3 y := by
  subst hfs
  obtain ⟨xs, n, _, rfl, hl, hlen, hf⟩ := DataW.trod_struct he hx
  have h0 := hf 0 f0 rfl
  have h1 := hf 1 f1 rfl
  have h2 := hf 2 f2 rfl
  rw [o0, ci] at h0
  rw [o1, cg] at h1
  rw [o2, ch] at h2
  match xs, hlen with
  | [y0, y1, y2], _ =>
    rw [ce] at hl
    match vs, hl with
    | [v0, v1, v2], _ =>
      obtain ⟨n0, e0, _, w0⟩ := DataW.trod_int hi (show DataW.trod enc P W 0 (fun _ => true) true n f0.type [v0] = some y0 from h0)
      obtain ⟨b1, e1, w1⟩ := dec_float1 hg (show DataW.trod enc P W 0 (fun _ => true) true n f1.type [v1] = some y1 from h1)
      obtain ⟨b2, e2, w2⟩ := dec_float1 hh (show DataW.trod enc P W 0 (fun _ => true) true n f2.type [v2] = some y2 from h2)
      cases e0; cases e1; cases e2
      exact ⟨(n0, cn .f32 b1, cn .f32 b2), fun ρ => VRs.cons (.int _ _) (VRs.cons (.float _ _ _ rfl) (VRs.cons (.float _ _ _ rfl) (VRs.nil _))), rfl, I64.of w0, w1, w2⟩
end
end Go.Proofs.Ytghkkclonabpkab.Ai
