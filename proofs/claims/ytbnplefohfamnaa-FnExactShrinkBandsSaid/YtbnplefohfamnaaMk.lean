/- Lists of lists whose inner lists are written: a row lends one of its lists; marks of all lists of a row. -/
import Derived.Test.YtbnplefohfamnaaLl
set_option linter.unusedVariables false
set_option linter.unusedSimpArgs false
namespace Go.Proofs.Ytbnplefohfamnaa.Ai
open Go

/-- Only the blocks between two numbers have changed. -/
def KeepR (lo hi : Nat) (H H' : AHeap) : Prop := H.length ≤ H'.length ∧ ∀ i, i < H.length → i < lo ∨ hi ≤ i → H'[i]? = H[i]?
theorem KeepR.refl (lo hi : Nat) (H : AHeap) : KeepR lo hi H H := ⟨Nat.le_refl _, fun _ _ _ => rfl⟩
theorem KeepR.trans {lo hi : Nat} {H0 H1 H2 : AHeap} (h : KeepR lo hi H0 H1) (g : KeepR lo hi H1 H2) : KeepR lo hi H0 H2 :=
  ⟨Nat.le_trans h.1 g.1, fun i hi hn => (g.2 i (Nat.lt_of_lt_of_le hi h.1) hn).trans (h.2 i hi hn)⟩
theorem KeepR.wide {lo hi lo' hi' : Nat} {H H' : AHeap} (h : KeepR lo hi H H') (h1 : lo' ≤ lo) (h2 : hi ≤ hi') : KeepR lo' hi' H H' := ⟨h.1, fun i hi hn => h.2 i hi (by omega)⟩
theorem KeepA.keepR {a : Option Addr} {lo hi : Nat} {H H' : AHeap} (h : KeepA a H H') (h1 : ∀ x, a = some x → lo ≤ x.block ∧ x.block < hi) : KeepR lo hi H H' :=
  ⟨h.1, fun i hi hn => h.2 i hi fun x hx e => by have := h1 x hx; omega⟩
theorem Grow.keepR {lo hi : Nat} {H0 H1 H2 : AHeap} (h : Grow H0 H1) (hd : H0.length ≤ lo) (k : KeepR lo hi H1 H2) : Grow H0 H2 :=
  ⟨Nat.le_trans h.1 k.1, fun i hi => (k.2 i (Nat.lt_of_lt_of_le hi h.1) (by omega)).trans (h.2 i hi)⟩
theorem KeepR.grow {lo hi : Nat} {H0 H1 H2 : AHeap} (h : KeepR lo hi H0 H1) (g : Grow H1 H2) : KeepR lo hi H0 H2 :=
  ⟨Nat.le_trans h.1 g.1, fun i hi hn => (g.2 i (Nat.lt_of_lt_of_le hi h.1)).trans (h.2 i hi hn)⟩
theorem Own.keepR {H H' : AHeap} {lo hi b : Nat} {cs : List Value} (h : Own H b cs) (hd : b < lo ∨ hi ≤ b) (k : KeepR lo hi H H') : Own H' b cs := (k.2 b h.lt hd).trans h

/-- It lies below a number. -/
def SepL (a : Option Addr) (lo : Nat) : Prop := ∀ x, a = some x → x.block < lo

section
variable {α : Type} {f : α → Value}
theorem OwnS.keepR {H H' : AHeap} {lo hi l : Nat} {a : Option Addr} {n e : Nat} {xs : List α} (h : OwnS f H l a n e xs) (hd : ∀ x, a = some x → x.block < lo ∨ hi ≤ x.block) (k : KeepR lo hi H H') : OwnS f H' l a n e xs := by
  obtain ⟨hn, ⟨rfl, hx⟩ | ⟨c, rfl, h, he, hl⟩⟩ := h
  · exact ⟨hn, .inl ⟨rfl, hx⟩⟩
  · exact ⟨hn, .inr ⟨c, rfl, h.keepR (hd _ rfl) k, he, hl⟩⟩
theorem OwnB.keepR {H H' : AHeap} {lo hi l u b : Nat} {xss : List (List α)} (h : OwnB f H l u b xss) (hd : u ≤ lo ∨ hi ≤ l) (k : KeepR lo hi H H') : OwnB f H' l u b xss := by
  obtain ⟨h1, h2, h3, vs, h4, h5⟩ := h
  refine ⟨h1, h2, Nat.le_trans h3 k.1, vs, h4.keepR (by omega) k, h5.map (Nat.le_refl _) (Nat.le_refl _) fun a n e xs o hb => ?_⟩
  exact o.keepR (fun x hx => by have := (hb x hx).1; have := o.lo x hx; omega) k
theorem OwnLL.keepR {H H' : AHeap} {lo hi l u : Nat} {a : Option Addr} {n e : Nat} {xss : List (List α)} (h : OwnLL f H l u a n e xss) (hd : u ≤ lo ∨ hi ≤ l) (k : KeepR lo hi H H') : OwnLL f H' l u a n e xss := by
  obtain ⟨rfl, ⟨rfl, rfl⟩ | ⟨c, rfl, h, he⟩⟩ := h
  · exact ⟨rfl, .inl ⟨rfl, rfl⟩⟩
  · exact ⟨rfl, .inr ⟨c, rfl, h.keepR hd k, he⟩⟩
/-- A row lends one of its lists. -/
theorem OwnB.lend {H : AHeap} {lo hi b i : Nat} {xss : List (List α)} (h : OwnB f H lo hi b xss) (hi' : i < xss.length) :
    ∃ (a : Option Addr) (n e : Nat), rdC H b (0 + i * 1) = some (.slice a n e) ∧ OwnS f H lo a n e (xss.getD i []) ∧ (∀ x, a = some x → lo ≤ x.block ∧ x.block < hi) ∧
      ∀ (H' : AHeap) (ys : List α), KeepA a H H' → OwnS f H' lo a n e ys → OwnB f H' lo hi b (xss.set i ys) := by
  obtain ⟨h1, h2, h3, vs, h4, h5, h6, h7⟩ := h
  have hv : i < vs.length := by omega
  obtain ⟨a, n, e, g1, g2, g3⟩ := h6 i _ _ (List.getElem?_eq_getElem hv) (List.getElem?_eq_getElem hi')
  have hg : xss.getD i [] = xss[i] := by rw [List.getD_eq_getElem?_getD, List.getElem?_eq_getElem hi']; rfl
  refine ⟨a, n, e, ?_, by rw [hg]; exact g2, fun x hx => ⟨g2.lo x hx, (g3 x hx).1⟩, fun H' ys k o => ?_⟩
  · rw [Nat.zero_add, Nat.mul_one, h4.rdC, List.getElem?_eq_getElem hv, g1]
  · refine ⟨h1, h2, Nat.le_trans h3 k.1, vs, h4.keepA (fun x hx => (g3 x hx).2) k, by rw [List.length_set]; exact h5, fun j v xs hjv hjx => ?_, h7⟩
    by_cases hij : i = j
    · subst hij
      rw [List.getElem?_set_self (by omega)] at hjx
      rw [List.getElem?_eq_getElem hv, g1] at hjv
      cases hjv; cases hjx
      exact ⟨a, n, e, rfl, o, g3⟩
    · rw [List.getElem?_set_ne hij] at hjx
      obtain ⟨a', n', e', q1, q2, q3⟩ := h6 j v xs hjv hjx
      refine ⟨a', n', e', q1, q2.keepA (h7 i j a n e a' n' e' hij (by rw [List.getElem?_eq_getElem hv, g1]) (by rw [hjv, q1])) k, q3⟩
/-- It can be marked: there is such a heap. -/
theorem OwnB.puts {H : AHeap} {lo hi b : Nat} {yss : List (List α)} : ∀ {xss : List (List α)}, OwnB f H lo hi b xss → yss.length = xss.length → (∀ i : Nat, (yss.getD i []).length = (xss.getD i []).length) → ∃ H', KeepR lo hi H H' ∧ OwnB f H' lo hi b yss := by
  have key : ∀ (k : Nat) (H : AHeap) (xss : List (List α)), OwnB f H lo hi b xss → yss.length = xss.length → (∀ i : Nat, (yss.getD i []).length = (xss.getD i []).length) → (∀ i, k ≤ i → yss.getD i [] = xss.getD i []) → ∃ H', KeepR lo hi H H' ∧ OwnB f H' lo hi b yss := by
    intro k
    induction k with
    | zero =>
      intro H xss h hl _ he
      have : yss = xss := List.ext_getElem? fun i => by
        by_cases hi : i < yss.length
        · have := he i (Nat.zero_le _)
          rw [List.getD_eq_getElem?_getD, List.getD_eq_getElem?_getD, List.getElem?_eq_getElem hi, List.getElem?_eq_getElem (by omega : i < xss.length)] at this
          rw [List.getElem?_eq_getElem hi, List.getElem?_eq_getElem (by omega : i < xss.length)]
          exact congrArg some this
        · rw [List.getElem?_eq_none (by omega), List.getElem?_eq_none (by omega)]
      subst this
      exact ⟨H, KeepR.refl _ _ _, h⟩
    | succ k ih =>
      intro H xss h hl hs he
      by_cases hk : k < xss.length
      · obtain ⟨a, n, e, g1, g2, g3, g4⟩ := h.lend hk
        obtain ⟨H1, k1, o1⟩ := g2.put (yss.getD k []) (hs k)
        have h1 := g4 H1 _ k1 o1
        obtain ⟨H2, k2, o2⟩ := ih H1 _ h1 (by rw [List.length_set]; exact hl) (fun i => by
          by_cases hi : i = k
          · subst hi; simp [List.getD_eq_getElem?_getD, List.getElem?_set_self hk]
          · rw [hs i]; simp only [List.getD_eq_getElem?_getD]; rw [List.getElem?_set_ne (by omega)]) (fun i hi => by
          by_cases hi' : i = k
          · subst hi'; simp [List.getD_eq_getElem?_getD, List.getElem?_set_self hk]
          · rw [he i (by omega)]; simp only [List.getD_eq_getElem?_getD]; rw [List.getElem?_set_ne (by omega)])
        exact ⟨H2, (k1.keepR g3).trans k2, o2⟩
      · exact ih H xss h hl hs fun i hi => by
          simp only [List.getD_eq_getElem?_getD]
          rw [List.getElem?_eq_none (by omega), List.getElem?_eq_none (by omega)]
  intro xss h hl hs
  exact key xss.length H xss h hl hs fun i hi => by
    simp only [List.getD_eq_getElem?_getD]
    rw [List.getElem?_eq_none (by omega), List.getElem?_eq_none (by omega)]
theorem OwnLL.puts {H : AHeap} {lo hi : Nat} {a : Option Addr} {n e : Nat} {xss yss : List (List α)} (h : OwnLL f H lo hi a n e xss) (hl : yss.length = xss.length) (hs : ∀ i : Nat, (yss.getD i []).length = (xss.getD i []).length) : ∃ H', KeepR lo hi H H' ∧ OwnLL f H' lo hi a n e yss := by
  obtain ⟨rfl, ⟨rfl, rfl⟩ | ⟨b, rfl, h, he⟩⟩ := h
  · have : yss = [] := List.length_eq_zero_iff.1 hl
    subst this
    exact ⟨H, KeepR.refl _ _ _, rfl, .inl ⟨rfl, rfl⟩⟩
  · obtain ⟨H', k, o⟩ := h.puts hl hs
    exact ⟨H', k, hl.symm, .inr ⟨b, rfl, o, he⟩⟩
theorem OwnS.putR {H : AHeap} {lo lo2 : Nat} {a : Option Addr} {n e : Nat} {xs : List α} (h : OwnS f H lo a n e xs) (hs : SepL a lo2) (ys : List α) (hl : ys.length = xs.length) : ∃ H', KeepR lo lo2 H H' ∧ OwnS f H' lo a n e ys := by
  obtain ⟨H', k, o⟩ := h.put ys hl
  exact ⟨H', k.keepR fun x hx => ⟨h.lo x hx, hs x hx⟩, o⟩
theorem liveSLx {β : Type} {f0 : β → Value} {H : AHeap} {xs : List β} {xss : List (List α)} {R : Prop} (h : ∀ a n e a2 n2 e2 H', Grow H H' → ∀ lo2 : Nat, H.length ≤ lo2 → lo2 ≤ H'.length → SepL a lo2 → OwnS f0 H' H.length a n e xs → OwnLL f H' lo2 H'.length a2 n2 e2 xss → R) : R := by
  obtain ⟨H', a, n, e, g, o⟩ := OwnS.make f0 H xs
  obtain ⟨H2, a2, n2, e2, g2, o2⟩ := OwnLL.make f H' xss
  exact h a n e a2 n2 e2 H2 (g.trans g2) H'.length g.1 g2.1 o.up (o.grow g2) o2
end

/-- Marks of the lists of a row, one behind the other. -/
def wkk (k : Int) : List (List Nat) → Int
  | [] => k
  | y :: r => wkk (wk k y.length) r
def markss (F : Int → Nat) (k : Int) : List (List Nat) → List (List Nat)
  | [] => []
  | y :: r => marks F k y.length :: markss F (wk k y.length) r
theorem markss_length (F : Int → Nat) : ∀ (l : List (List Nat)) (k : Int), (markss F k l).length = l.length := by
  intro l
  induction l with
  | nil => intro k; rfl
  | cons y r ih => intro k; simp [markss, ih]
theorem markss_getD (F : Int → Nat) : ∀ (l : List (List Nat)) (k : Int) (i : Nat), ((markss F k l).getD i []).length = (l.getD i []).length := by
  intro l
  induction l with
  | nil => intro k i; rfl
  | cons y r ih =>
    intro k i
    cases i with
    | zero => simp [markss, marks_length]
    | succ i => simpa [markss] using ih (wk k y.length) i
theorem wkk_nn : ∀ (l : List (List Nat)) (k : Int), (∀ k n, 0 ≤ k → n < 1073741824 → 0 ≤ wk k n) → (∀ y ∈ l, y.length < 1073741824) → 0 ≤ k → 0 ≤ wkk k l := by
  intro l
  induction l with
  | nil => intro k _ _ h; exact h
  | cons y r ih => intro k hw hy h; exact ih _ hw (fun z hz => hy z (List.mem_cons_of_mem _ hz)) (hw _ _ h (hy y (List.mem_cons_self ..)))
/-- What all the lists come to. -/
def tot (l : List (List Nat)) : Nat := (l.map List.length).sum
theorem wkk_wk : ∀ (l : List (List Nat)) (k : Int), wkk k l = wk k (tot l) := by
  intro l
  induction l with
  | nil => intro k; rfl
  | cons y r ih => intro k; rw [wkk, ih, wk_add]; rfl
end Go.Proofs.Ytbnplefohfamnaa.Ai
