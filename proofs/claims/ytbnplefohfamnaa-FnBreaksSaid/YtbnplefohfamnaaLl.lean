/- Lists of lists that a function has made: a block of slices, and the blocks of the lists. -/
import Derived.Test.YtbnplefohfamnaaAp
set_option linter.unusedVariables false
set_option linter.unusedSimpArgs false
namespace Go.Proofs.Ytbnplefohfamnaa.Ai
open Go

section
variable {α : Type} {f : α → Value}
/-- The lists that the slices of a block hold: ours, between two numbers, apart from the block and from one another. -/
def Inn (f : α → Value) (H : AHeap) (lo hi b : Nat) (vs : List Value) (xss : List (List α)) : Prop :=
  vs.length = xss.length ∧ (∀ (i : Nat) (v : Value) (xs : List α), vs[i]? = some v → xss[i]? = some xs → ∃ (a : Option Addr) (n e : Nat), v = Value.slice a n e ∧ OwnS f H lo a n e xs ∧ ∀ x, a = some x → x.block < hi ∧ x.block ≠ b) ∧
  ∀ (i j : Nat) (a : Option Addr) (n e : Nat) (a' : Option Addr) (n' e' : Nat), i ≠ j → vs[i]? = some (Value.slice a n e) → vs[j]? = some (Value.slice a' n' e') → SepA a a'
def OwnB (f : α → Value) (H : AHeap) (lo hi b : Nat) (xss : List (List α)) : Prop := lo ≤ b ∧ b < hi ∧ hi ≤ H.length ∧ ∃ vs, Own H b vs ∧ Inn f H lo hi b vs xss
def OwnLL (f : α → Value) (H : AHeap) (lo hi : Nat) (a : Option Addr) (n e : Nat) (xss : List (List α)) : Prop :=
  n = xss.length ∧ ((a = none ∧ xss = []) ∨ ∃ b, a = some ⟨b, 0, none⟩ ∧ OwnB f H lo hi b xss ∧ e = 1)
theorem OwnB.lt {H : AHeap} {lo hi b : Nat} {xss : List (List α)} (h : OwnB f H lo hi b xss) : b < H.length := Nat.lt_of_lt_of_le h.2.1 h.2.2.1
theorem OwnB.rng {H : AHeap} {lo hi b : Nat} {xss : List (List α)} (h : OwnB f H lo hi b xss) : lo ≤ b ∧ b < hi ∧ hi ≤ H.length := ⟨h.1, h.2.1, h.2.2.1⟩
theorem Inn.map {H H' : AHeap} {lo hi b lo' hi' : Nat} {vs : List Value} {xss : List (List α)} (h : Inn f H lo hi b vs xss) (hl : lo' ≤ lo) (hh : hi ≤ hi')
    (k : ∀ a n e xs, OwnS f H lo a n e xs → (∀ x, a = some x → x.block < hi ∧ x.block ≠ b) → OwnS f H' lo a n e xs) : Inn f H' lo' hi' b vs xss := by
  obtain ⟨h1, h2, h3⟩ := h
  refine ⟨h1, fun i v xs hv hx => ?_, h3⟩
  obtain ⟨a, n, e, g1, g2, g3⟩ := h2 i v xs hv hx
  exact ⟨a, n, e, g1, (k _ _ _ _ g2 g3).weak hl, fun x hx => ⟨Nat.lt_of_lt_of_le (g3 x hx).1 hh, (g3 x hx).2⟩⟩
theorem OwnB.grow {H H' : AHeap} {lo hi b : Nat} {xss : List (List α)} (h : OwnB f H lo hi b xss) (g : Grow H H') : OwnB f H' lo hi b xss := by
  obtain ⟨h1, h2, h3, vs, h4, h5⟩ := h
  exact ⟨h1, h2, Nat.le_trans h3 g.1, vs, h4.grow g, h5.map (Nat.le_refl _) (Nat.le_refl _) fun a n e xs o _ => o.grow g⟩
theorem OwnB.weak {H : AHeap} {lo hi lo' hi' b : Nat} {xss : List (List α)} (h : OwnB f H lo hi b xss) (hl : lo' ≤ lo) (hh : hi ≤ hi') (hi2 : hi' ≤ H.length) : OwnB f H lo' hi' b xss := by
  obtain ⟨h1, h2, h3, vs, h4, h5⟩ := h
  exact ⟨Nat.le_trans hl h1, Nat.lt_of_lt_of_le h2 hh, hi2, vs, h4, h5.map hl hh fun a n e xs o _ => o⟩
theorem OwnB.keep {H H' : AHeap} {lo hi b b' : Nat} {xss : List (List α)} (h : OwnB f H lo hi b xss) (hd : b' < lo ∨ hi ≤ b') (k : Keep1 b' H H') : OwnB f H' lo hi b xss := by
  obtain ⟨h1, h2, h3, vs, h4, h5⟩ := h
  refine ⟨h1, h2, Nat.le_trans h3 k.1, vs, h4.keep (by omega) k, h5.map (Nat.le_refl _) (Nat.le_refl _) fun a n e xs o hb => ?_⟩
  exact o.keep (fun x hx => (hb x hx).1) hd k
theorem OwnB.keepA {H H' : AHeap} {lo hi b : Nat} {a2 : Option Addr} {xss : List (List α)} (h : OwnB f H lo hi b xss) (hd : ∀ x, a2 = some x → x.block < lo ∨ hi ≤ x.block) (k : KeepA a2 H H') : OwnB f H' lo hi b xss := by
  obtain ⟨h1, h2, h3, vs, h4, h5⟩ := h
  refine ⟨h1, h2, Nat.le_trans h3 k.1, vs, h4.keepA (fun x hx => by have := hd x hx; omega) k, h5.map (Nat.le_refl _) (Nat.le_refl _) fun a n e xs o hb => ?_⟩
  exact o.keepA (fun x y hx hy => by have := hd x hx; have := (hb y hy).1; have := o.lo y hy; omega) k
theorem LLc.of {H : AHeap} : ∀ {vs : List Value} {xss : List (List α)}, vs.length = xss.length → (∀ (i : Nat) (v : Value) (xs : List α), vs[i]? = some v → xss[i]? = some xs → ∃ (a : Option Addr) (n e : Nat), v = Value.slice a n e ∧ IsL f H a n xs) → LLc f H vs xss := by
  intro vs
  induction vs with
  | nil =>
    intro xss hl h
    cases xss with
    | nil => trivial
    | cons x r => cases hl
  | cons v r ih =>
    intro xss hl h
    cases xss with
    | nil => cases hl
    | cons x r' =>
      obtain ⟨a, n, e, rfl, h1⟩ := h 0 v x rfl rfl
      exact ⟨h1, ih (by simpa using hl) fun i v xs hv hx => h (i + 1) v xs (by simpa using hv) (by simpa using hx)⟩
theorem OwnB.isLL {H : AHeap} {lo hi b : Nat} {xss : List (List α)} (h : OwnB f H lo hi b xss) {n : Nat} (hn : n = xss.length) : IsLL f H (some ⟨b, 0, none⟩) n xss := by
  obtain ⟨h1, h2, h3, vs, h4, h5⟩ := h
  refine ⟨vs, h4.rdAll (by rw [hn, h5.1]), LLc.of h5.1 fun i v xs hv hx => ?_⟩
  obtain ⟨a, n, e, g1, g2, g3⟩ := h5.2.1 i v xs hv hx
  exact ⟨a, n, e, g1, g2.isL⟩
theorem OwnLL.isL {H : AHeap} {lo hi : Nat} {a : Option Addr} {n e : Nat} {xss : List (List α)} (h : OwnLL f H lo hi a n e xss) : IsLL f H a n xss := by
  obtain ⟨rfl, ⟨rfl, rfl⟩ | ⟨b, rfl, h, _⟩⟩ := h
  · exact ⟨[], rfl, trivial⟩
  · exact h.isLL rfl
theorem OwnLL.grow {H H' : AHeap} {lo hi : Nat} {a : Option Addr} {n e : Nat} {xss : List (List α)} (h : OwnLL f H lo hi a n e xss) (g : Grow H H') : OwnLL f H' lo hi a n e xss := by
  obtain ⟨rfl, ⟨rfl, rfl⟩ | ⟨b, rfl, h, he⟩⟩ := h
  · exact ⟨rfl, .inl ⟨rfl, rfl⟩⟩
  · exact ⟨rfl, .inr ⟨b, rfl, h.grow g, he⟩⟩
theorem OwnLL.keep {H H' : AHeap} {lo hi b : Nat} {a : Option Addr} {n e : Nat} {xss : List (List α)} (h : OwnLL f H lo hi a n e xss) (hd : b < lo ∨ hi ≤ b) (k : Keep1 b H H') : OwnLL f H' lo hi a n e xss := by
  obtain ⟨rfl, ⟨rfl, rfl⟩ | ⟨c, rfl, h, he⟩⟩ := h
  · exact ⟨rfl, .inl ⟨rfl, rfl⟩⟩
  · exact ⟨rfl, .inr ⟨c, rfl, h.keep hd k, he⟩⟩
theorem OwnLL.keepA {H H' : AHeap} {lo hi : Nat} {a a2 : Option Addr} {n e : Nat} {xss : List (List α)} (h : OwnLL f H lo hi a n e xss) (hd : ∀ x, a2 = some x → x.block < lo ∨ hi ≤ x.block) (k : KeepA a2 H H') : OwnLL f H' lo hi a n e xss := by
  obtain ⟨rfl, ⟨rfl, rfl⟩ | ⟨c, rfl, h, he⟩⟩ := h
  · exact ⟨rfl, .inl ⟨rfl, rfl⟩⟩
  · exact ⟨rfl, .inr ⟨c, rfl, h.keepA hd k, he⟩⟩
theorem OwnLL.weak {H : AHeap} {lo hi lo' hi' : Nat} {a : Option Addr} {n e : Nat} {xss : List (List α)} (h : OwnLL f H lo hi a n e xss) (hl : lo' ≤ lo) (hh : hi ≤ hi') (h2 : hi' ≤ H.length) : OwnLL f H lo' hi' a n e xss := by
  obtain ⟨rfl, ⟨rfl, rfl⟩ | ⟨c, rfl, h, he⟩⟩ := h
  · exact ⟨rfl, .inl ⟨rfl, rfl⟩⟩
  · exact ⟨rfl, .inr ⟨c, rfl, h.weak hl hh h2, he⟩⟩
theorem OwnLL.nil (H : AHeap) (lo hi e : Nat) : OwnLL f H lo hi none 0 e [] := ⟨rfl, .inl ⟨rfl, rfl⟩⟩
theorem OwnB.ownLL {H : AHeap} {lo hi b n : Nat} {xss : List (List α)} (h : OwnB f H lo hi b xss) (hn : n = xss.length) : OwnLL f H lo hi (some ⟨b, 0, none⟩) n 1 xss := ⟨hn, .inr ⟨b, rfl, h, rfl⟩⟩
theorem OwnLL.len {H : AHeap} {lo hi : Nat} {a : Option Addr} {n e : Nat} {xss : List (List α)} (h : OwnLL f H lo hi a n e xss) : n = xss.length := h.1
theorem OwnLL.up {H : AHeap} {lo hi : Nat} {a : Option Addr} {n e : Nat} {xss : List (List α)} (h : OwnLL f H lo hi a n e xss) : ∀ x, a = some x → x.block < hi := by
  obtain ⟨_, ⟨rfl, _⟩ | ⟨b, rfl, h, _⟩⟩ := h
  · intro x hx; cases hx
  · intro x hx; cases hx; exact h.2.1
theorem OwnLL.lo {H : AHeap} {lo hi : Nat} {a : Option Addr} {n e : Nat} {xss : List (List α)} (h : OwnLL f H lo hi a n e xss) : ∀ x, a = some x → lo ≤ x.block := by
  obtain ⟨_, ⟨rfl, _⟩ | ⟨b, rfl, h, _⟩⟩ := h
  · intro x hx; cases hx
  · intro x hx; cases hx; exact h.1
/-- A row of nil slices. -/
theorem zeros_ll {H : AHeap} {b n : Nat} (h : Own H b (zerosOf (.slice none 0 0) n)) (lo : Nat) (hl : lo ≤ b) : OwnB f H lo H.length b (List.replicate n []) := by
  have e : zerosOf (.slice none 0 0) n = List.replicate n (.slice none 0 0) := by
    unfold zerosOf
    induction n with
    | zero => rfl
    | succ n ih => rw [List.replicate_succ, List.flatten_cons, List.replicate_succ]; exact congrArg _ (by
        clear h; clear ih
        induction n with
        | zero => rfl
        | succ n ih => rw [List.replicate_succ, List.flatten_cons, List.replicate_succ]; exact congrArg _ ih)
  rw [e] at h
  refine ⟨hl, h.lt, Nat.le_refl _, _, h, by simp, fun i v xs hv hx => ?_, fun i j a n e a' n' e' _ hv hw x y hx hy => ?_⟩
  · rw [List.getElem?_replicate] at hv hx
    split at hv
    · rename_i hi
      rw [if_pos hi] at hx
      cases hv; cases hx
      exact ⟨none, 0, 0, rfl, ⟨rfl, .inl ⟨rfl, rfl⟩⟩, fun x hx => by cases hx⟩
    · cases hv
  · rw [List.getElem?_replicate] at hv
    split at hv
    · cases hv; cases hx
    · cases hv
/-- One of the lists is laid into the row. -/
theorem Lt.setB {H : AHeap} {lo hi b i lo2 : Nat} {a : Option Addr} {n e : Nat} {xs : List α} {xss : List (List α)} {K : AHeap → Prop} (h : OwnB f H lo hi b xss) (hi' : i < xss.length)
    (ho : OwnS f H lo2 a n e xs) (hlo : lo ≤ lo2) (hs : ∀ x, a = some x → hi ≤ x.block ∧ x.block < H.length)
    (hk : ∀ H' : AHeap, H'.length = H.length → OwnB f H' lo H'.length b (xss.set i xs) → Keep1 b H H' → K H') : isOwn H b ∧ (∃ l, rdN H b (0 + i * 1) 1 = some l) ∧ Lt (setC H b (0 + i * 1) (.slice a n e)) K := by
  obtain ⟨h1, h2, h3, vs, h4, h5⟩ := h
  have hlen := h5.1
  refine Lt.set h4 (by omega) fun H' g1 g2 g3 => hk H' g1 ⟨h1, by omega, Nat.le_refl _, _, g2, ?_⟩ g3
  rw [Nat.zero_add, Nat.mul_one]
  refine ⟨by simp [hlen], fun j v ys hv hx => ?_, ?_⟩
  · rw [List.getElem?_set] at hv hx
    by_cases hij : i = j
    · subst hij
      rw [if_pos rfl, if_pos (by omega)] at hv hx
      cases hv; cases hx
      refine ⟨a, n, e, rfl, (ho.keepA (fun x y hx hy => by cases hx; intro hh; have := hs y hy; dsimp only at hh; omega) (OwnS.keep1 g3)).weak hlo, fun x hx => ?_⟩
      have := hs x hx; omega
    · rw [if_neg hij] at hv hx
      obtain ⟨a', n', e', q1, q2, q3⟩ := h5.2.1 j v ys hv hx
      refine ⟨a', n', e', q1, q2.keepA (fun x y hx hy => by cases hx; intro hh; exact (q3 y hy).2 hh.symm) (OwnS.keep1 g3), fun x hx => ?_⟩
      have := q3 x hx; omega
  · have old : ∀ (j : Nat) (a' : Option Addr) (n' e' : Nat), vs[j]? = some (Value.slice a' n' e') → ∀ x, a' = some x → x.block < hi := by
      intro j a' n' e' hv x hx
      have hj := (List.getElem?_eq_some_iff.1 hv).1
      obtain ⟨a2, n2, e2, q1, q2, q3⟩ := h5.2.1 j _ _ hv (List.getElem?_eq_getElem (by omega : j < xss.length))
      cases q1
      exact (q3 x hx).1
    intro j k a1 n1 e1 a2 n2 e2 hjk hv hw
    rw [List.getElem?_set] at hv hw
    by_cases hij : i = j
    · subst hij
      rw [if_pos rfl, if_pos (by omega)] at hv
      rw [if_neg hjk] at hw
      cases hv
      intro x y hx hy
      have := hs x hx
      have := old k _ _ _ hw y hy
      omega
    · rw [if_neg hij] at hv
      by_cases hik : i = k
      · subst hik
        rw [if_pos rfl, if_pos (by omega)] at hw
        cases hw
        intro x y hx hy
        have := hs y hy
        have := old j _ _ _ hv x hx
        omega
      · rw [if_neg hik] at hw
        exact h5.2.2 j k _ _ _ _ _ _ hjk hv hw
/-- An append of one list: to nil, or to a row of ours. -/
theorem OwnLL.ownB {H : AHeap} {lo hi : Nat} {a : Option Addr} {n e : Nat} {xss : List (List α)} (h : OwnLL f H lo hi a n e xss) : ∃ vs, Ai.ownB H a n e 1 = some vs ∧ (a = none → vs = []) ∧ ∀ b, a = some ⟨b, 0, none⟩ → Own H b vs := by
  obtain ⟨rfl, ⟨rfl, rfl⟩ | ⟨b, rfl, h, he⟩⟩ := h
  · exact ⟨[], rfl, fun _ => rfl, fun b hb => by cases hb⟩
  · obtain ⟨h1, h2, h3, vs, h4, h5⟩ := h
    exact ⟨vs, h4.ownB (by rw [h5.1]; omega) he, (fun hb => by cases hb), (fun b hb => by cases hb; exact h4)⟩
theorem Ap.appLL {H : AHeap} {lo hi lo2 : Nat} {a a2 : Option Addr} {n e n2 e2 : Nat} {xs : List α} {xss : List (List α)} {o w : List Value} {K : Nat → AHeap → Prop} (h : OwnLL f H lo hi a n e xss) (hhi : hi ≤ H.length)
    (ho : OwnS f H lo2 a2 n2 e2 xs) (hlo : lo ≤ lo2) (hlh : lo ≤ H.length) (hs : ∀ x, a2 = some x → hi ≤ x.block ∧ x.block < H.length) (hvs : Ai.ownB H a n e 1 = some o) (hw : w = [Value.slice a2 n2 e2])
    (hk : ∀ (b' : Nat) (H' : AHeap), b' = H.length → H'.length = H.length + 1 → OwnB f H' lo H'.length b' (xss ++ [xs]) → KeepA a H H' → K b' H') : Ap H (killB H a ++ [some ⟨o ++ w, true⟩]) K := by
  subst hw
  obtain ⟨hn, ⟨rfl, rfl⟩ | ⟨b, rfl, hB, he⟩⟩ := h
  · -- to nil
    have ho' : o = [] := by subst hn; exact (Option.some.inj hvs).symm
    subst ho'
    have hl : (killB H none ++ [some ({ cells := [] ++ [Value.slice a2 n2 e2], own := true } : Blk)]).length = H.length + 1 := by simp [killB]
    refine hk H.length _ rfl hl ⟨hlh, by omega, Nat.le_refl _, [Value.slice a2 n2 e2], ?_, rfl, ?_, ?_⟩ ⟨by simp [killB], fun i hi _ => by simp only [killB]; exact List.getElem?_append_left hi⟩
    · unfold Own
      simp only [killB]
      rw [List.getElem?_append_right (Nat.le_refl _)]
      simp
    · intro i v ys hv hx
      obtain _ | i := i
      · cases hv; cases hx
        refine ⟨a2, n2, e2, rfl, (ho.grow (Grow.app H _)).weak hlo, fun x hx => ?_⟩
        have := hs x hx; omega
      · cases hv
    · intro i j a n e a' n' e' hij hv hw
      obtain _ | i := i
      · obtain _ | j := j
        · exact absurd rfl hij
        · cases hw
      · cases hv
  · obtain ⟨h1, h2, h3, vs, h4, h5⟩ := hB
    have hov : o = vs := by
      have := h4.ownB (n := n) (e := e) (sz := 1) (by rw [h5.1, hn]; omega) he
      rw [hvs] at this; exact Option.some.inj this
    subst hov
    refine Ap.app h4 rfl rfl fun b' H' g1 g2 g3 g4 => hk b' H' g1 g2 ⟨by omega, by omega, Nat.le_refl _, _, g3, by simp [h5.1], ?_, ?_⟩ (OwnS.keep1 g4)
    · intro i v ys hv hx
      by_cases hi' : i < o.length
      · rw [List.getElem?_append_left hi'] at hv
        rw [List.getElem?_append_left (by rw [← h5.1]; exact hi')] at hx
        obtain ⟨a', n', e', q1, q2, q3⟩ := h5.2.1 i v ys hv hx
        refine ⟨a', n', e', q1, q2.keepA (fun x y hx hy => by cases hx; intro hh; exact (q3 y hy).2 hh.symm) (OwnS.keep1 g4), fun x hx => ?_⟩
        have := q3 x hx; omega
      · rw [List.getElem?_append_right (by omega)] at hv
        rw [List.getElem?_append_right (by rw [← h5.1]; omega), ← h5.1] at hx
        have hz : i - o.length = 0 := by
          have := (List.getElem?_eq_some_iff.1 hv).1; simp at this; omega
        rw [hz] at hv hx
        cases hv; cases hx
        refine ⟨a2, n2, e2, rfl, (ho.keepA (fun x y hx hy => by cases hx; intro hh; have := hs y hy; dsimp only at hh; omega) (OwnS.keep1 g4)).weak hlo, fun x hx => ?_⟩
        have := hs x hx; omega
    · have old : ∀ (j : Nat) (a' : Option Addr) (n' e' : Nat), o[j]? = some (Value.slice a' n' e') → ∀ x, a' = some x → x.block < hi := by
        intro j a' n' e' hv x hx
        have hj := (List.getElem?_eq_some_iff.1 hv).1
        obtain ⟨a2, n2, e2, q1, q2, q3⟩ := h5.2.1 j _ _ hv (List.getElem?_eq_getElem (by rw [← h5.1]; omega : j < xss.length))
        cases q1
        exact (q3 x hx).1
      intro j k a1 n1 e1 a' n' e' hjk hv hw
      have last : ∀ (j : Nat) (a' : Option Addr) (n' e' : Nat), (o ++ [Value.slice a2 n2 e2])[j]? = some (Value.slice a' n' e') → ¬ j < o.length → j = o.length ∧ a' = a2 := by
        intro j a' n' e' hv hj
        rw [List.getElem?_append_right (by omega)] at hv
        have hz : j - o.length = 0 := by
          have := (List.getElem?_eq_some_iff.1 hv).1; simp at this; omega
        rw [hz] at hv
        cases hv
        exact ⟨by omega, rfl⟩
      by_cases hj : j < o.length
      · have hv' := hv
        rw [List.getElem?_append_left hj] at hv'
        by_cases hk' : k < o.length
        · rw [List.getElem?_append_left hk'] at hw
          exact h5.2.2 j k _ _ _ _ _ _ hjk hv' hw
        · obtain ⟨_, rfl⟩ := last k _ _ _ hw hk'
          intro x y hx hy
          have := hs y hy
          have := old j _ _ _ hv' x hx
          omega
      · obtain ⟨ej, rfl⟩ := last j _ _ _ hv hj
        by_cases hk' : k < o.length
        · rw [List.getElem?_append_left hk'] at hw
          intro x y hx hy
          have := hs x hx
          have := old k _ _ _ hw y hy
          omega
        · obtain ⟨ek, rfl⟩ := last k _ _ _ hw hk'
          omega
/-- There is room for such a row. -/
theorem OwnLL.make (f : α → Value) (H : AHeap) : ∀ xss : List (List α), ∃ H' a n e, Grow H H' ∧ OwnLL f H' H.length H'.length a n e xss := by
  have all : ∀ (H : AHeap) (xss : List (List α)), ∃ (H' : AHeap) (vs : List Value), Grow H H' ∧ vs.length = xss.length ∧ (∀ (i : Nat) (v : Value) (xs : List α), vs[i]? = some v → xss[i]? = some xs → ∃ b, v = Value.slice (some ⟨b, 0, none⟩) xs.length 1 ∧ Own H' b (xs.map f) ∧ H.length ≤ b ∧ b < H'.length ∧ b = H.length + i) := by
    intro H xss
    induction xss generalizing H with
    | nil => exact ⟨H, [], Grow.refl _, rfl, fun i v xs hv => by cases hv⟩
    | cons x r ih =>
      obtain ⟨H', vs, g, h1, h2⟩ := ih (H ++ [some { cells := x.map f, own := true }])
      have g0 := Grow.app H (some ({ cells := x.map f, own := true } : Blk))
      have hl : (H ++ [some ({ cells := x.map f, own := true } : Blk)]).length = H.length + 1 := by simp
      refine ⟨H', Value.slice (some ⟨H.length, 0, none⟩) x.length 1 :: vs, g0.trans g, by simp [h1], fun i v xs hv hx => ?_⟩
      obtain _ | i := i
      · cases hv; cases hx
        have := g.1
        exact ⟨H.length, rfl, (Own.new H _).grow g, Nat.le_refl _, by omega, rfl⟩
      · obtain ⟨b, q1, q2, q3, q4, q5⟩ := h2 i v xs (by simpa using hv) (by simpa using hx)
        exact ⟨b, q1, q2, by omega, q4, by omega⟩
  intro xss
  obtain ⟨H', vs, g, h1, h2⟩ := all H xss
  have g0 := Grow.app H' (some ({ cells := vs, own := true } : Blk))
  have hl : (H' ++ [some ({ cells := vs, own := true } : Blk)]).length = H'.length + 1 := by simp
  refine ⟨H' ++ [some { cells := vs, own := true }], some ⟨H'.length, 0, none⟩, xss.length, 1, g.trans g0, rfl, .inr ⟨H'.length, rfl, ⟨g.1, by omega, Nat.le_refl _, vs, Own.new H' _, h1, ?_, ?_⟩, rfl⟩⟩
  · intro i v xs hv hx
    obtain ⟨b, q1, q2, q3, q4, q5⟩ := h2 i v xs hv hx
    exact ⟨_, _, _, q1, ⟨rfl, .inr ⟨b, rfl, q2.grow g0, rfl, q3⟩⟩, fun x hx => by cases hx; exact ⟨by show b < _; omega, by show b ≠ _; omega⟩⟩
  · intro i j a n e a' n' e' hij hv hw
    have hi := (List.getElem?_eq_some_iff.1 hv).1
    have hj := (List.getElem?_eq_some_iff.1 hw).1
    obtain ⟨b, q1, q2, q3, q4, q5⟩ := h2 i _ _ hv (List.getElem?_eq_getElem (by omega : i < xss.length))
    obtain ⟨b', p1, p2, p3, p4, p5⟩ := h2 j _ _ hw (List.getElem?_eq_getElem (by omega : j < xss.length))
    cases q1; cases p1
    intro x y hx hy
    cases hx; cases hy
    show b ≠ b'
    omega
theorem liveL {H : AHeap} {xss : List (List α)} {R : Prop} (h : ∀ a n e H', Grow H H' → OwnLL f H' H.length H'.length a n e xss → R) : R := by
  obtain ⟨H', a, n, e, g, o⟩ := OwnLL.make f H xss; exact h a n e H' g o
theorem liveSL {β : Type} {f0 : β → Value} {H : AHeap} {xs : List β} {xss : List (List α)} {R : Prop} (h : ∀ a n e a2 n2 e2 H', Grow H H' → OwnS f0 H' H.length a n e xs → OwnLL f H' H.length H'.length a2 n2 e2 xss → R) : R := by
  obtain ⟨H', a, n, e, g, o⟩ := OwnS.make f0 H xs
  obtain ⟨H2, a2, n2, e2, g2, o2⟩ := OwnLL.make f H' xss
  exact h a n e a2 n2 e2 H2 (g.trans g2) (o.grow g2) (o2.weak g.1 (Nat.le_refl _) (Nat.le_refl _))
theorem KeepA.keep1 {H H' : AHeap} {b : Nat} (k : KeepA (some ⟨b, 0, none⟩) H H') : Keep1 b H H' := ⟨k.1, fun i hi hn => k.2 i hi fun x hx => by cases hx; exact fun h => hn h.symm⟩
end
/-! Bands: each list is half as long as the one before it. -/
def bandsRel (a : List Nat) (ds : List (List Nat)) : Prop :=
  1 ≤ ds.length ∧ ds.length ≤ 6 ∧ (∀ i : Int, 0 ≤ i → i < (ds.length : Int) → 1 ≤ (ds.getD i.toNat []).length ∧ (ds.getD i.toNat []).length ≤ 64) ∧
    (∀ i : Int, 1 ≤ i → i < (ds.length : Int) → (ds.getD (i - 1).toNat []).length = 2 * (ds.getD i.toNat []).length) ∧ a.length = (ds.getD ((ds.length : Int) - 1).toNat []).length
theorem bands_start {a : List Nat} {ds : List (List Nat)} (h : bandsRel a ds) : 1 ≤ a.length ∧ a.length = (ds.getD ((ds.length : Int) - 1).toNat []).length ∧ a.length ≤ 64 ∧ 1 ≤ ds.length ∧ ds.length ≤ 6 := by
  obtain ⟨h1, h2, h3, h4, h5⟩ := h
  have := h3 ((ds.length : Int) - 1) (by omega) (by omega)
  exact ⟨by omega, h5, by omega, h1, h2⟩
theorem bands_now {a : List Nat} {ds : List (List Nat)} {i : Int} {n : Nat} (h : bandsRel a ds) (hn : 0 ≤ i → n = (ds.getD i.toNat []).length) (h0 : 0 ≤ i) (h1 : i ≤ (ds.length : Int) - 1) :
    1 ≤ n ∧ n ≤ 64 ∧ (ds.getD i.toNat []).length = n ∧ (1 ≤ i → (ds.getD (i - 1).toNat []).length = 2 * n) := by
  obtain ⟨g1, g2, g3, g4, g5⟩ := h
  have e := hn h0
  have := g3 i h0 (by omega)
  exact ⟨by omega, by omega, e.symm, fun h => by rw [e]; exact g4 i h (by omega)⟩
end Go.Proofs.Ytbnplefohfamnaa.Ai
