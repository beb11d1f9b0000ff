/- Lists of structs: each element is some cells, one behind another. -/
import Derived.Test.YtghkkclonabpkabLibB
set_option linter.unusedVariables false
set_option linter.unusedSimpArgs false
namespace Go.Proofs.Ytghkkclonabpkab.Ai
open Go

/-- The cells of an element are as many. -/
class Sz {α : Type} (f : α → List Value) (sz : outParam Nat) : Prop where
  len : ∀ x, (f x).length = sz
  pos : 0 < sz
abbrev fA : Int × Nat × Nat → List Value := fun p => [.int .i64 p.1, .float .f32 p.2.1, .float .f32 p.2.2]
instance : Sz fA 3 := ⟨fun _ => rfl, by decide⟩

section
variable {α : Type} {f : α → List Value} {sz : Nat} [hs : Sz f sz]
theorem flat_len (xs : List α) : (xs.flatMap f).length = xs.length * sz := by
  induction xs with
  | nil => simp
  | cons x r ih => rw [List.flatMap_cons, List.length_append, ih, hs.len, List.length_cons, Nat.succ_mul]; omega
theorem flat_drop (xs : List α) (i : Nat) : (xs.flatMap f).drop (i * sz) = (xs.drop i).flatMap f := by
  induction xs generalizing i with
  | nil => simp
  | cons x r ih =>
    cases i with
    | zero => simp
    | succ i => rw [List.flatMap_cons, List.drop_succ_cons, ← ih, List.drop_append, hs.len, Nat.succ_mul, show i * sz + sz - sz = i * sz by omega, List.drop_eq_nil_of_le (by rw [hs.len]; omega), List.nil_append]
theorem flat_at (xs : List α) {i : Nat} (hi : i < xs.length) (d : α) : ((xs.flatMap f).drop (i * sz)).take sz = f (xs.getD i d) := by
  rw [flat_drop, List.drop_eq_getElem_cons hi, List.flatMap_cons, List.take_append_of_le_length (by rw [hs.len]; omega), List.take_of_length_le (by rw [hs.len]; omega), List.getD_eq_getElem?_getD, List.getElem?_eq_getElem hi]; rfl
theorem flat_get (xs : List α) {i j : Nat} (hi : i < xs.length) (hj : j < sz) (d : α) : (xs.flatMap f)[i * sz + j]? = (f (xs.getD i d))[j]? := by
  rw [← flat_at (f := f) xs hi d, List.getElem?_take, if_pos hj, List.getElem?_drop]
theorem flat_set (xs : List α) {i j : Nat} (hi : i < xs.length) (hj : j < sz) (d x : α) {v : Value} (hv : f x = (f (xs.getD i d)).set j v) : (xs.flatMap f).set (i * sz + j) v = (xs.set i x).flatMap f := by
  induction xs generalizing i with
  | nil => cases hi
  | cons y r ih =>
    cases i with
    | zero =>
      rw [Nat.zero_mul, Nat.zero_add, List.set_cons_zero, List.flatMap_cons, List.flatMap_cons, List.set_append_left _ _ (by rw [hs.len]; exact hj), hv]; rfl
    | succ i =>
      rw [List.flatMap_cons, List.set_cons_succ, List.flatMap_cons, List.set_append_right _ _ (by rw [hs.len, Nat.succ_mul]; omega), hs.len, show (i + 1) * sz + j - sz = i * sz + j by rw [Nat.succ_mul]; omega, ih (by simpa using hi) (by simpa using hv)]

/-- A list of structs in a slice. -/
def IsT (f : α → List Value) [hs : Sz f sz] (H : AHeap) (a : Option Addr) (n : Nat) (xs : List α) : Prop := n = xs.length ∧ rdS H a (n * sz) = some (xs.flatMap f)
/-- One that a function has made. -/
def OwnT (f : α → List Value) [hs : Sz f sz] (H : AHeap) (lo : Nat) (a : Option Addr) (n e : Nat) (xs : List α) : Prop :=
  n = xs.length ∧ ((a = none ∧ xs = []) ∨ ∃ b, a = some ⟨b, 0, none⟩ ∧ Own H b (xs.flatMap f) ∧ e = sz ∧ lo ≤ b)
theorem IsT.eqn {H : AHeap} {a : Option Addr} {n : Nat} {xs : List α} (h : IsT f H a n xs) : n = xs.length := h.1
theorem IsT.nil (H : AHeap) (a : Option Addr) : IsT f H a 0 [] := ⟨rfl, by rw [Nat.zero_mul]; rfl⟩
theorem IsT.grow {H H' : AHeap} {a : Option Addr} {n : Nat} {xs : List α} (h : IsT f H a n xs) (g : Grow H H') : IsT f H' a n xs := ⟨h.1, rdS_grow g h.2⟩
theorem IsT.pos {H : AHeap} {a : Option Addr} {n : Nat} {xs : List α} (h : IsT f H a n xs) (hn : 0 < n) : ∃ b o, a = some ⟨b, o, none⟩ := by
  rcases rdS_split h.2 with ⟨h3, _⟩ | ⟨_, b, off, e, _⟩
  · have := Nat.mul_pos hn hs.pos; omega
  · exact ⟨b, off, e⟩
theorem IsT.rdN {H H' : AHeap} {a : Option Addr} {n : Nat} {xs : List α} (h : IsT f H a n xs) (g : Grow H H') {b o i : Nat} (ha : a = some ⟨b, o, none⟩) (hi : i < n) (d : α) :
    Ai.rdN H' b (o + i * sz) sz = some (f (xs.getD i d)) := by
  have hn := h.1
  rcases rdS_split h.2 with ⟨h3, _⟩ | ⟨_, b', off, e, h5⟩
  · have := Nat.mul_pos (show 0 < n by omega) hs.pos; omega
  · rw [ha] at e; cases e
    obtain ⟨blk, hb, hn2, he⟩ := rdN_some h5
    have hle : i * sz + sz ≤ n * sz := by rw [← Nat.succ_mul]; exact Nat.mul_le_mul_right _ hi
    refine rdN_grow g ?_
    unfold Ai.rdN Ai.rdB
    rw [hb]
    simp only [Option.bind_some]
    rw [if_pos (by omega), ← flat_at (f := f) xs (show i < xs.length by omega) d, he, List.drop_take, List.drop_drop, List.take_take, Nat.min_eq_left (by omega)]
theorem IsT.rd {H H' : AHeap} {a : Option Addr} {n : Nat} {xs : List α} (h : IsT f H a n xs) (g : Grow H H') {b o i : Nat} (ha : a = some ⟨b, o, none⟩) (hi : i < n) (d : α) {j : Nat} (hj : j < sz) :
    rdC H' b (o + i * sz + j) = (f (xs.getD i d))[j]? := by
  have := h.rdN g ha hi d
  have c := rdN_cell this hj
  exact c
theorem Own.isT {H : AHeap} {b : Nat} {xs : List α} (h : Own H b (xs.flatMap f)) {n : Nat} (hn : n = xs.length) : IsT f H (some ⟨b, 0, none⟩) n xs :=
  ⟨hn, h.rdAll (by rw [flat_len, hn])⟩
theorem OwnT.isL {H : AHeap} {lo : Nat} {a : Option Addr} {n e : Nat} {xs : List α} (h : OwnT f H lo a n e xs) : IsT f H a n xs := by
  obtain ⟨rfl, ⟨rfl, rfl⟩ | ⟨b, rfl, h, _, _⟩⟩ := h
  · exact IsT.nil H none
  · exact h.isT rfl
theorem OwnT.grow {H H' : AHeap} {lo : Nat} {a : Option Addr} {n e : Nat} {xs : List α} (h : OwnT f H lo a n e xs) (g : Grow H H') : OwnT f H' lo a n e xs := by
  obtain ⟨rfl, ⟨rfl, rfl⟩ | ⟨b, rfl, h, he, hl⟩⟩ := h
  · exact ⟨rfl, .inl ⟨rfl, rfl⟩⟩
  · exact ⟨rfl, .inr ⟨b, rfl, h.grow g, he, hl⟩⟩
theorem OwnT.weak {H : AHeap} {lo lo' : Nat} {a : Option Addr} {n e : Nat} {xs : List α} (h : OwnT f H lo a n e xs) (hl : lo' ≤ lo) : OwnT f H lo' a n e xs := by
  obtain ⟨rfl, ⟨rfl, rfl⟩ | ⟨b, rfl, h, he, hl'⟩⟩ := h
  · exact ⟨rfl, .inl ⟨rfl, rfl⟩⟩
  · exact ⟨rfl, .inr ⟨b, rfl, h, he, Nat.le_trans hl hl'⟩⟩
theorem OwnT.nil (H : AHeap) (lo e : Nat) : OwnT f H lo none 0 e [] := ⟨rfl, .inl ⟨rfl, rfl⟩⟩
theorem Own.ownT {H : AHeap} {lo b n : Nat} {xs : List α} (h : Own H b (xs.flatMap f)) (hn : n = xs.length) (hl : lo ≤ b) : OwnT f H lo (some ⟨b, 0, none⟩) n sz xs := ⟨hn, .inr ⟨b, rfl, h, rfl, hl⟩⟩
theorem OwnT.up {H : AHeap} {lo : Nat} {a : Option Addr} {n e : Nat} {xs : List α} (h : OwnT f H lo a n e xs) : ∀ x, a = some x → x.block < H.length := by
  obtain ⟨_, ⟨rfl, _⟩ | ⟨b, rfl, h, _, _⟩⟩ := h
  · intro x hx; cases hx
  · intro x hx; cases hx; exact h.lt
theorem OwnT.lo {H : AHeap} {lo : Nat} {a : Option Addr} {n e : Nat} {xs : List α} (h : OwnT f H lo a n e xs) : ∀ x, a = some x → lo ≤ x.block := by
  obtain ⟨_, ⟨rfl, _⟩ | ⟨b, rfl, h, _, hl⟩⟩ := h
  · intro x hx; cases hx
  · intro x hx; cases hx; exact hl
theorem OwnT.len {H : AHeap} {lo : Nat} {a : Option Addr} {n e : Nat} {xs : List α} (h : OwnT f H lo a n e xs) : n = xs.length := h.1
theorem OwnT.keep {H H' : AHeap} {lo hi b : Nat} {a : Option Addr} {n e : Nat} {xs : List α} (h : OwnT f H lo a n e xs) (up : ∀ x, a = some x → x.block < hi) (hd : b < lo ∨ hi ≤ b) (k : Keep1 b H H') : OwnT f H' lo a n e xs := by
  obtain ⟨hn, ⟨rfl, hx⟩ | ⟨c, rfl, h, he, hl⟩⟩ := h
  · exact ⟨hn, .inl ⟨rfl, hx⟩⟩
  · have := up _ rfl
    exact ⟨hn, .inr ⟨c, rfl, h.keep (by simp at this; omega) k, he, hl⟩⟩
theorem OwnT.keepA {H H' : AHeap} {lo : Nat} {a a2 : Option Addr} {n e : Nat} {xs : List α} (h : OwnT f H lo a n e xs) (hd : SepA a2 a) (k : KeepA a2 H H') : OwnT f H' lo a n e xs := by
  obtain ⟨hn, ⟨rfl, hx⟩ | ⟨c, rfl, h, he, hl⟩⟩ := h
  · exact ⟨hn, .inl ⟨rfl, hx⟩⟩
  · exact ⟨hn, .inr ⟨c, rfl, h.keepA (fun x hx => hd x _ hx rfl) k, he, hl⟩⟩
theorem OwnT.make (f : α → List Value) [hs : Sz f sz] (H : AHeap) (xs : List α) : ∃ H' a n e, Grow H H' ∧ OwnT f H' H.length a n e xs :=
  ⟨H ++ [some { cells := xs.flatMap f, own := true }], some ⟨H.length, 0, none⟩, xs.length, sz, Grow.app H _, (Own.new H _).ownT rfl (Nat.le_refl _)⟩
theorem OwnT.put {H : AHeap} {lo : Nat} {a : Option Addr} {n e : Nat} {xs : List α} (h : OwnT f H lo a n e xs) (ys : List α) (hl : ys.length = xs.length) : ∃ H', KeepA a H H' ∧ OwnT f H' lo a n e ys := by
  obtain ⟨hn, ⟨rfl, hx⟩ | ⟨c, rfl, h, he, hlo⟩⟩ := h
  · subst hx
    have : ys = [] := List.length_eq_zero_iff.1 hl
    exact ⟨H, KeepA.refl _ _, hn.trans hl.symm, .inl ⟨rfl, this⟩⟩
  · refine ⟨H.set c (some { cells := ys.flatMap f, own := true }), ⟨by simp, fun i hi hx => ?_⟩, hn.trans hl.symm, .inr ⟨c, rfl, ?_, he, hlo⟩⟩
    · rw [List.getElem?_set, if_neg (fun e => hx _ rfl e)]
    · unfold Own; rw [List.getElem?_set]; simp [h.lt]
/-- A store into a field of an element of such a list. -/
theorem Lt.setT {H : AHeap} {lo b o i n e j : Nat} {a : Option Addr} {xs : List α} {d x : α} {v : Value} {K : AHeap → Prop} (h : OwnT f H lo a n e xs) (ha : a = some ⟨b, o, none⟩) (hi : i < xs.length) (hj : j < sz) (hv : f x = (f (xs.getD i d)).set j v)
    (hk : ∀ H' : AHeap, H'.length = H.length → OwnT f H' lo a n e (xs.set i x) → KeepA a H H' → K H') : isOwn H b ∧ (∃ l, Ai.rdN H b (o + i * sz + j) 1 = some l) ∧ Lt (setC H b (o + i * sz + j) v) K := by
  obtain ⟨hn, ⟨rfl, _⟩ | ⟨c, rfl, h, he, hl⟩⟩ := h
  · cases ha
  · cases ha
    have hle : i * sz + sz ≤ xs.length * sz := by rw [← Nat.succ_mul]; exact Nat.mul_le_mul_right _ hi
    refine Lt.set h (by rw [flat_len]; omega) fun H' h1 h2 h3 => hk H' h1 ⟨by simpa using hn, .inr ⟨_, rfl, ?_, he, hl⟩⟩ ⟨h3.1, fun i hi hx => h3.2 i hi fun e => hx _ rfl e.symm⟩
    rw [Nat.zero_add, flat_set xs hi hj d x hv] at h2; exact h2
theorem liveT {H : AHeap} {xs : List α} {R : Prop} (h : ∀ a n e H', Grow H H' → OwnT f H' H.length a n e xs → R) : R := by
  obtain ⟨H', a, n, e, g, o⟩ := OwnT.make f H xs; exact h a n e H' g o
theorem flat_snoc {xs ys : List α} {H : AHeap} {b : Nat} (h : Own H b (xs.flatMap f ++ ys.flatMap f)) : Own H b ((xs ++ ys).flatMap f) := by rw [List.flatMap_append]; exact h
theorem OwnT.ownB {H : AHeap} {lo : Nat} {a : Option Addr} {n e : Nat} {xs : List α} (h : OwnT f H lo a n e xs) : Ai.ownB H a n e sz = some (xs.flatMap f) := by
  obtain ⟨rfl, ⟨rfl, rfl⟩ | ⟨b, rfl, h, he, hl⟩⟩ := h
  · rfl
  · exact h.ownB (flat_len xs) he
end
theorem liveTS {α β : Type} {f : α → List Value} {sz : Nat} [hs : Sz f sz] {f2 : β → Value} {H : AHeap} {xs : List α} {ys : List β} {R : Prop} (h : ∀ a n e a2 n2 e2 H', Grow H H' → OwnT f H' H.length a n e xs → OwnS f2 H' H.length a2 n2 e2 ys → SepA a a2 → R) : R := by
  obtain ⟨H', a, n, e, g, o⟩ := OwnT.make f H xs
  obtain ⟨H2, a2, n2, e2, g2, o2⟩ := OwnS.make f2 H' ys
  exact h a n e a2 n2 e2 H2 (g.trans g2) (o.grow g2) (o2.weak g.1) (fun x y hx hy hh => by have := o.up x hx; have := o2.lo y hy; omega)
theorem zeros_flat {α : Type} (f : α → List Value) (x : α) (z : Value) (n : Nat) (hz : z.cells.toList = f x) : zerosOf z n = (List.replicate n x).flatMap f := by
  unfold zerosOf
  rw [hz]
  induction n with
  | zero => rfl
  | succ n ih => rw [List.replicate_succ, List.replicate_succ, List.flatten_cons, List.flatMap_cons, ih]
theorem putAll_app (as bs cs : List Value) (vs : List Value) (h : bs.length = vs.length) : putAll (as ++ bs ++ cs) as.length vs = as ++ vs ++ cs := by
  induction vs generalizing as bs with
  | nil => rw [List.length_eq_zero_iff.1 h]; rfl
  | cons v r ih =>
    cases bs with
    | nil => cases h
    | cons b bs =>
      unfold putAll
      have e : (as ++ b :: bs ++ cs).set as.length v = (as ++ [v]) ++ bs ++ cs := by
        rw [List.append_assoc, List.set_append_right _ _ (Nat.le_refl _), Nat.sub_self]; simp
      rw [e]
      have := ih (as ++ [v]) bs (by simpa using h)
      rw [List.length_append, List.length_singleton] at this
      rw [this]; simp
theorem flat_put {α : Type} {f : α → List Value} {sz : Nat} [hs : Sz f sz] (xs : List α) {i : Nat} (hi : i < xs.length) (x : α) : putAll (xs.flatMap f) (i * sz) (f x) = (xs.set i x).flatMap f := by
  have e1 : xs.flatMap f = (xs.take i).flatMap f ++ f xs[i] ++ (xs.drop (i + 1)).flatMap f := by
    have := (List.take_append_drop i xs).symm
    rw [List.drop_eq_getElem_cons hi] at this
    rw [List.append_assoc, ← List.flatMap_cons, ← List.flatMap_append, ← this]
  have e2 : ((xs.take i).flatMap f).length = i * sz := by rw [flat_len, List.length_take, Nat.min_eq_left (Nat.le_of_lt hi)]
  rw [e1, ← e2, putAll_app _ _ _ _ (by rw [hs.len, hs.len]), List.set_eq_take_append_cons_drop, if_pos hi, List.flatMap_append, List.flatMap_cons, List.append_assoc]
/-- A store of a whole element into a list of ours. -/
theorem Lt.setW {α : Type} {f : α → List Value} {sz : Nat} [hs : Sz f sz] {H : AHeap} {b i : Nat} {xs : List α} {x : α} {vs : List Value} {K : AHeap → Prop} (h : Own H b (xs.flatMap f)) (hi : i < xs.length) (hv : vs = f x)
    (hk : ∀ H' : AHeap, H'.length = H.length → Own H' b ((xs.set i x).flatMap f) → Keep1 b H H' → K H') : isOwn H b ∧ (∃ l, Ai.rdN H b (0 + i * sz) sz = some l) ∧ Lt (Ai.setN H b (0 + i * sz) vs) K := by
  subst hv
  have hle : i * sz + sz ≤ xs.length * sz := by rw [← Nat.succ_mul]; exact Nat.mul_le_mul_right _ hi
  refine Lt.setN h (by rw [flat_len]; omega) (hs.len x) fun H' h1 h2 h3 => hk H' h1 ?_ h3
  rw [Nat.zero_add, flat_put xs hi x] at h2; exact h2
/-! Marks of atoms. -/
def w3 (k : Int) : Int := IntKind.wrap .i64 ((IntKind.wrap .i64 ((IntKind.wrap .i64 (k + 1)) + 1)) + 1)
def wkA (k : Int) : Nat → Int
  | 0 => k
  | n + 1 => wkA (w3 k) n
def marksA (k : Int) : Nat → List (Int × Nat × Nat)
  | 0 => []
  | n + 1 => (k, FloatKind.nearest .f32 (IntKind.wrap .i64 (k + 1)), FloatKind.nearest .f32 (IntKind.wrap .i64 ((IntKind.wrap .i64 (k + 1)) + 1))) :: marksA (w3 k) n
theorem marksA_length : ∀ (n : Nat) (k : Int), (marksA k n).length = n := by
  intro n
  induction n with
  | zero => intro k; rfl
  | succ n ih => intro k; simp [marksA, ih]
theorem wkA_eq : ∀ (n : Nat) (k : Int), 0 ≤ k → k + 3 * n ≤ 9223372036854775807 → wkA k n = k + 3 * n := by
  intro n
  induction n with
  | zero => intro k _ _; simp [wkA]
  | succ n ih =>
    intro k h0 h1
    have e : w3 k = k + 3 := by
      unfold w3
      rw [wrap64 (n := k + 1) (by omega) (by omega), wrap64 (n := k + 1 + 1) (by omega) (by omega), wrap64 (by omega) (by omega)]; omega
    rw [wkA, e, ih _ (by omega) (by omega)]; omega
theorem isT_rdS {α : Type} {f : α → List Value} {sz : Nat} [hs : Sz f sz] {H : AHeap} {a : Option Addr} {n : Nat} {xs : List α} (h : IsT f H a n xs) : rdS H a (n * sz) = some (xs.flatMap f) := h.2
theorem flat_lenA (xs : List (Int × Nat × Nat)) : (xs.flatMap fA).length = xs.length * 3 := flat_len xs
end Go.Proofs.Ytghkkclonabpkab.Ai
