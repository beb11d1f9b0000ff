/- Steps of functions on the abstract machine whose lists are followed as lists. -/
import Derived.Test.YtfofkmlohmodeaaLibA
set_option linter.unusedVariables false
namespace Go.Proofs.Ytfofkmlohmodeaa.Ai
open Go

theorem cond_t {α : Type} {c : Bool} {x y : α} (h : c = true) : (bif c then x else y) = x := by rw [h]; rfl
theorem cond_f {α : Type} {c : Bool} {x y : α} (h : c = false) : (bif c then x else y) = y := by rw [h]; rfl

/-- Only the block b has changed. -/
def Keep1 (b : Nat) (H H' : AHeap) : Prop := H.length ≤ H'.length ∧ ∀ i, i < H.length → i ≠ b → H'[i]? = H[i]?
theorem Own.keep {H H' : AHeap} {b b' : Nat} {cs : List Value} (h : Own H b cs) (hne : b ≠ b') (k : Keep1 b' H H') : Own H' b cs := (k.2 b h.lt hne).trans h
theorem Grow.keep {H0 H H' : AHeap} {b : Nat} (g : Grow H0 H) (hb : H0.length ≤ b) (k : Keep1 b H H') : Grow H0 H' :=
  ⟨Nat.le_trans g.1 k.1, fun i hi => (k.2 i (Nat.lt_of_lt_of_le hi g.1) (by omega)).trans (g.2 i hi)⟩

/-- A list that a function has made: nil, or a block of its own above 'lo'. -/
def OwnS {α : Type} (f : α → Value) (H : AHeap) (lo : Nat) (a : Option Addr) (n e : Nat) (xs : List α) : Prop :=
  n = xs.length ∧ ((a = none ∧ xs = []) ∨ ∃ b, a = some ⟨b, 0, none⟩ ∧ Own H b (xs.map f) ∧ e = 1 ∧ lo ≤ b)
theorem OwnS.isL {α : Type} {f : α → Value} {H : AHeap} {lo : Nat} {a : Option Addr} {n e : Nat} {xs : List α} (h : OwnS f H lo a n e xs) : IsL f H a n xs := by
  obtain ⟨rfl, ⟨rfl, rfl⟩ | ⟨b, rfl, h, _, _⟩⟩ := h
  · exact IsL.nil f H none
  · exact h.isL rfl
theorem OwnS.grow {α : Type} {f : α → Value} {H H' : AHeap} {lo : Nat} {a : Option Addr} {n e : Nat} {xs : List α} (h : OwnS f H lo a n e xs) (g : Grow H H') : OwnS f H' lo a n e xs := by
  obtain ⟨rfl, ⟨rfl, rfl⟩ | ⟨b, rfl, h, he, hl⟩⟩ := h
  · exact ⟨rfl, .inl ⟨rfl, rfl⟩⟩
  · exact ⟨rfl, .inr ⟨b, rfl, h.grow g, he, hl⟩⟩
theorem OwnS.weak {α : Type} {f : α → Value} {H : AHeap} {lo lo' : Nat} {a : Option Addr} {n e : Nat} {xs : List α} (h : OwnS f H lo a n e xs) (hl : lo' ≤ lo) : OwnS f H lo' a n e xs := by
  obtain ⟨rfl, ⟨rfl, rfl⟩ | ⟨b, rfl, h, he, hl'⟩⟩ := h
  · exact ⟨rfl, .inl ⟨rfl, rfl⟩⟩
  · exact ⟨rfl, .inr ⟨b, rfl, h, he, Nat.le_trans hl hl'⟩⟩
theorem OwnS.nil {α : Type} (f : α → Value) (H : AHeap) (lo e : Nat) : OwnS f H lo none 0 e [] := ⟨rfl, .inl ⟨rfl, rfl⟩⟩
theorem Own.ownS {α : Type} {f : α → Value} {H : AHeap} {lo b n : Nat} {xs : List α} (h : Own H b (xs.map f)) (hn : n = xs.length) (hl : lo ≤ b) : OwnS f H lo (some ⟨b, 0, none⟩) n 1 xs := ⟨hn, .inr ⟨b, rfl, h, rfl, hl⟩⟩
theorem OwnS.up {α : Type} {f : α → Value} {H : AHeap} {lo : Nat} {a : Option Addr} {n e : Nat} {xs : List α} (h : OwnS f H lo a n e xs) : ∀ x, a = some x → x.block < H.length := by
  obtain ⟨_, ⟨rfl, _⟩ | ⟨b, rfl, h, _, _⟩⟩ := h
  · intro x hx; cases hx
  · intro x hx; cases hx; exact h.lt
theorem OwnS.keep {α : Type} {f : α → Value} {H H' : AHeap} {lo hi b : Nat} {a : Option Addr} {n e : Nat} {xs : List α} (h : OwnS f H lo a n e xs) (up : ∀ x, a = some x → x.block < hi) (hd : b < lo ∨ hi ≤ b) (k : Keep1 b H H') : OwnS f H' lo a n e xs := by
  obtain ⟨hn, ⟨rfl, hx⟩ | ⟨c, rfl, h, he, hl⟩⟩ := h
  · exact ⟨hn, .inl ⟨rfl, hx⟩⟩
  · have := up _ rfl
    exact ⟨hn, .inr ⟨c, rfl, h.keep (by simp at this; omega) k, he, hl⟩⟩
/-- There is room for such a list. -/
theorem OwnS.make {α : Type} (f : α → Value) (H : AHeap) (xs : List α) : ∃ H' a n e, Grow H H' ∧ OwnS f H' H.length a n e xs :=
  ⟨H ++ [some { cells := xs.map f, own := true }], some ⟨H.length, 0, none⟩, xs.length, 1, Grow.app H _, (Own.new H _).ownS rfl (Nat.le_refl _)⟩

theorem Al.intro {cells : List Value} {H : AHeap} {K : Nat → AHeap → Prop} (h : ∀ (b : Nat) (H' : AHeap), b = H.length → H'.length = H.length + 1 → Grow H H' → Own H' b cells → K b H') : Al cells H K := by
  unfold Al
  exact h H.length (H ++ [some { cells := cells, own := true }]) rfl (by simp) (Grow.app H _) (Own.new H cells)

/-- An append. -/
theorem Lt.app {H : AHeap} {b : Nat} {o w cs ds : List Value} {K : AHeap → Prop} (hb : Own H b cs) (ho : o = cs) (hw : w = ds)
    (h : ∀ H' : AHeap, H'.length = H.length + 1 → Own H' H.length (cs ++ ds) → Keep1 b H H' → K H') : Lt (killB H (some ⟨b, 0, none⟩) ++ [some ⟨o ++ w, true⟩]) K := by
  subst ho; subst hw
  have hl : (H.set b none).length = H.length := by simp
  refine h _ ?_ ?_ ⟨?_, fun i hi hne => ?_⟩
  · unfold killB; simp
  · unfold Own killB
    rw [List.getElem?_append_right (by simp)]
    simp
  · unfold killB; simp
  · unfold killB
    rw [List.getElem?_append_left (by simpa using hi), List.getElem?_set, if_neg (by simpa using fun e => hne e.symm)]
/-- A store of one cell. -/
theorem Lt.set {H : AHeap} {b off : Nat} {v : Value} {cs : List Value} {K : AHeap → Prop} (hb : Own H b cs) (hn : off < cs.length)
    (h : ∀ H' : AHeap, H'.length = H.length → Own H' b (cs.set off v) → Keep1 b H H' → K H') : isOwn H b ∧ (∃ l, rdN H b off 1 = some l) ∧ Lt (setC H b off v) K :=
  ⟨hb.isOwn, ⟨_, hb.rdN (by omega)⟩, h _ (setC_length _ _ _ _) (hb.setC_own _ _) ⟨by rw [setC_length]; exact Nat.le_refl _, fun i _ hne => setC_other hne⟩⟩
/-- Cells that are stored one behind another. -/
def putAll (cs : List Value) (off : Nat) : List Value → List Value
  | [] => cs
  | v :: r => putAll (cs.set off v) (off + 1) r
theorem setN_own {b : Nat} : ∀ (vs : List Value) (off : Nat) {H : AHeap} {cs : List Value}, Own H b cs → Own (setN H b off vs) b (putAll cs off vs) ∧ (setN H b off vs).length = H.length ∧ ∀ i, i ≠ b → (setN H b off vs)[i]? = H[i]? := by
  intro vs
  induction vs with
  | nil => intro off H cs h; exact ⟨h, rfl, fun _ _ => rfl⟩
  | cons v r ih =>
    intro off H cs h
    obtain ⟨h1, h2, h3⟩ := ih (off + 1) (h.setC_own off v)
    exact ⟨h1, h2.trans (setC_length _ _ _ _), fun i hi => (h3 i hi).trans (setC_other hi)⟩
theorem Lt.setN {H : AHeap} {b off n : Nat} {vs : List Value} {cs : List Value} {K : AHeap → Prop} (hb : Own H b cs) (hn : off + n ≤ cs.length) (hv : vs.length = n)
    (h : ∀ H' : AHeap, H'.length = H.length → Own H' b (putAll cs off vs) → Keep1 b H H' → K H') : isOwn H b ∧ (∃ l, rdN H b off n = some l) ∧ Lt (Ai.setN H b off vs) K := by
  obtain ⟨h1, h2, h3⟩ := setN_own vs off hb
  exact ⟨hb.isOwn, ⟨_, hb.rdN hn⟩, h _ h2 h1 ⟨by rw [h2]; exact Nat.le_refl _, fun i _ hne => h3 i hne⟩⟩
theorem rdN_at {H : AHeap} {b n : Nat} {l : List Value} (h : rdN H b 0 n = some l) (i : Nat) (hi : i < n) : rdC H b i = l[i]? := by
  have := rdN_cell h hi; rwa [Nat.zero_add] at this
theorem IsL.pos {α : Type} {f : α → Value} {H : AHeap} {a : Option Addr} {n : Nat} {xs : List α} (h : IsL f H a n xs) (hn : 0 < n) : ∃ b o, a = some ⟨b, o, none⟩ := by
  obtain ⟨b, o, e, _⟩ := h.cell hn; exact ⟨b, o, e⟩
theorem IsL.rd {α : Type} {f : α → Value} {H H' : AHeap} {a : Option Addr} {n : Nat} {xs : List α} (h : IsL f H a n xs) (g : Grow H H') {b o i : Nat} (ha : a = some ⟨b, o, none⟩) (hi : i < n) (d : α) : rdC H' b (o + i * 1) = some (f (xs.getD i d)) := by
  obtain ⟨b', o', e, hc⟩ := (h.grow g).cell (by omega)
  rw [ha] at e
  cases e
  have hl := h.len
  have hx : xs[i]? = some (xs.getD i d) := by rw [List.getD_eq_getElem?_getD, List.getElem?_eq_getElem (by omega)]; rfl
  exact hc i _ hx
theorem Own.rd {α : Type} {f : α → Value} {H : AHeap} {b i : Nat} {xs : List α} (h : Own H b (xs.map f)) (hi : i < xs.length) (d : α) : Ai.rdC H b (0 + i * 1) = some (f (xs.getD i d)) := by
  rw [h.rdC, Nat.zero_add, Nat.mul_one, List.getElem?_map, List.getD_eq_getElem?_getD, List.getElem?_eq_getElem hi]; rfl
theorem zeros_map {α : Type} (f : α → Value) (z : α) (n : Nat) (hz : (f z).cells.toList = [f z]) : zerosOf (f z) n = (List.replicate n z).map f := by
  unfold zerosOf
  rw [hz, List.map_replicate]
  induction n with
  | zero => rfl
  | succ n ih => rw [List.replicate_succ, List.flatten_cons, ih, List.replicate_succ]; rfl
theorem map_snoc {α : Type} {f : α → Value} {xs ys : List α} {H : AHeap} {b : Nat} (h : Own H b (xs.map f ++ ys.map f)) : Own H b ((xs ++ ys).map f) := by rw [List.map_append]; exact h
theorem map_set {α : Type} {f : α → Value} {xs : List α} {i : Nat} {x : α} {H : AHeap} {b : Nat} (h : Own H b ((xs.map f).set (0 + i * 1) (f x))) : Own H b ((xs.set i x).map f) := by
  rw [Nat.zero_add, Nat.mul_one] at h; rw [List.map_set]; exact h
/-- Lists are not so long that a number of 32 bits could not tell it. -/
theorem IsL.eqn {α : Type} {f : α → Value} {H : AHeap} {a : Option Addr} {n : Nat} {xs : List α} (h : IsL f H a n xs) : n = xs.length := h.len.symm
theorem nf_of_t {b : Bool} (h : (!b) = true) : b = false := by cases b <;> simp_all
theorem nt_of_f {b : Bool} (h : (!b) = false) : b = true := by cases b <;> simp_all
theorem ieq_t {a b : Int} (h : (a == b) = true) : a = b := eq_of_beq h
theorem ieq_f {a b : Int} (h : (a == b) = false) : a ≠ b := fun e => by subst e; simp at h
theorem ine_t {a b : Int} (h : (a != b) = true) : a ≠ b := fun e => by subst e; simp at h
theorem ine_f {a b : Int} (h : (a != b) = false) : a = b := by simpa using h
theorem opt_get {α : Type} {o : Option α} {d : α} (h : o ≠ none) : o = some (o.getD d) := by cases o with | none => exact absurd rfl h | some x => rfl
abbrev fU : UInt8 → Value := fun c => Value.int .u8 c.toNat
theorem liveS {α : Type} {f : α → Value} {H : AHeap} {xs : List α} {R : Prop} (h : ∀ a n e H', Grow H H' → OwnS f H' H.length a n e xs → R) : R := by
  obtain ⟨H', a, n, e, g, o⟩ := OwnS.make f H xs; exact h a n e H' g o
theorem liveS2 {α β : Type} {f : α → Value} {f2 : β → Value} {H : AHeap} {xs : List α} {ys : List β} {R : Prop} (h : ∀ a n e a2 n2 e2 H', Grow H H' → OwnS f H' H.length a n e xs → OwnS f2 H' H.length a2 n2 e2 ys → R) : R := by
  obtain ⟨H', a, n, e, g, o⟩ := OwnS.make f H xs
  obtain ⟨H2, a2, n2, e2, g2, o2⟩ := OwnS.make f2 H' ys
  exact h a n e a2 n2 e2 H2 (g.trans g2) (o.grow g2) (o2.weak g.1)
theorem liveV {α : Type} {f : α → Value} {H : AHeap} {xs : List α} {R : Prop} (h : ∀ (a : Option Addr) (n e : Nat) H', Grow H H' → IsL f H' a n xs → R) : R := by
  obtain ⟨H', a, n, e, g, o⟩ := OwnS.make f H xs; exact h a n e H' g o.isL
theorem isl_rdS {α : Type} {f : α → Value} {H : AHeap} {a : Option Addr} {n : Nat} {xs : List α} (h : IsL f H a n xs) : rdS H a (n * 1) = some (xs.map f) := by rw [Nat.mul_one]; exact h
/-- A part of a list, between two numbers. -/
theorem sub_isl {α : Type} {f : α → Value} {H : AHeap} {a : Option Addr} {n : Nat} {xs : List α} (h : IsL f H a n xs) {lo hi : Int} (h0 : 0 ≤ lo) (h1 : lo ≤ hi) (h2 : hi ≤ n) :
    IsL f H (a.map fun a => ⟨a.block, a.off + lo.toNat * 1, none⟩) (hi - lo).toNat ((xs.drop lo.toNat).take (hi - lo).toNat) := by
  have := h.sub (lo := lo.toNat) (hi := hi.toNat) (by omega) (by omega)
  have e : (hi - lo).toNat = hi.toNat - lo.toNat := by omega
  rw [e]; exact this
theorem wrapu_eq (n : Int) : IntKind.wrap .u64 n = n % 18446744073709551616 := rfl
theorem wrapu_nonneg (n : Int) : (0 : Int) ≤ IntKind.wrap .u64 n := by rw [wrapu_eq]; omega
theorem wrapu_id {n : Int} (h0 : 0 ≤ n) (h1 : n < 18446744073709551616) : IntKind.wrap .u64 n = n := by rw [wrapu_eq]; omega
/-- A list that is written from its start on, cell by cell. -/
theorem set_front {α : Type} (xs ys : List α) (k : Nat) (hk : k < ys.length) (hl : xs.length = ys.length) (x : α) (hx : xs[k]? = some x) :
    (xs.take k ++ ys.drop k).set k x = xs.take (k + 1) ++ ys.drop (k + 1) := by
  have h1 : (xs.take k).length = k := by simp; omega
  rw [List.set_append_right _ _ (by omega), h1, Nat.sub_self, List.drop_eq_getElem_cons hk, List.set_cons_zero, List.take_add_one, hx]
  simp
end Go.Proofs.Ytfofkmlohmodeaa.Ai
