/- Steps of functions on the abstract machine whose lists are followed as lists. -/
import Derived.Test.YtbnplefohfamnaaLibA
set_option linter.unusedVariables false
namespace Go.Proofs.Ytbnplefohfamnaa.Ai
open Go

theorem cond_t {α : Type} {c : Bool} {x y : α} (h : c = true) : (bif c then x else y) = x := by rw [h]; rfl
theorem cond_f {α : Type} {c : Bool} {x y : α} (h : c = false) : (bif c then x else y) = y := by rw [h]; rfl

/-- Only the block b has changed. -/
def Keep1 (b : Nat) (H H' : AHeap) : Prop := H.length ≤ H'.length ∧ ∀ i, i < H.length → i ≠ b → H'[i]? = H[i]?
theorem Own.keep {H H' : AHeap} {b b' : Nat} {cs : List Value} (h : Own H b cs) (hne : b ≠ b') (k : Keep1 b' H H') : Own H' b cs := (k.2 b h.lt hne).trans h
theorem Grow.keep {H0 H H' : AHeap} {b : Nat} (g : Grow H0 H) (hb : H0.length ≤ b) (k : Keep1 b H H') : Grow H0 H' :=
  ⟨Nat.le_trans g.1 k.1, fun i hi => (k.2 i (Nat.lt_of_lt_of_le hi g.1) (by omega)).trans (g.2 i hi)⟩

/-- A list that a function has made: nil, or a block of its own above 'lo'. -/
def OwnS {α : Type} (f : α → Value) (H : AHeap) (lo : Nat) (a : Option Addr) (n e : Nat) (xs : List α) : Prop :=
  n = xs.length ∧ ((a = none ∧ xs = []) ∨ ∃ b, a = some ⟨b, 0, none⟩ ∧ Own H b (xs.map f) ∧ e = 1 ∧ lo ≤ b)
theorem OwnS.isL {α : Type} {f : α → Value} {H : AHeap} {lo : Nat} {a : Option Addr} {n e : Nat} {xs : List α} (h : OwnS f H lo a n e xs) : IsL f H a n xs := by
  obtain ⟨rfl, ⟨rfl, rfl⟩ | ⟨b, rfl, h, _, _⟩⟩ := h
  · exact IsL.nil f H none
  · exact h.isL rfl
theorem OwnS.grow {α : Type} {f : α → Value} {H H' : AHeap} {lo : Nat} {a : Option Addr} {n e : Nat} {xs : List α} (h : OwnS f H lo a n e xs) (g : Grow H H') : OwnS f H' lo a n e xs := by
  obtain ⟨rfl, ⟨rfl, rfl⟩ | ⟨b, rfl, h, he, hl⟩⟩ := h
  · exact ⟨rfl, .inl ⟨rfl, rfl⟩⟩
  · exact ⟨rfl, .inr ⟨b, rfl, h.grow g, he, hl⟩⟩
theorem OwnS.weak {α : Type} {f : α → Value} {H : AHeap} {lo lo' : Nat} {a : Option Addr} {n e : Nat} {xs : List α} (h : OwnS f H lo a n e xs) (hl : lo' ≤ lo) : OwnS f H lo' a n e xs := by
  obtain ⟨rfl, ⟨rfl, rfl⟩ | ⟨b, rfl, h, he, hl'⟩⟩ := h
  · exact ⟨rfl, .inl ⟨rfl, rfl⟩⟩
  · exact ⟨rfl, .inr ⟨b, rfl, h, he, Nat.le_trans hl hl'⟩⟩
theorem OwnS.nil {α : Type} (f : α → Value) (H : AHeap) (lo e : Nat) : OwnS f H lo none 0 e [] := ⟨rfl, .inl ⟨rfl, rfl⟩⟩
theorem Own.ownS {α : Type} {f : α → Value} {H : AHeap} {lo b n : Nat} {xs : List α} (h : Own H b (xs.map f)) (hn : n = xs.length) (hl : lo ≤ b) : OwnS f H lo (some ⟨b, 0, none⟩) n 1 xs := ⟨hn, .inr ⟨b, rfl, h, rfl, hl⟩⟩
theorem OwnS.up {α : Type} {f : α → Value} {H : AHeap} {lo : Nat} {a : Option Addr} {n e : Nat} {xs : List α} (h : OwnS f H lo a n e xs) : ∀ x, a = some x → x.block < H.length := by
  obtain ⟨_, ⟨rfl, _⟩ | ⟨b, rfl, h, _, _⟩⟩ := h
  · intro x hx; cases hx
  · intro x hx; cases hx; exact h.lt
theorem OwnS.keep {α : Type} {f : α → Value} {H H' : AHeap} {lo hi b : Nat} {a : Option Addr} {n e : Nat} {xs : List α} (h : OwnS f H lo a n e xs) (up : ∀ x, a = some x → x.block < hi) (hd : b < lo ∨ hi ≤ b) (k : Keep1 b H H') : OwnS f H' lo a n e xs := by
  obtain ⟨hn, ⟨rfl, hx⟩ | ⟨c, rfl, h, he, hl⟩⟩ := h
  · exact ⟨hn, .inl ⟨rfl, hx⟩⟩
  · have := up _ rfl
    exact ⟨hn, .inr ⟨c, rfl, h.keep (by simp at this; omega) k, he, hl⟩⟩
/-- There is room for such a list. -/
theorem OwnS.make {α : Type} (f : α → Value) (H : AHeap) (xs : List α) : ∃ H' a n e, Grow H H' ∧ OwnS f H' H.length a n e xs :=
  ⟨H ++ [some { cells := xs.map f, own := true }], some ⟨H.length, 0, none⟩, xs.length, 1, Grow.app H _, (Own.new H _).ownS rfl (Nat.le_refl _)⟩

theorem Al.intro {cells : List Value} {H : AHeap} {K : Nat → AHeap → Prop} (h : ∀ (b : Nat) (H' : AHeap), b = H.length → H'.length = H.length + 1 → Grow H H' → Own H' b cells → K b H') : Al cells H K := by
  unfold Al
  exact h H.length (H ++ [some { cells := cells, own := true }]) rfl (by simp) (Grow.app H _) (Own.new H cells)

/-- An append. -/
theorem Lt.app {H : AHeap} {b : Nat} {o w cs ds : List Value} {K : AHeap → Prop} (hb : Own H b cs) (ho : o = cs) (hw : w = ds)
    (h : ∀ H' : AHeap, H'.length = H.length + 1 → Own H' H.length (cs ++ ds) → Keep1 b H H' → K H') : Lt (killB H (some ⟨b, 0, none⟩) ++ [some ⟨o ++ w, true⟩]) K := by
  subst ho; subst hw
  have hl : (H.set b none).length = H.length := by simp
  refine h _ ?_ ?_ ⟨?_, fun i hi hne => ?_⟩
  · unfold killB; simp
  · unfold Own killB
    rw [List.getElem?_append_right (by simp)]
    simp
  · unfold killB; simp
  · unfold killB
    rw [List.getElem?_append_left (by simpa using hi), List.getElem?_set, if_neg (by simpa using fun e => hne e.symm)]
theorem Ap.app {H : AHeap} {b : Nat} {o w cs ds : List Value} {K : Nat → AHeap → Prop} (hb : Own H b cs) (ho : o = cs) (hw : w = ds)
    (h : ∀ (b' : Nat) (H' : AHeap), b' = H.length → H'.length = H.length + 1 → Own H' b' (cs ++ ds) → Keep1 b H H' → K b' H') : Ap H (killB H (some ⟨b, 0, none⟩) ++ [some ⟨o ++ w, true⟩]) K :=
  Lt.app (K := fun H' => K H.length H') hb ho hw fun H' h1 h2 h3 => h H.length H' rfl h1 h2 h3
/-- A store of one cell. -/
theorem Lt.set {H : AHeap} {b off : Nat} {v : Value} {cs : List Value} {K : AHeap → Prop} (hb : Own H b cs) (hn : off < cs.length)
    (h : ∀ H' : AHeap, H'.length = H.length → Own H' b (cs.set off v) → Keep1 b H H' → K H') : isOwn H b ∧ (∃ l, rdN H b off 1 = some l) ∧ Lt (setC H b off v) K :=
  ⟨hb.isOwn, ⟨_, hb.rdN (by omega)⟩, h _ (setC_length _ _ _ _) (hb.setC_own _ _) ⟨by rw [setC_length]; exact Nat.le_refl _, fun i _ hne => setC_other hne⟩⟩
/-- Cells that are stored one behind another. -/
def putAll (cs : List Value) (off : Nat) : List Value → List Value
  | [] => cs
  | v :: r => putAll (cs.set off v) (off + 1) r
theorem setN_own {b : Nat} : ∀ (vs : List Value) (off : Nat) {H : AHeap} {cs : List Value}, Own H b cs → Own (setN H b off vs) b (putAll cs off vs) ∧ (setN H b off vs).length = H.length ∧ ∀ i, i ≠ b → (setN H b off vs)[i]? = H[i]? := by
  intro vs
  induction vs with
  | nil => intro off H cs h; exact ⟨h, rfl, fun _ _ => rfl⟩
  | cons v r ih =>
    intro off H cs h
    obtain ⟨h1, h2, h3⟩ := ih (off + 1) (h.setC_own off v)
    exact ⟨h1, h2.trans (setC_length _ _ _ _), fun i hi => (h3 i hi).trans (setC_other hi)⟩
theorem Lt.setN {H : AHeap} {b off n : Nat} {vs : List Value} {cs : List Value} {K : AHeap → Prop} (hb : Own H b cs) (hn : off + n ≤ cs.length) (hv : vs.length = n)
    (h : ∀ H' : AHeap, H'.length = H.length → Own H' b (putAll cs off vs) → Keep1 b H H' → K H') : isOwn H b ∧ (∃ l, rdN H b off n = some l) ∧ Lt (Ai.setN H b off vs) K := by
  obtain ⟨h1, h2, h3⟩ := setN_own vs off hb
  exact ⟨hb.isOwn, ⟨_, hb.rdN hn⟩, h _ h2 h1 ⟨by rw [h2]; exact Nat.le_refl _, fun i _ hne => h3 i hne⟩⟩
theorem rdN_at {H : AHeap} {b n : Nat} {l : List Value} (h : rdN H b 0 n = some l) (i : Nat) (hi : i < n) : rdC H b i = l[i]? := by
  have := rdN_cell h hi; rwa [Nat.zero_add] at this
theorem IsL.pos {α : Type} {f : α → Value} {H : AHeap} {a : Option Addr} {n : Nat} {xs : List α} (h : IsL f H a n xs) (hn : 0 < n) : ∃ b o, a = some ⟨b, o, none⟩ := by
  obtain ⟨b, o, e, _⟩ := h.cell hn; exact ⟨b, o, e⟩
theorem IsL.rd {α : Type} {f : α → Value} {H H' : AHeap} {a : Option Addr} {n : Nat} {xs : List α} (h : IsL f H a n xs) (g : Grow H H') {b o i : Nat} (ha : a = some ⟨b, o, none⟩) (hi : i < n) (d : α) : rdC H' b (o + i * 1) = some (f (xs.getD i d)) := by
  obtain ⟨b', o', e, hc⟩ := (h.grow g).cell (by omega)
  rw [ha] at e
  cases e
  have hl := h.len
  have hx : xs[i]? = some (xs.getD i d) := by rw [List.getD_eq_getElem?_getD, List.getElem?_eq_getElem (by omega)]; rfl
  exact hc i _ hx
theorem Own.rd {α : Type} {f : α → Value} {H : AHeap} {b i : Nat} {xs : List α} (h : Own H b (xs.map f)) (hi : i < xs.length) (d : α) : Ai.rdC H b (0 + i * 1) = some (f (xs.getD i d)) := by
  rw [h.rdC, Nat.zero_add, Nat.mul_one, List.getElem?_map, List.getD_eq_getElem?_getD, List.getElem?_eq_getElem hi]; rfl
theorem zeros_map {α : Type} (f : α → Value) (z : α) (n : Nat) (hz : (f z).cells.toList = [f z]) : zerosOf (f z) n = (List.replicate n z).map f := by
  unfold zerosOf
  rw [hz, List.map_replicate]
  induction n with
  | zero => rfl
  | succ n ih => rw [List.replicate_succ, List.flatten_cons, ih, List.replicate_succ]; rfl
theorem map_snoc {α : Type} {f : α → Value} {xs ys : List α} {H : AHeap} {b : Nat} (h : Own H b (xs.map f ++ ys.map f)) : Own H b ((xs ++ ys).map f) := by rw [List.map_append]; exact h
theorem map_set {α : Type} {f : α → Value} {xs : List α} {i : Nat} {x : α} {H : AHeap} {b : Nat} (h : Own H b ((xs.map f).set (0 + i * 1) (f x))) : Own H b ((xs.set i x).map f) := by
  rw [Nat.zero_add, Nat.mul_one] at h; rw [List.map_set]; exact h
/-- Lists are not so long that a number of 32 bits could not tell it. -/
theorem IsL.eqn {α : Type} {f : α → Value} {H : AHeap} {a : Option Addr} {n : Nat} {xs : List α} (h : IsL f H a n xs) : n = xs.length := h.len.symm
/-! Lists of lists. -/
def LLc {α : Type} (f : α → Value) (H : AHeap) : List Value → List (List α) → Prop
  | [], [] => True
  | .slice a n _ :: vs, xs :: xss => IsL f H a n xs ∧ LLc f H vs xss
  | _, _ => False
def IsLL {α : Type} (f : α → Value) (H : AHeap) (a : Option Addr) (n : Nat) (xss : List (List α)) : Prop := ∃ vs, rdS H a n = some vs ∧ LLc f H vs xss
theorem LLc.nil {α : Type} (f : α → Value) (H : AHeap) : LLc f H [] [] := trivial
theorem LLc.cons {α : Type} {f : α → Value} {H : AHeap} {a : Option Addr} {n e : Nat} {xs : List α} {vs : List Value} {xss : List (List α)} (h : IsL f H a n xs) (k : LLc f H vs xss) : LLc f H (.slice a n e :: vs) (xs :: xss) := ⟨h, k⟩
theorem LLc.grow {α : Type} {f : α → Value} {H H' : AHeap} (g : Grow H H') : ∀ {vs : List Value} {xss : List (List α)}, LLc f H vs xss → LLc f H' vs xss
  | [], [], _ => trivial
  | .slice _ _ _ :: _, _ :: _, h => ⟨h.1.grow g, LLc.grow g h.2⟩
theorem LLc.len {α : Type} {f : α → Value} {H : AHeap} : ∀ {vs : List Value} {xss : List (List α)}, LLc f H vs xss → vs.length = xss.length
  | [], [], _ => rfl
  | .slice _ _ _ :: _, _ :: _, h => by simp [LLc.len h.2]
theorem LLc.get {α : Type} {f : α → Value} {H : AHeap} : ∀ (vs : List Value) (xss : List (List α)) (i : Nat), LLc f H vs xss → i < xss.length → ∃ a n e, vs[i]? = some (.slice a n e) ∧ IsL f H a n (xss.getD i []) := by
  intro vs
  induction vs with
  | nil =>
    intro xss i h hi
    cases xss with
    | nil => cases hi
    | cons x r => exact h.elim
  | cons v vs ih =>
    intro xss i h hi
    cases xss with
    | nil => cases hi
    | cons x r =>
      cases v with
      | slice a n e =>
        cases i with
        | zero => exact ⟨a, n, e, rfl, h.1⟩
        | succ i =>
          obtain ⟨a', n', e', h1, h2⟩ := ih r i h.2 (by simpa using hi)
          exact ⟨a', n', e', by simpa using h1, by simpa using h2⟩
      | _ => exact h.elim
theorem IsLL.grow {α : Type} {f : α → Value} {H H' : AHeap} (g : Grow H H') {a : Option Addr} {n : Nat} {xss : List (List α)} (h : IsLL f H a n xss) : IsLL f H' a n xss :=
  let ⟨vs, h1, h2⟩ := h; ⟨vs, rdS_grow g h1, h2.grow g⟩
theorem IsLL.eqn {α : Type} {f : α → Value} {H : AHeap} {a : Option Addr} {n : Nat} {xss : List (List α)} (h : IsLL f H a n xss) : n = xss.length :=
  let ⟨_, h1, h2⟩ := h; (rdS_length h1).symm.trans h2.len
theorem IsLL.pos {α : Type} {f : α → Value} {H : AHeap} {a : Option Addr} {n : Nat} {xss : List (List α)} (h : IsLL f H a n xss) (hn : 0 < n) : ∃ b o, a = some ⟨b, o, none⟩ := by
  obtain ⟨vs, h1, h2⟩ := h
  rcases rdS_split h1 with ⟨h3, _⟩ | ⟨_, b, off, e, _⟩
  · omega
  · exact ⟨b, off, e⟩
theorem IsLL.rd {α : Type} {f : α → Value} {H H' : AHeap} {a : Option Addr} {n : Nat} {xss : List (List α)} (h : IsLL f H a n xss) (g : Grow H H') {b o i : Nat} (ha : a = some ⟨b, o, none⟩) (hi : i < n) :
    ∃ a' n' e', rdC H' b (o + i * 1) = some (.slice a' n' e') ∧ IsL f H a' n' (xss.getD i []) := by
  have hn := h.eqn
  obtain ⟨vs, h1, h2⟩ := h
  obtain ⟨a', n', e', h3, h4⟩ := h2.get _ _ i (by omega)
  rcases rdS_split h1 with ⟨h5, _⟩ | ⟨_, b', off, e, h5⟩
  · omega
  · rw [ha] at e; cases e
    exact ⟨a', n', e', rdC_grow g (by rw [Nat.mul_one, rdN_cell h5 hi, h3]), h4⟩
theorem nf_of_t {b : Bool} (h : (!b) = true) : b = false := by cases b <;> simp_all
theorem nt_of_f {b : Bool} (h : (!b) = false) : b = true := by cases b <;> simp_all
theorem ieq_t {a b : Int} (h : (a == b) = true) : a = b := eq_of_beq h
theorem ieq_f {a b : Int} (h : (a == b) = false) : a ≠ b := fun e => by subst e; simp at h
theorem ine_t {a b : Int} (h : (a != b) = true) : a ≠ b := fun e => by subst e; simp at h
theorem ine_f {a b : Int} (h : (a != b) = false) : a = b := by simpa using h
theorem opt_get {α : Type} {o : Option α} {d : α} (h : o ≠ none) : o = some (o.getD d) := by cases o with | none => exact absurd rfl h | some x => rfl
abbrev fC : Nat × Nat → Value := fun p => Value.complex .f32 p.1 p.2
abbrev fU : UInt8 → Value := fun c => Value.int .u8 c.toNat
theorem getD_len {α : Type} {xss : List (List α)} (h : ∀ y ∈ xss, y.length < 1073741824) (i : Nat) : (xss.getD i []).length < 1073741824 := by
  rw [List.getD_eq_getElem?_getD]
  cases hx : xss[i]? with
  | none => exact (by decide : 0 < 1073741824)
  | some y => exact h y (List.mem_of_getElem? hx)
theorem Br_mono {b : Bool} {A B A' B' : Prop} (f : A → A') (g : B → B') (h : Br b A B) : Br b A' B' := by cases b; exact g h; exact f h
theorem Br_live {α : Type} {b : Bool} {K : α → AHeap → Prop} {x y : α} {H1 H2 : AHeap} (h : Br b (K x H1) (K y H2)) : ∃ v H', K v H' := by cases b; exact ⟨_, _, h⟩; exact ⟨_, _, h⟩
theorem tdiv_nn (a b : Int) : 0 ≤ a → Int.tdiv a b = a / b := fun h => Int.tdiv_eq_ediv_of_nonneg h
theorem tmod_nn (a b : Int) : 0 ≤ a → Int.tmod a b = a % b := fun h => Int.tmod_eq_emod_of_nonneg h
theorem tmod_rng (a b : Int) : 0 ≤ a → 0 < b → 0 ≤ Int.tmod a b ∧ Int.tmod a b < b := fun h k => by
  rw [Int.tmod_eq_emod_of_nonneg h]; exact ⟨Int.emod_nonneg _ (by omega), Int.emod_lt_of_pos _ k⟩
theorem liveS {α : Type} {f : α → Value} {H : AHeap} {xs : List α} {R : Prop} (h : ∀ a n e H', Grow H H' → OwnS f H' H.length a n e xs → R) : R := by
  obtain ⟨H', a, n, e, g, o⟩ := OwnS.make f H xs; exact h a n e H' g o
theorem liveV {α : Type} {f : α → Value} {H : AHeap} {xs : List α} {R : Prop} (h : ∀ (a : Option Addr) (n e : Nat) H', Grow H H' → IsL f H' a n xs → R) : R := by
  obtain ⟨H', a, n, e, g, o⟩ := OwnS.make f H xs; exact h a n e H' g o.isL
theorem isl_rdS {α : Type} {f : α → Value} {H : AHeap} {a : Option Addr} {n : Nat} {xs : List α} (h : IsL f H a n xs) : rdS H a (n * 1) = some (xs.map f) := by rw [Nat.mul_one]; exact h
/-- A part of a list, between two numbers. -/
theorem sub_isl {α : Type} {f : α → Value} {H : AHeap} {a : Option Addr} {n : Nat} {xs : List α} (h : IsL f H a n xs) {lo hi : Int} (h0 : 0 ≤ lo) (h1 : lo ≤ hi) (h2 : hi ≤ n) :
    IsL f H (a.map fun a => ⟨a.block, a.off + lo.toNat * 1, none⟩) (hi - lo).toNat ((xs.drop lo.toNat).take (hi - lo).toNat) := by
  have := h.sub (lo := lo.toNat) (hi := hi.toNat) (by omega) (by omega)
  have e : (hi - lo).toNat = hi.toNat - lo.toNat := by omega
  rw [e]; exact this
theorem wrapu_eq (n : Int) : IntKind.wrap .u64 n = n % 18446744073709551616 := rfl
theorem wrapu_nonneg (n : Int) : (0 : Int) ≤ IntKind.wrap .u64 n := by rw [wrapu_eq]; omega
theorem wrapu_id {n : Int} (h0 : 0 ≤ n) (h1 : n < 18446744073709551616) : IntKind.wrap .u64 n = n := by rw [wrapu_eq]; omega
/-- A list that is written from its start on, cell by cell. -/
theorem set_front {α : Type} (xs ys : List α) (k : Nat) (hk : k < ys.length) (hl : xs.length = ys.length) (x : α) (hx : xs[k]? = some x) :
    (xs.take k ++ ys.drop k).set k x = xs.take (k + 1) ++ ys.drop (k + 1) := by
  have h1 : (xs.take k).length = k := by simp; omega
  rw [List.set_append_right _ _ (by omega), h1, Nat.sub_self, List.drop_eq_getElem_cons hk, List.set_cons_zero, List.take_add_one, hx]
  simp
/-! Only the block of one list has changed. -/
def KeepA (a : Option Addr) (H H' : AHeap) : Prop := H.length ≤ H'.length ∧ ∀ i, i < H.length → (∀ x, a = some x → x.block ≠ i) → H'[i]? = H[i]?
theorem KeepA.refl (a : Option Addr) (H : AHeap) : KeepA a H H := ⟨Nat.le_refl _, fun _ _ _ => rfl⟩
theorem KeepA.trans {a : Option Addr} {H0 H1 H2 : AHeap} (h : KeepA a H0 H1) (g : Grow H1 H2) : KeepA a H0 H2 :=
  ⟨Nat.le_trans h.1 g.1, fun i hi hn => (g.2 i (Nat.lt_of_lt_of_le hi h.1)).trans (h.2 i hi hn)⟩
theorem KeepA.transA {a : Option Addr} {H0 H1 H2 : AHeap} (h : KeepA a H0 H1) (g : KeepA a H1 H2) : KeepA a H0 H2 :=
  ⟨Nat.le_trans h.1 g.1, fun i hi hn => (g.2 i (Nat.lt_of_lt_of_le hi h.1) hn).trans (h.2 i hi hn)⟩
theorem KeepA.keep {a : Option Addr} {H0 H1 H2 : AHeap} {b : Nat} (h : KeepA a H0 H1) (hb : H0.length ≤ b) (k : Keep1 b H1 H2) : KeepA a H0 H2 :=
  ⟨Nat.le_trans h.1 k.1, fun i hi hn => (k.2 i (Nat.lt_of_lt_of_le hi h.1) (by omega)).trans (h.2 i hi hn)⟩
theorem KeepA.keepA {a a2 : Option Addr} {H0 H1 H2 : AHeap} (h : KeepA a H0 H1) (hd : ∀ x, a2 = some x → H0.length ≤ x.block) (k : KeepA a2 H1 H2) : KeepA a H0 H2 :=
  ⟨Nat.le_trans h.1 k.1, fun i hi hn => (k.2 i (Nat.lt_of_lt_of_le hi h.1) (fun x hx => by have := hd x hx; omega)).trans (h.2 i hi hn)⟩
theorem Grow.keepA {a : Option Addr} {H0 H1 H2 : AHeap} (h : Grow H0 H1) (hd : ∀ x, a = some x → H0.length ≤ x.block) (k : KeepA a H1 H2) : Grow H0 H2 :=
  ⟨Nat.le_trans h.1 k.1, fun i hi => (k.2 i (Nat.lt_of_lt_of_le hi h.1) (fun x hx => by have := hd x hx; omega)).trans (h.2 i hi)⟩
theorem Own.keepA {H H' : AHeap} {b : Nat} {cs : List Value} (h : Own H b cs) {a : Option Addr} (hd : ∀ x, a = some x → x.block ≠ b) (k : KeepA a H H') : Own H' b cs := (k.2 b h.lt hd).trans h
/-- Two lists that lie in different blocks. -/
def SepA (a b : Option Addr) : Prop := ∀ x y, a = some x → b = some y → x.block ≠ y.block
theorem SepA.symm {a b : Option Addr} (h : SepA a b) : SepA b a := fun x y hx hy e => h y x hy hx e.symm
theorem OwnS.keepA {α : Type} {f : α → Value} {H H' : AHeap} {lo : Nat} {a a2 : Option Addr} {n e : Nat} {xs : List α} (h : OwnS f H lo a n e xs) (hd : SepA a2 a) (k : KeepA a2 H H') : OwnS f H' lo a n e xs := by
  obtain ⟨hn, ⟨rfl, hx⟩ | ⟨c, rfl, h, he, hl⟩⟩ := h
  · exact ⟨hn, .inl ⟨rfl, hx⟩⟩
  · exact ⟨hn, .inr ⟨c, rfl, h.keepA (fun x hx => hd x _ hx rfl) k, he, hl⟩⟩
theorem OwnS.lo {α : Type} {f : α → Value} {H : AHeap} {lo : Nat} {a : Option Addr} {n e : Nat} {xs : List α} (h : OwnS f H lo a n e xs) : ∀ x, a = some x → lo ≤ x.block := by
  obtain ⟨_, ⟨rfl, _⟩ | ⟨b, rfl, h, _, hl⟩⟩ := h
  · intro x hx; cases hx
  · intro x hx; cases hx; exact hl
theorem OwnS.len {α : Type} {f : α → Value} {H : AHeap} {lo : Nat} {a : Option Addr} {n e : Nat} {xs : List α} (h : OwnS f H lo a n e xs) : n = xs.length := h.1
theorem liveS2 {α β : Type} {f : α → Value} {f2 : β → Value} {H : AHeap} {xs : List α} {ys : List β} {R : Prop} (h : ∀ a n e a2 n2 e2 H', Grow H H' → OwnS f H' H.length a n e xs → OwnS f2 H' H.length a2 n2 e2 ys → SepA a a2 → R) : R := by
  obtain ⟨H', a, n, e, g, o⟩ := OwnS.make f H xs
  obtain ⟨H2, a2, n2, e2, g2, o2⟩ := OwnS.make f2 H' ys
  exact h a n e a2 n2 e2 H2 (g.trans g2) (o.grow g2) (o2.weak g.1) (fun x y hx hy hh => by have := o.up x hx; have := o2.lo y hy; omega)
/-- A store into such a list. -/
theorem Lt.setS {α : Type} {f : α → Value} {H : AHeap} {lo b o i n e : Nat} {a : Option Addr} {xs : List α} {x : α} {K : AHeap → Prop} (h : OwnS f H lo a n e xs) (ha : a = some ⟨b, o, none⟩) (hi : i < xs.length)
    (hk : ∀ H' : AHeap, H'.length = H.length → OwnS f H' lo a n e (xs.set i x) → KeepA a H H' → K H') : isOwn H b ∧ (∃ l, rdN H b (o + i * 1) 1 = some l) ∧ Lt (setC H b (o + i * 1) (f x)) K := by
  obtain ⟨hn, ⟨rfl, _⟩ | ⟨c, rfl, h, he, hl⟩⟩ := h
  · cases ha
  · cases ha
    refine Lt.set h (by simp; omega) fun H' h1 h2 h3 => hk H' h1 ⟨by simpa using hn, .inr ⟨_, rfl, map_set h2, he, hl⟩⟩ ⟨h3.1, fun i hi hx => h3.2 i hi fun e => hx _ rfl e.symm⟩
theorem OwnS.keep1 {H H' : AHeap} {b : Nat} (k : Keep1 b H H') : KeepA (some ⟨b, 0, none⟩) H H' := ⟨k.1, fun i hi hx => k.2 i hi fun e => hx _ rfl e.symm⟩
/-- Marks: what a list holds that is written with a number that goes up. -/
def wk (k : Int) : Nat → Int
  | 0 => k
  | n + 1 => wk (IntKind.wrap .i64 (k + 1)) n
def marks {α : Type} (f : Int → α) (k : Int) : Nat → List α
  | 0 => []
  | n + 1 => f k :: marks f (IntKind.wrap .i64 (k + 1)) n
theorem marks_length {α : Type} (f : Int → α) : ∀ (n : Nat) (k : Int), (marks f k n).length = n := by
  intro n
  induction n with
  | zero => intro k; rfl
  | succ n ih => intro k; simp [marks, ih]
theorem wk_eq : ∀ (n : Nat) (k : Int), 0 ≤ k → k + n ≤ 9223372036854775807 → wk k n = k + n := by
  intro n
  induction n with
  | zero => intro k _ _; simp [wk]
  | succ n ih =>
    intro k h0 h1
    rw [wk, wrap64 (by omega) (by omega), ih _ (by omega) (by omega)]; omega
theorem wk_add : ∀ (n m : Nat) (k : Int), wk (wk k n) m = wk k (n + m) := by
  intro n
  induction n with
  | zero => intro m k; simp [wk]
  | succ n ih => intro m k; rw [wk, ih, show n + 1 + m = (n + m) + 1 by omega, wk]
theorem marks_add {α : Type} (f : Int → α) : ∀ (n m : Nat) (k : Int), marks f k (n + m) = marks f k n ++ marks f (wk k n) m := by
  intro n
  induction n with
  | zero => intro m k; simp [wk, marks]
  | succ n ih => intro m k; rw [show n + 1 + m = (n + m) + 1 by omega, marks, marks, wk, ih]; rfl
theorem OwnS.put {α : Type} {f : α → Value} {H : AHeap} {lo : Nat} {a : Option Addr} {n e : Nat} {xs : List α} (h : OwnS f H lo a n e xs) (ys : List α) (hl : ys.length = xs.length) : ∃ H', KeepA a H H' ∧ OwnS f H' lo a n e ys := by
  obtain ⟨hn, ⟨rfl, hx⟩ | ⟨c, rfl, h, he, hlo⟩⟩ := h
  · subst hx
    have : ys = [] := List.length_eq_zero_iff.1 hl
    exact ⟨H, KeepA.refl _ _, hn.trans hl.symm, .inl ⟨rfl, this⟩⟩
  · refine ⟨H.set c (some { cells := ys.map f, own := true }), ⟨by simp, fun i hi hx => ?_⟩, hn.trans hl.symm, .inr ⟨c, rfl, ?_, he, hlo⟩⟩
    · rw [List.getElem?_set, if_neg (fun e => hx _ rfl e)]
    · unfold Own; rw [List.getElem?_set]; simp [h.lt]
/-- The byte of a string at an index. -/
def sAt (s : ByteArray) (i : Nat) : UInt8 := s.data.getD i 0
theorem sAt_some {s : ByteArray} {i : Nat} (h : i < s.data.size) : s[i]? = some (sAt s i) := by
  unfold sAt
  rw [Array.getD_eq_getD_getElem?, Array.getElem?_eq_getElem h]
  exact getElem?_pos s i h
theorem wrapu8_rng (n : Int) : 0 ≤ IntKind.wrap .u8 n ∧ IntKind.wrap .u8 n ≤ 255 := by
  rw [show IntKind.wrap .u8 n = n % 256 from rfl]; omega
end Go.Proofs.Ytbnplefohfamnaa.Ai
