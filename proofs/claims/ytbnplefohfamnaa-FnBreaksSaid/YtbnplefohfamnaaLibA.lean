/- Words and lemmas for what the printed bodies come to: branches, whole numbers, lists in blocks. -/
import Derived.Test.YtbnplefohfamnaaAiM
set_option linter.unusedSimpArgs false
set_option linter.unusedVariables false
namespace Go.Proofs.Ytbnplefohfamnaa.Ai
open Go

theorem Br_true (A B : Prop) : Br true A B = A := rfl
theorem Br_false (A B : Prop) : Br false A B = B := rfl
theorem Br_iff (b : Bool) (A B : Prop) : Br b A B ↔ (b = true → A) ∧ (b = false → B) := by cases b <;> simp [Br]
theorem Br.intro {b : Bool} {A B : Prop} (h1 : b = true → A) (h2 : b = false → B) : Br b A B := by
  cases b
  · exact h2 rfl
  · exact h1 rfl
theorem Br.dec {p : Prop} [Decidable p] {A B : Prop} (h1 : p → A) (h2 : ¬ p → B) : Br (decide p) A B :=
  Br.intro (fun h => h1 (of_decide_eq_true h)) (fun h => h2 (of_decide_eq_false h))
theorem Br.same {b : Bool} {A : Prop} (h : A) : Br b A A := by cases b <;> exact h

theorem wrap64 {n : Int} (h1 : -9223372036854775808 ≤ n) (h2 : n ≤ 9223372036854775807) : IntKind.wrap .i64 n = n := by
  rw [IntKind.wrap_i64]; omega
theorem wrapU8 {n : Int} (h1 : 0 ≤ n) (h2 : n ≤ 255) : IntKind.wrap .u8 n = n := by
  show (let m := n % (2 ^ 8 : Int); if false && m ≥ (2 ^ 7 : Int) then m - (2 ^ 8 : Int) else m) = n
  simp; omega

/-! ### blocks -/
theorem most_eq : most = 4294967296 := rfl

/-- A block of our own with these cells. -/
def Own (H : AHeap) (b : Nat) (cs : List Value) : Prop := H[b]? = some (some { cells := cs, own := true })
theorem cnb {α : Type} {P : α → Prop} {b : Bool} {x y : α} (h1 : b = true → P x) (h2 : b = false → P y) : P (bif b then x else y) := by
  cases b
  · exact h2 rfl
  · exact h1 rfl
theorem Grow.refl (H : AHeap) : Grow H H := ⟨Nat.le_refl _, fun _ _ => rfl⟩
theorem Grow.trans {a b c : AHeap} (h : Grow a b) (k : Grow b c) : Grow a c := ⟨Nat.le_trans h.1 k.1, fun i hi => (k.2 i (Nat.lt_of_lt_of_le hi h.1)).trans (h.2 i hi)⟩
theorem Grow.app (H : AHeap) (x : Option Blk) : Grow H (H ++ [x]) := ⟨by simp, fun b hb => List.getElem?_append_left hb⟩
theorem Own.lt {H : AHeap} {b : Nat} {cs : List Value} (h : Own H b cs) : b < H.length := (List.getElem?_eq_some_iff.1 h).1
theorem Own.grow {H H' : AHeap} {b : Nat} {cs : List Value} (h : Own H b cs) (g : Grow H H') : Own H' b cs := (g.2 b h.lt).trans h
theorem Own.new (H : AHeap) (cs : List Value) : Own (H ++ [some { cells := cs, own := true }]) H.length cs := by simp [Own]
theorem Own.rdB {H : AHeap} {b : Nat} {cs : List Value} (h : Own H b cs) : rdB H b = some cs := by unfold Ai.rdB; rw [h]
theorem Own.rdC {H : AHeap} {b : Nat} {cs : List Value} (h : Own H b cs) (i : Nat) : rdC H b i = cs[i]? := by unfold Ai.rdC; rw [h.rdB]; rfl
theorem Own.rdN {H : AHeap} {b : Nat} {cs : List Value} (h : Own H b cs) {off n : Nat} (hn : off + n ≤ cs.length) : rdN H b off n = some ((cs.drop off).take n) := by
  unfold Ai.rdN; rw [h.rdB]; simp [hn]
theorem Own.isOwn {H : AHeap} {b : Nat} {cs : List Value} (h : Own H b cs) : isOwn H b := ⟨_, h, rfl⟩
theorem Own.rdAll {H : AHeap} {b : Nat} {cs : List Value} (h : Own H b cs) {n : Nat} (hn : n = cs.length) : rdS H (some ⟨b, 0, none⟩) n = some cs := by
  subst hn
  unfold rdS
  cases hb : Nat.beq cs.length 0 with
  | true =>
    have : cs = [] := List.length_eq_zero_iff.1 (Nat.eq_of_beq_eq_true hb)
    subst this; rfl
  | false =>
    simp only [cond_false]
    rw [h.rdN (by omega)]; simp
theorem Own.ownB {H : AHeap} {b : Nat} {cs : List Value} (h : Own H b cs) {n e sz : Nat} (hn : cs.length = n * sz) (he : e = sz) : ownB H (some ⟨b, 0, none⟩) n e sz = some cs := by
  unfold Ai.ownB
  show (match H[b]? with | some (some blk) => if 0 = 0 ∧ blk.own = true ∧ blk.cells.length = n * sz ∧ e = sz then some blk.cells else none | _ => none) = _
  rw [h]
  simp [hn, he]

/-- The store of one cell. -/
theorem Own.setC {H : AHeap} {b : Nat} {cs : List Value} (h : Own H b cs) {off : Nat} {v : Value} : Ai.setC H b off v = H.set b (some { cells := cs.set off v, own := true }) := by
  unfold Ai.setC; rw [h]
theorem Own.setC_own {H : AHeap} {b : Nat} {cs : List Value} (h : Own H b cs) (off : Nat) (v : Value) : Own (Ai.setC H b off v) b (cs.set off v) := by
  rw [h.setC]; unfold Own; rw [List.getElem?_set]; simp [h.lt]
theorem setC_other {H : AHeap} {b b' off : Nat} {v : Value} (hne : b' ≠ b) : (setC H b off v)[b']? = H[b']? := by
  unfold setC
  split
  · rw [List.getElem?_set, if_neg (by omega)]
  · rfl
theorem setC_length (H : AHeap) (b off : Nat) (v : Value) : (setC H b off v).length = H.length := by
  unfold setC
  split <;> simp

/-- A list in a slice. -/
def IsL {α : Type} (f : α → Value) (H : AHeap) (a : Option Addr) (n : Nat) (xs : List α) : Prop := rdS H a n = some (xs.map f)
abbrev fF : Nat → Value := Value.float .f32
abbrev fI : Int → Value := Value.int .i64
abbrev fB : Bool → Value := Value.bool

theorem rdS_length {H : AHeap} {a : Option Addr} {n : Nat} {l : List Value} (h : rdS H a n = some l) : l.length = n := by
  rcases rdS_split h with ⟨h1, h2⟩ | ⟨_, b, off, _, h⟩
  · rw [h1, h2]; rfl
  · exact rdN_length h
theorem IsL.len {α : Type} {f : α → Value} {H : AHeap} {a : Option Addr} {n : Nat} {xs : List α} (h : IsL f H a n xs) : xs.length = n := by
  have := rdS_length h; simpa using this
theorem rdB_grow {H H' : AHeap} (g : Grow H H') {b : Nat} {l : List Value} (h : rdB H b = some l) : rdB H' b = some l := by
  obtain ⟨blk, hb, rfl⟩ := rdB_some h
  unfold rdB
  rw [g.2 b (List.getElem?_eq_some_iff.1 hb).1, hb]
theorem rdC_grow {H H' : AHeap} (g : Grow H H') {b i : Nat} {v : Value} (h : rdC H b i = some v) : rdC H' b i = some v := by
  unfold rdC at *
  obtain ⟨cs, h1, h2⟩ := Option.bind_eq_some_iff.1 h
  rw [rdB_grow g h1]; exact h2
theorem rdN_grow {H H' : AHeap} (g : Grow H H') {b off n : Nat} {l : List Value} (h : rdN H b off n = some l) : rdN H' b off n = some l := by
  unfold rdN at *
  obtain ⟨cs, h1, h2⟩ := Option.bind_eq_some_iff.1 h
  rw [rdB_grow g h1]; exact h2
theorem rdS_grow {H H' : AHeap} (g : Grow H H') {a : Option Addr} {n : Nat} {l : List Value} (h : rdS H a n = some l) : rdS H' a n = some l := by
  rcases rdS_split h with ⟨h1, h2⟩ | ⟨hn, b, off, rfl, h'⟩
  · subst h1; subst h2; rfl
  · unfold rdS
    have : Nat.beq n 0 = false := by cases hb : Nat.beq n 0; rfl; have := Nat.eq_of_beq_eq_true hb; omega
    rw [this]; exact rdN_grow g h'
theorem IsL.grow {α : Type} {f : α → Value} {H H' : AHeap} (g : Grow H H') {a : Option Addr} {n : Nat} {xs : List α} (h : IsL f H a n xs) : IsL f H' a n xs := rdS_grow g h
theorem rdN_cell {H : AHeap} {b off n : Nat} {l : List Value} (h : rdN H b off n = some l) {i : Nat} (hi : i < n) : rdC H b (off + i) = l[i]? := by
  obtain ⟨blk, hb, hn, rfl⟩ := rdN_some h
  unfold rdC rdB
  rw [hb]
  simp only [Option.bind_some]
  rw [List.getElem?_take, if_pos hi, List.getElem?_drop]
/-- Its cells, one by one. -/
theorem IsL.cell {α : Type} {f : α → Value} {H : AHeap} {a : Option Addr} {n : Nat} {xs : List α} (h : IsL f H a n xs) (hn : 0 < n) :
    ∃ b off, a = some ⟨b, off, none⟩ ∧ ∀ i (x : α), xs[i]? = some x → rdC H b (off + i * 1) = some (f x) := by
  rcases rdS_split h with ⟨h1, h2⟩ | ⟨_, b, off, rfl, h9⟩
  · omega
  · refine ⟨b, off, rfl, fun i x hx => ?_⟩
    have hl := rdN_length h9
    have hi : i < n := by have := (List.getElem?_eq_some_iff.1 hx).1; simp at hl; omega
    rw [Nat.mul_one, rdN_cell h9 hi, List.getElem?_map, hx]; rfl
theorem IsL.nil {α : Type} (f : α → Value) (H : AHeap) (a : Option Addr) : IsL f H a 0 [] := rfl
theorem Own.isL {α : Type} {f : α → Value} {H : AHeap} {b : Nat} {xs : List α} (h : Own H b (xs.map f)) {n : Nat} (hn : n = xs.length) : IsL f H (some ⟨b, 0, none⟩) n xs := h.rdAll (by simpa using hn)
/-- A part of a list. -/
theorem IsL.sub {α : Type} {f : α → Value} {H : AHeap} {a : Option Addr} {n : Nat} {xs : List α} (h : IsL f H a n xs) {lo hi : Nat} (h1 : lo ≤ hi) (h2 : hi ≤ n) :
    IsL f H (a.map fun a => ⟨a.block, a.off + lo * 1, none⟩) (hi - lo) ((xs.drop lo).take (hi - lo)) := by
  unfold IsL at *
  rcases Nat.eq_zero_or_pos (hi - lo) with h0 | h0
  · rw [h0]; simp [rdS]
  rcases rdS_split h with ⟨h3, h4⟩ | ⟨_, b, off, rfl, h9⟩
  · omega
  · unfold rdS
    have hb0 : Nat.beq (hi - lo) 0 = false := by cases hb : Nat.beq (hi - lo) 0; rfl; have := Nat.eq_of_beq_eq_true hb; omega
    rw [hb0]
    simp only [Option.map_some, cond_false]
    obtain ⟨blk, hb, hn, he⟩ := rdN_some h9
    unfold rdN rdB
    rw [hb]
    simp only [Option.bind_some]
    rw [if_pos (by omega), List.map_take, List.map_drop, he, List.drop_take, List.drop_drop, List.take_take, Nat.mul_one, Nat.min_eq_left (by omega)]

/-- What an append of one value leaves. -/
def app1H (H : AHeap) (b : Nat) (cs : List Value) (v : Value) : AHeap :=
  killB (H ++ [some { cells := [v], own := true }]) (some ⟨b, 0, none⟩) ++ [some { cells := cs ++ [v], own := true }]
theorem app1_own (H : AHeap) (b : Nat) (cs : List Value) (v : Value) : Own (app1H H b cs v) (H ++ [some ({ cells := [v], own := true } : Blk)]).length (cs ++ [v]) := by
  unfold app1H Own killB
  rw [List.getElem?_append_right (by simp)]
  simp
theorem app1_keep {H : AHeap} {b : Nat} {cs : List Value} {v : Value} {b' : Nat} (h : b' < H.length) (hne : b' ≠ b) : (app1H H b cs v)[b']? = H[b']? := by
  unfold app1H killB
  rw [List.getElem?_append_left (by simp; omega)]
  rw [List.getElem?_set, if_neg (by simpa using fun e => hne e.symm), List.getElem?_append_left h]
theorem app1_length (H : AHeap) (b : Nat) (cs : List Value) (v : Value) : (app1H H b cs v).length = H.length + 2 := by
  unfold app1H killB; simp
theorem app1_grow {H0 H : AHeap} {b : Nat} {cs : List Value} {v : Value} (g : Grow H0 H) (hb : H0.length ≤ b) : Grow H0 (app1H H b cs v) :=
  ⟨by rw [app1_length]; have := g.1; omega, fun i hi => by rw [app1_keep (Nat.lt_of_lt_of_le hi g.1) (by omega)]; exact g.2 i hi⟩
/-- The steps of an append of one value. -/
theorem app1 {H : AHeap} {b : Nat} {cs : List Value} {v : Value} {n : Nat} {K : AHeap → AHeap → Prop} (h : Own H b cs) (hn : cs.length = n) (hm : n + 1 < most)
    (hk : K (H ++ [some { cells := [v], own := true }]) (app1H H b cs v)) :
    Al [v] H fun b1 H1 => ∃ o w : List Value, ownB H1 (some ⟨b, 0, none⟩) n 1 1 = some o ∧ rdS H1 (some ⟨b1, 0, none⟩) (1 * 1) = some w ∧ ((some ⟨b, 0, none⟩ : Option Addr) = none → 0 < (1 : Nat)) ∧ (n : Nat) + 1 < most ∧
      Lt (killB H1 (some ⟨b, 0, none⟩) ++ [some ⟨o ++ w, true⟩]) fun H2 => K H1 H2 :=
  ⟨cs, [v], (h.grow (Grow.app H _)).ownB (by omega) rfl, (Own.new H [v]).rdAll rfl, fun _ => by omega, hm, hk⟩
end Go.Proofs.Ytbnplefohfamnaa.Ai
