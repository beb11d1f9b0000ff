/- The library's stable sort, on lists: what comes out is sorted, and equals keep their order. -/
import Derived.Test.YtbnplefohfamnaaFb
set_option linter.unusedVariables false
namespace Go.Proofs.Ytbnplefohfamnaa.Ai.So
/-! Stable sorting of lists, told by a key. -/
section
variable {κ : Nat → Int}

/-- In ascending order. -/
def Asc (κ : Nat → Int) (l : List Nat) : Prop := l.Pairwise fun x y => κ x ≤ κ y
/-- The same elements, equals in the same order. -/
def Stab (κ : Nat → Int) (l m : List Nat) : Prop := ∀ k : Int, m.filter (fun x => decide (κ x = k)) = l.filter (fun x => decide (κ x = k))
/-- m is l, sorted. -/
structure SS (κ : Nat → Int) (l m : List Nat) : Prop where
  asc : Asc κ m
  stab : Stab κ l m

theorem Stab.refl (l : List Nat) : Stab κ l l := fun _ => rfl
theorem Stab.trans {a b c : List Nat} (h : Stab κ a b) (g : Stab κ b c) : Stab κ a c := fun k => (g k).trans (h k)
theorem Stab.symm {a b : List Nat} (h : Stab κ a b) : Stab κ b a := fun k => (h k).symm
theorem Stab.app {a b c d : List Nat} (h : Stab κ a b) (g : Stab κ c d) : Stab κ (a ++ c) (b ++ d) := fun k => by
  rw [List.filter_append, List.filter_append, h k, g k]
theorem Stab.mem {a b : List Nat} (h : Stab κ a b) (x : Nat) : x ∈ b ↔ x ∈ a := by
  have := h (κ x)
  constructor
  · intro hx
    have h1 : x ∈ b.filter (fun y => decide (κ y = κ x)) := List.mem_filter.2 ⟨hx, by simp⟩
    rw [this] at h1; exact (List.mem_filter.1 h1).1
  · intro hx
    have h1 : x ∈ a.filter (fun y => decide (κ y = κ x)) := List.mem_filter.2 ⟨hx, by simp⟩
    rw [← this] at h1; exact (List.mem_filter.1 h1).1
theorem filter_none {l : List Nat} {k : Int} (h : ∀ x ∈ l, κ x ≠ k) : l.filter (fun x => decide (κ x = k)) = [] :=
  List.filter_eq_nil_iff.2 fun x hx => by simpa using h x hx
/-- Two lists without common keys change places. -/
theorem Stab.swap {a b : List Nat} (h : ∀ x ∈ a, ∀ y ∈ b, κ x ≠ κ y) : Stab κ (a ++ b) (b ++ a) := fun k => by
  rw [List.filter_append, List.filter_append]
  by_cases ha : ∃ x ∈ a, κ x = k
  · obtain ⟨x, hx, e⟩ := ha
    rw [filter_none (l := b) fun y hy e2 => h x hx y hy (e.trans e2.symm)]; simp
  · rw [filter_none (l := a) fun x hx e => ha ⟨x, hx, e⟩]; simp

theorem Asc.nil : Asc κ [] := List.Pairwise.nil
theorem Asc.one (x : Nat) : Asc κ [x] := List.pairwise_singleton _ _
theorem Asc.app {a b : List Nat} (ha : Asc κ a) (hb : Asc κ b) (h : ∀ x ∈ a, ∀ y ∈ b, κ x ≤ κ y) : Asc κ (a ++ b) := List.pairwise_append.2 ⟨ha, hb, h⟩
theorem Asc.left {a b : List Nat} (h : Asc κ (a ++ b)) : Asc κ a := (List.pairwise_append.1 h).1
theorem Asc.right {a b : List Nat} (h : Asc κ (a ++ b)) : Asc κ b := (List.pairwise_append.1 h).2.1
theorem Asc.cross {a b : List Nat} (h : Asc κ (a ++ b)) : ∀ x ∈ a, ∀ y ∈ b, κ x ≤ κ y := (List.pairwise_append.1 h).2.2

/-- There is one sorted list. -/
theorem Asc.unique : ∀ {l m : List Nat}, Asc κ l → Asc κ m → Stab κ l m → l = m := by
  intro l
  induction l with
  | nil =>
    intro m _ _ hs
    cases m with
    | nil => rfl
    | cons y m => exact absurd ((hs.mem y).1 (by simp)) (by simp)
  | cons x l ih =>
    intro m hl hm hs
    cases m with
    | nil => exact absurd ((hs.mem x).2 (by simp)) (by simp)
    | cons y m =>
      have hxy : κ x = κ y := by
        have h1 : κ x ≤ κ y := by
          rcases List.mem_cons.1 ((hs.mem y).1 (by simp)) with e | e
          · rw [e]; exact Int.le_refl _
          · exact (List.pairwise_cons.1 hl).1 y e
        have h2 : κ y ≤ κ x := by
          rcases List.mem_cons.1 ((hs.mem x).2 (by simp)) with e | e
          · rw [e]; exact Int.le_refl _
          · exact (List.pairwise_cons.1 hm).1 x e
        omega
      have h3 := hs (κ x)
      rw [List.filter_cons_of_pos (by simp [hxy]), List.filter_cons_of_pos (by simp)] at h3
      have e : y = x := (List.cons.inj h3).1
      subst e
      congr 1
      refine ih (List.pairwise_cons.1 hl).2 (List.pairwise_cons.1 hm).2 fun k => ?_
      have h4 := hs k
      by_cases hk : κ y = k
      · rw [List.filter_cons_of_pos (by simp [hk]), List.filter_cons_of_pos (by simp [hk])] at h4
        exact (List.cons.inj h4).2
      · rw [List.filter_cons_of_neg (by simp [hk]), List.filter_cons_of_neg (by simp [hk])] at h4
        exact h4
theorem SS.unique {l m n : List Nat} (h : SS κ l m) (g : SS κ l n) : m = n := Asc.unique h.asc g.asc (h.stab.symm.trans g.stab)

/-- Two pieces, the first below the second. -/
theorem SS.halves {X1 X2 Y1 Y2 M1 M2 : List Nat} (h1 : SS κ (X1 ++ Y1) M1) (h2 : SS κ (X2 ++ Y2) M2)
    (a : ∀ x ∈ X1, ∀ y ∈ X2, κ x ≤ κ y) (b : ∀ x ∈ X1, ∀ y ∈ Y2, κ x ≤ κ y) (c : ∀ x ∈ Y1, ∀ y ∈ Y2, κ x ≤ κ y) (d : ∀ x ∈ Y1, ∀ y ∈ X2, κ x < κ y) :
    SS κ ((X1 ++ X2) ++ (Y1 ++ Y2)) (M1 ++ M2) := by
  refine ⟨h1.asc.app h2.asc fun x hx y hy => ?_, ?_⟩
  · rcases List.mem_append.1 ((h1.stab.mem x).1 hx) with hx | hx <;> rcases List.mem_append.1 ((h2.stab.mem y).1 hy) with hy | hy
    · exact a x hx y hy
    · exact b x hx y hy
    · have := d x hx y hy; omega
    · exact c x hx y hy
  · have e1 : (X1 ++ X2) ++ (Y1 ++ Y2) = X1 ++ ((X2 ++ Y1) ++ Y2) := by simp
    have e2 : (X1 ++ Y1) ++ (X2 ++ Y2) = X1 ++ ((Y1 ++ X2) ++ Y2) := by simp
    refine Stab.trans ?_ (h1.stab.app h2.stab)
    rw [e1, e2]
    exact (Stab.refl X1).app ((Stab.swap fun x hx y hy e => by have := d y hy x hx; omega).app (Stab.refl Y2))

/-- One element put in. -/
theorem SS.insert {A B : List Nat} {x : Nat} (h : Asc κ (A ++ B)) (ha : ∀ y ∈ A, κ y ≤ κ x) (hb : ∀ y ∈ B, κ x < κ y) : SS κ ((A ++ B) ++ [x]) (A ++ [x] ++ B) := by
  refine ⟨(h.left.app (Asc.one x) fun y hy z hz => ?_).app h.right fun y hy z hz => ?_, ?_⟩
  · rw [List.mem_singleton.1 hz]; exact ha y hy
  · rcases List.mem_append.1 hy with hy | hy
    · exact h.cross y hy z hz
    · rw [List.mem_singleton.1 hy]; exact Int.le_of_lt (hb z hz)
  · rw [List.append_assoc, List.append_assoc]
    exact (Stab.refl A).app (Stab.swap fun y hy z hz e => by rw [List.mem_singleton.1 hz] at e; have := hb y hy; omega)
/-- One element in front put in. -/
theorem SS.insertFront {A B : List Nat} {x : Nat} (h : Asc κ (A ++ B)) (ha : ∀ y ∈ A, κ y < κ x) (hb : ∀ y ∈ B, κ x ≤ κ y) : SS κ ([x] ++ (A ++ B)) (A ++ [x] ++ B) := by
  refine ⟨(h.left.app (Asc.one x) fun y hy z hz => ?_).app h.right fun y hy z hz => ?_, ?_⟩
  · rw [List.mem_singleton.1 hz]; exact Int.le_of_lt (ha y hy)
  · rcases List.mem_append.1 hy with hy | hy
    · exact h.cross y hy z hz
    · rw [List.mem_singleton.1 hy]; exact hb z hz
  · rw [← List.append_assoc]
    exact (Stab.swap fun y hy z hz e => by rw [List.mem_singleton.1 hy] at e; have := ha z hz; omega).app (Stab.refl B)
theorem SS.refl {l : List Nat} (h : Asc κ l) : SS κ l l := ⟨h, Stab.refl l⟩
theorem SS.behind {l m n : List Nat} (h : Stab κ l m) (g : SS κ m n) : SS κ l n := ⟨g.asc, h.trans g.stab⟩
theorem Stab.length {a b : List Nat} (h : Stab κ a b) : b.length = a.length := by
  induction hn : a.length using Nat.strongRecOn generalizing a b with
  | _ n ih =>
    cases a with
    | nil =>
      cases b with
      | nil => simpa using hn
      | cons y b => exact absurd ((h.mem y).1 (by simp)) (by simp)
    | cons x a =>
      let p := fun y => decide (κ y = κ x)
      have h1 := h (κ x)
      have key : ∀ l : List Nat, l.length = (l.filter p).length + (l.filter fun y => !p y).length := fun l => by
        induction l with
        | nil => rfl
        | cons z l ih => cases hp : p z <;> simp [hp, ih] <;> omega
      have h2 : Stab κ ((x :: a).filter fun y => !p y) (b.filter fun y => !p y) := fun k => by
        rw [List.filter_filter, List.filter_filter]
        by_cases hk : k = κ x
        · subst hk
          have e : ∀ l : List Nat, l.filter (fun y => decide (κ y = κ x) && !p y) = [] := fun l => List.filter_eq_nil_iff.2 fun y _ => by simp [p]
          rw [e, e]
        · have e : ∀ l : List Nat, l.filter (fun y => decide (κ y = k) && !p y) = l.filter fun y => decide (κ y = k) := fun l => by
            apply List.filter_congr
            intro y _
            by_cases hy : κ y = k
            · simp [p, hy, hk]
            · simp [hy]
          rw [e, e]; exact h k
      have h3 := key (x :: a)
      have hpos : 0 < ((x :: a).filter p).length := by rw [List.filter_cons_of_pos (by simp [p])]; simp
      have h4 := ih _ (by omega) h2 rfl
      have h5 := key b
      have h6 : (b.filter p).length = ((x :: a).filter p).length := by rw [show b.filter p = (x :: a).filter p from h1]
      omega
theorem SS.length {a b : List Nat} (h : SS κ a b) : b.length = a.length := h.stab.length
end

/-! The steps of the library's stable sort, on lists. -/
def at_ (l : List Nat) (i : Nat) : Nat := l.getD i 0
def sw (l : List Nat) (i j : Nat) : List Nat := (l.set i (at_ l j)).set j (at_ l i)

theorem at_mid {P R : List Nat} {x : Nat} : at_ (P ++ [x] ++ R) P.length = x := by simp [at_]
theorem at_app_left {P R : List Nat} {i : Nat} (h : i < P.length) : at_ (P ++ R) i = at_ P i := by simp [at_, List.getElem?_append_left h]
theorem at_app_right {P R : List Nat} {i : Nat} : at_ (P ++ R) (P.length + i) = at_ R i := by simp [at_, List.getElem?_append_right (Nat.le_add_right _ _)]
theorem at_app_right' {P R : List Nat} {n i : Nat} (h : n = P.length + i) : at_ (P ++ R) n = at_ R i := by subst h; exact at_app_right
theorem at_mem {l : List Nat} {i : Nat} (h : i < l.length) : at_ l i ∈ l := by simp [at_, h]
theorem set_mid {P R : List Nat} {x y n : Nat} (h : n = P.length) : (P ++ [x] ++ R).set n y = P ++ [y] ++ R := by subst h; simp

theorem sw_mid {P M R : List Nat} {x y i j : Nat} (hi : i = P.length) (hj : j = P.length + 1 + M.length) :
    sw (P ++ [x] ++ M ++ [y] ++ R) i j = P ++ [y] ++ M ++ [x] ++ R := by
  have e1 : at_ (P ++ [x] ++ M ++ [y] ++ R) j = y := by
    have : P ++ [x] ++ M ++ [y] ++ R = (P ++ [x] ++ M) ++ ([y] ++ R) := by simp
    rw [this, at_app_right' (i := 0) (by simp; omega)]; rfl
  have e2 : at_ (P ++ [x] ++ M ++ [y] ++ R) i = x := by
    have : P ++ [x] ++ M ++ [y] ++ R = P ++ ([x] ++ M ++ [y] ++ R) := by simp
    rw [this, at_app_right' (i := 0) (by omega)]; rfl
  unfold sw
  rw [e1, e2]
  have : P ++ [x] ++ M ++ [y] ++ R = P ++ [x] ++ (M ++ [y] ++ R) := by simp
  rw [this, set_mid hi]
  have : P ++ [y] ++ (M ++ [y] ++ R) = (P ++ [y] ++ M) ++ [y] ++ R := by simp
  rw [this, set_mid (by simp; omega)]
theorem sw_length (l : List Nat) (i j : Nat) : (sw l i j).length = l.length := by simp [sw]
/-- The greater index first. -/
theorem sw_comm {l : List Nat} {i j : Nat} (h : i ≠ j) : sw l i j = sw l j i := by
  unfold sw
  rw [List.set_comm _ _ h]

/-- Two stretches change places. -/
def swR : Nat → List Nat → Nat → Nat → List Nat
  | 0, l, _, _ => l
  | n + 1, l, a, b => swR n (sw l a b) (a + 1) (b + 1)
theorem swR_spec : ∀ (U V P M R : List Nat) (a b : Nat), U.length = V.length → a = P.length → b = P.length + U.length + M.length →
    swR U.length (P ++ U ++ M ++ V ++ R) a b = P ++ V ++ M ++ U ++ R := by
  intro U
  induction U with
  | nil =>
    intro V P M R a b h _ _
    rw [List.length_eq_zero_iff.1 h.symm]; rfl
  | cons u U ih =>
    intro V P M R a b h ha hb
    cases V with
    | nil => simp at h
    | cons v V =>
      have e1 : P ++ (u :: U) ++ M ++ (v :: V) ++ R = P ++ [u] ++ (U ++ M) ++ [v] ++ (V ++ R) := by simp
      have e2 : P ++ [v] ++ (U ++ M) ++ [u] ++ (V ++ R) = (P ++ [v]) ++ U ++ (M ++ [u]) ++ V ++ R := by simp
      simp only [List.length_cons, swR]
      rw [e1, sw_mid ha (by simp at hb ⊢; omega), e2, ih V (P ++ [v]) (M ++ [u]) R _ _ (by simpa using h) (by simp [ha]) (by simp [hb]; omega)]
      simp

/-- Turning a stretch. -/
def rot : Nat → List Nat → Nat → Nat → Nat → List Nat
  | 0, l, _, _, _ => l
  | f + 1, l, m, i, j =>
    if i = j then swR i l (m - i) m
    else if j < i then rot f (swR j l (m - i) m) m (i - j) j
    else rot f (swR i l (m - i) (m + j - i)) m i (j - i)
theorem rot_spec : ∀ (f : Nat) (X Y A B : List Nat) (m : Nat), X.length + Y.length ≤ f → 0 < X.length → 0 < Y.length → m = A.length + X.length →
    rot f (A ++ X ++ Y ++ B) m X.length Y.length = A ++ Y ++ X ++ B := by
  intro f
  induction f with
  | zero => intro X Y A B m h h1 h2; omega
  | succ f ih =>
    intro X Y A B m h h1 h2 hm
    unfold rot
    split
    · rename_i e
      have := swR_spec X Y A [] B (m - X.length) m e (by omega) (by simp; omega)
      simpa using this
    · split
      · rename_i hne hlt
        obtain ⟨X1, X2, rfl, hl⟩ : ∃ X1 X2, X = X1 ++ X2 ∧ X1.length = Y.length := ⟨X.take Y.length, X.drop Y.length, by simp, by simp; omega⟩
        have e1 : A ++ (X1 ++ X2) ++ Y ++ B = A ++ X1 ++ X2 ++ Y ++ B := by simp
        simp only [List.length_append] at *
        have := swR_spec X1 Y A X2 B (m - (X1.length + X2.length)) m hl (by omega) (by omega)
        rw [hl] at this
        rw [e1, hl, this]
        have e2 : A ++ Y ++ X2 ++ X1 ++ B = (A ++ Y) ++ X2 ++ X1 ++ B := by simp
        have := ih X2 X1 (A ++ Y) B m (by omega) (by omega) (by omega) (by simp; omega)
        rw [hl] at this
        rw [e2, show Y.length + X2.length - Y.length = X2.length by omega, this]
        simp
      · rename_i hne hlt
        obtain ⟨Y1, Y2, rfl, hl⟩ : ∃ Y1 Y2, Y = Y1 ++ Y2 ∧ Y2.length = X.length := ⟨Y.take (Y.length - X.length), Y.drop (Y.length - X.length), by simp, by simp; omega⟩
        simp only [List.length_append] at *
        have e1 : A ++ X ++ (Y1 ++ Y2) ++ B = A ++ X ++ Y1 ++ Y2 ++ B := by simp
        have := swR_spec X Y2 A Y1 B (m - X.length) (m + (Y1.length + Y2.length) - X.length) hl.symm (by omega) (by omega)
        rw [e1, this]
        have e2 : A ++ Y2 ++ Y1 ++ X ++ B = A ++ Y2 ++ Y1 ++ (X ++ B) := by simp
        have := ih Y2 Y1 A (X ++ B) m (by omega) (by omega) (by omega) (by omega)
        rw [hl] at this
        rw [e2, show Y1.length + Y2.length - X.length = Y1.length by omega, this]
        simp

/-- Halving. -/
def bs (p : Nat → Bool) : Nat → Nat → Nat → Nat
  | 0, s, _ => s
  | f + 1, s, r => if s < r then if p ((s + r) / 2) then bs p f ((s + r) / 2 + 1) r else bs p f s ((s + r) / 2) else s
theorem bs_spec (p : Nat → Bool) (s0 r0 : Nat) : ∀ (f s r : Nat), r - s ≤ f → s0 ≤ s → s ≤ r → r ≤ r0 → (s0 < s → p (s - 1) = true) → (r < r0 → p r = false) →
    s0 ≤ bs p f s r ∧ bs p f s r ≤ r0 ∧ (s0 < bs p f s r → p (bs p f s r - 1) = true) ∧ (bs p f s r < r0 → p (bs p f s r) = false) := by
  intro f
  induction f with
  | zero =>
    intro s r h h0 h1 h2 h3 h4
    have : s = r := by omega
    subst this
    exact ⟨h0, h2, h3, h4⟩
  | succ f ih =>
    intro s r h h0 h1 h2 h3 h4
    unfold bs
    split
    · rename_i hlt
      cases hp : p ((s + r) / 2) with
      | true =>
        simp only [if_pos]
        exact ih _ _ (by omega) (by omega) (by omega) h2 (fun _ => by simpa using hp) h4
      | false =>
        simp only [Bool.false_eq_true, if_false]
        exact ih _ _ (by omega) h0 (by omega) (by omega) h3 (fun _ => hp)
    · have : s = r := by omega
      subst this
      exact ⟨h0, h2, h3, h4⟩

/-- An element goes up. -/
def upTo : Nat → List Nat → Nat → List Nat
  | 0, l, _ => l
  | n + 1, l, k => upTo n (sw l k (k + 1)) (k + 1)
theorem upTo_spec : ∀ (A P R : List Nat) (x k : Nat), k = P.length → upTo A.length (P ++ [x] ++ A ++ R) k = P ++ A ++ [x] ++ R := by
  intro A
  induction A with
  | nil => intro P R x k _; simp [upTo]
  | cons y A ih =>
    intro P R x k hk
    have e1 : P ++ [x] ++ (y :: A) ++ R = P ++ [x] ++ [] ++ [y] ++ (A ++ R) := by simp
    have e2 : P ++ [y] ++ [] ++ [x] ++ (A ++ R) = (P ++ [y]) ++ [x] ++ A ++ R := by simp
    simp only [List.length_cons, upTo]
    rw [e1, sw_mid hk (by simp; omega), e2, ih (P ++ [y]) R x (k + 1) (by simp [hk])]
    simp
/-- An element goes down. -/
def downTo : Nat → List Nat → Nat → List Nat
  | 0, l, _ => l
  | n + 1, l, k => downTo n (sw l k (k - 1)) (k - 1)
theorem downTo_spec : ∀ (n : Nat) (A P R : List Nat) (x k : Nat), A.length = n → k = P.length + A.length → downTo n (P ++ A ++ [x] ++ R) k = P ++ [x] ++ A ++ R := by
  intro n
  induction n with
  | zero => intro A P R x k h _; rw [List.length_eq_zero_iff.1 h]; simp [downTo]
  | succ n ih =>
    intro A P R x k h hk
    obtain ⟨A', y, rfl⟩ : ∃ A' y, A = A' ++ [y] := ⟨A.dropLast, A.getLast (by intro e; subst e; simp at h), (List.dropLast_concat_getLast _).symm⟩
    have e1 : P ++ (A' ++ [y]) ++ [x] ++ R = (P ++ A') ++ [y] ++ [] ++ [x] ++ R := by simp
    simp only [List.length_append, List.length_singleton] at h hk
    simp only [downTo]
    rw [sw_comm (by omega), e1, sw_mid (by simp; omega) (by simp; omega)]
    have e2 : P ++ A' ++ [x] ++ [] ++ [y] ++ R = P ++ A' ++ [x] ++ ([y] ++ R) := by simp
    rw [e2, ih A' P ([y] ++ R) x (k - 1) (by omega) (by omega)]
    simp

section
variable (κ : Nat → Int)
def lt_ (x y : Nat) : Bool := decide (κ x < κ y)

def symM : Nat → List Nat → Nat → Nat → Nat → List Nat
  | 0, l, _, _, _ => l
  | f + 1, l, a, m, b =>
    if m - a = 1 then
      let i := bs (fun h => lt_ κ (at_ l h) (at_ l a)) (b - m) m b
      upTo (i - 1 - a) l a
    else if b - m = 1 then
      let i := bs (fun h => !(lt_ κ (at_ l m) (at_ l h))) (m - a) a m
      downTo (m - i) l m
    else
      let mid := (a + b) / 2
      let n := mid + m
      let s0 := if mid < m then n - b else a
      let r0 := if mid < m then mid else m
      let s := bs (fun c => !(lt_ κ (at_ l (n - 1 - c)) (at_ l c))) (r0 - s0) s0 r0
      let e := n - s
      let l1 := if s < m ∧ m < e then rot (e - s) l m (m - s) (e - m) else l
      let l2 := if a < s ∧ s < mid then symM f l1 a s mid else l1
      if mid < e ∧ e < b then symM f l2 mid e b else l2
end

theorem getLast_at {l : List Nat} {i : Nat} (h : i < l.length) : at_ l i = l[i] := by simp [at_, h]
/-- Below and above a place in a sorted list. -/
theorem asc_le {κ : Nat → Int} {l : List Nat} (h : Asc κ l) {i j : Nat} (hij : i ≤ j) (hj : j < l.length) : κ (at_ l i) ≤ κ (at_ l j) := by
  rw [getLast_at (by omega), getLast_at hj]
  rcases Nat.lt_or_eq_of_le hij with h1 | h1
  · exact List.pairwise_iff_getElem.1 h i j (by omega) hj h1
  · subst h1; exact Int.le_refl _
theorem mem_at {l : List Nat} {x : Nat} (h : x ∈ l) : ∃ i, i < l.length ∧ at_ l i = x := by
  obtain ⟨i, hi, rfl⟩ := List.mem_iff_getElem.1 h
  exact ⟨i, hi, getLast_at hi⟩
theorem at_take {l : List Nat} {n i : Nat} (h : i < n) : at_ (l.take n) i = at_ l i := by simp [at_, h]
theorem at_drop {l : List Nat} {n i : Nat} : at_ (l.drop n) i = at_ l (n + i) := by simp [at_]

theorem symM_spec (κ : Nat → Int) : ∀ (f : Nat) (X Y P R : List Nat) (a m b : Nat), a = P.length → m = a + X.length → b = m + Y.length → X.length + Y.length ≤ f → 0 < X.length → 0 < Y.length → Asc κ X → Asc κ Y →
    ∃ M, symM κ f (P ++ X ++ Y ++ R) a m b = P ++ M ++ R ∧ SS κ (X ++ Y) M := by
  intro f
  induction f with
  | zero => intro X Y P R a m b _ _ _ h h1 h2; omega
  | succ f ih =>
    intro X Y P R a m b ha hm hb hf hX hY aX aY
    generalize hl : P ++ X ++ Y ++ R = l
    have atX : ∀ i, i < X.length → at_ l (a + i) = at_ X i := fun i hi => by
      rw [← hl, show P ++ X ++ Y ++ R = P ++ (X ++ (Y ++ R)) by simp, at_app_right' (i := i) (by omega), at_app_left hi]
    have atY : ∀ i, i < Y.length → at_ l (m + i) = at_ Y i := fun i hi => by
      rw [← hl, show P ++ X ++ Y ++ R = (P ++ X) ++ (Y ++ R) by simp, at_app_right' (i := i) (by simp; omega), at_app_left hi]
    unfold symM
    split
    · -- one element in front
      rename_i h1
      obtain ⟨x, rfl⟩ : ∃ x, X = [x] := by
        match X, (show X.length = 1 by omega) with
        | [x], _ => exact ⟨x, rfl⟩
      simp only [List.length_singleton] at hm hf hX
      simp only []
      generalize hi : bs (fun h => lt_ κ (at_ l h) (at_ l a)) (b - m) m b = i
      have hs := bs_spec (fun h => lt_ κ (at_ l h) (at_ l a)) m b (b - m) m b (by omega) (by omega) (by omega) (by omega) (fun h => by omega) (fun h => by omega)
      rw [hi] at hs
      obtain ⟨q1, q2, q3, q4⟩ := hs
      have hx : at_ l a = x := atX 0 (by simp)
      rw [hx] at q3 q4
      have eY : Y.take (i - m) ++ Y.drop (i - m) = Y := List.take_append_drop _ _
      have hA : (Y.take (i - m)).length = i - m := by simp; omega
      have hlow : ∀ y ∈ Y.take (i - m), κ y < κ x := fun y hy => by
        obtain ⟨j, hj, rfl⟩ := mem_at hy
        rw [hA] at hj
        have h5 := q3 (by omega)
        simp only [lt_, decide_eq_true_eq] at h5
        have h6 : κ (at_ Y j) ≤ κ (at_ Y (i - m - 1)) := asc_le aY (by omega) (by omega)
        rw [← atY (i - m - 1) (by omega), show m + (i - m - 1) = i - 1 by omega] at h6
        rw [at_take hj]; omega
      have hhigh : ∀ y ∈ Y.drop (i - m), κ x ≤ κ y := fun y hy => by
        obtain ⟨j, hj, rfl⟩ := mem_at hy
        simp only [List.length_drop] at hj
        have h5 := q4 (by omega)
        simp only [lt_, decide_eq_false_iff_not] at h5
        have h6 : κ (at_ Y (i - m)) ≤ κ (at_ Y (i - m + j)) := asc_le aY (by omega) (by omega)
        rw [← atY (i - m) (by omega), show m + (i - m) = i by omega] at h6
        rw [at_drop]; omega
      refine ⟨Y.take (i - m) ++ [x] ++ Y.drop (i - m), ?_, ?_⟩
      · have e : l = P ++ [x] ++ Y.take (i - m) ++ (Y.drop (i - m) ++ R) := by
          rw [← hl, show P ++ [x] ++ Y.take (i - m) ++ (Y.drop (i - m) ++ R) = P ++ [x] ++ (Y.take (i - m) ++ Y.drop (i - m)) ++ R by simp only [List.append_assoc], eY]
        have := upTo_spec (Y.take (i - m)) P (Y.drop (i - m) ++ R) x a ha
        rw [hA] at this
        rw [e, show i - 1 - a = i - m by omega, this]; simp
      · have := SS.insertFront (κ := κ) (A := Y.take (i - m)) (B := Y.drop (i - m)) (x := x) (by rw [eY]; exact aY) hlow hhigh
        rw [eY] at this; exact this
    split
    · -- one element behind
      rename_i h1 h2
      obtain ⟨y, rfl⟩ : ∃ y, Y = [y] := by
        match Y, (show Y.length = 1 by omega) with
        | [y], _ => exact ⟨y, rfl⟩
      simp only [List.length_singleton] at hb hf hY
      simp only []
      generalize hi : bs (fun h => !(lt_ κ (at_ l m) (at_ l h))) (m - a) a m = i
      have hs := bs_spec (fun h => !(lt_ κ (at_ l m) (at_ l h))) a m (m - a) a m (by omega) (by omega) (by omega) (by omega) (fun h => by omega) (fun h => by omega)
      rw [hi] at hs
      obtain ⟨q1, q2, q3, q4⟩ := hs
      have hy : at_ l m = y := atY 0 (by simp)
      rw [hy] at q3 q4
      have eX : X.take (i - a) ++ X.drop (i - a) = X := List.take_append_drop _ _
      have hA : (X.drop (i - a)).length = m - i := by simp; omega
      have hlow : ∀ z ∈ X.take (i - a), κ z ≤ κ y := fun z hz => by
        obtain ⟨j, hj, rfl⟩ := mem_at hz
        simp only [List.length_take] at hj
        have h5 := q3 (by omega)
        simp only [lt_, Bool.not_eq_true', decide_eq_false_iff_not] at h5
        have h6 : κ (at_ X j) ≤ κ (at_ X (i - a - 1)) := asc_le aX (by omega) (by omega)
        rw [← atX (i - a - 1) (by omega), show a + (i - a - 1) = i - 1 by omega] at h6
        rw [at_take (by omega)]; omega
      have hhigh : ∀ z ∈ X.drop (i - a), κ y < κ z := fun z hz => by
        obtain ⟨j, hj, rfl⟩ := mem_at hz
        simp only [List.length_drop] at hj
        have h5 := q4 (by omega)
        simp only [lt_, Bool.not_eq_false', decide_eq_true_eq] at h5
        have h6 : κ (at_ X (i - a)) ≤ κ (at_ X (i - a + j)) := asc_le aX (by omega) (by omega)
        rw [← atX (i - a) (by omega), show a + (i - a) = i by omega] at h6
        rw [at_drop]; omega
      refine ⟨X.take (i - a) ++ [y] ++ X.drop (i - a), ?_, ?_⟩
      · have e : l = (P ++ X.take (i - a)) ++ X.drop (i - a) ++ [y] ++ R := by
          rw [← hl, show (P ++ X.take (i - a)) ++ X.drop (i - a) ++ [y] ++ R = P ++ (X.take (i - a) ++ X.drop (i - a)) ++ [y] ++ R by simp only [List.append_assoc], eX]
        have := downTo_spec (m - i) (X.drop (i - a)) (P ++ X.take (i - a)) R y m hA (by simp; omega)
        rw [e, this]; simp
      · have := SS.insert (κ := κ) (A := X.take (i - a)) (B := X.drop (i - a)) (x := y) (by rw [eX]; exact aX) hlow hhigh
        rw [eX] at this; exact this
    · rename_i h1 h2
      simp only []
      generalize hmid : (a + b) / 2 = mid
      generalize hs0 : (if mid < m then mid + m - b else a) = s0
      generalize hr0 : (if mid < m then mid else m) = r0
      generalize hs : bs (fun c => !(lt_ κ (at_ l (mid + m - 1 - c)) (at_ l c))) (r0 - s0) s0 r0 = s
      have hsr : s0 ≤ r0 := by subst hs0; subst hr0; split <;> omega
      have hq := bs_spec (fun c => !(lt_ κ (at_ l (mid + m - 1 - c)) (at_ l c))) s0 r0 (r0 - s0) s0 r0 (by omega) (by omega) hsr (by omega) (fun h => by omega) (fun h => by omega)
      rw [hs] at hq
      obtain ⟨q1, q2, q3, q4⟩ := hq
      have hb0 : a ≤ s0 ∧ r0 ≤ m ∧ r0 ≤ mid := by subst hs0; subst hr0; split <;> omega
      have hb1 : mid + m - s0 ≤ b ∧ m ≤ mid + m - r0 := by subst hs0; subst hr0; split <;> omega
      generalize he : mid + m - s = e
      have hse : m ≤ e ∧ e ≤ b ∧ a ≤ s ∧ s ≤ m ∧ s ≤ mid := by omega
      obtain ⟨p1, p2, p3, p4, p5⟩ := hse
      have eX : X.take (s - a) ++ X.drop (s - a) = X := List.take_append_drop _ _
      have eY : Y.take (e - m) ++ Y.drop (e - m) = Y := List.take_append_drop _ _
      generalize hX1 : X.take (s - a) = X1 at eX
      generalize hX2 : X.drop (s - a) = X2 at eX
      generalize hY1 : Y.take (e - m) = Y1 at eY
      generalize hY2 : Y.drop (e - m) = Y2 at eY
      have lX1 : X1.length = s - a := by rw [← hX1]; simp; omega
      have lX2 : X2.length = m - s := by rw [← hX2]; simp; omega
      have lY1 : Y1.length = e - m := by rw [← hY1]; simp; omega
      have lY2 : Y2.length = b - e := by rw [← hY2]; simp; omega
      have aX' := aX; rw [← eX] at aX'
      have aY' := aY; rw [← eY] at aY'
      -- the first half of X is below the second of Y
      have c1 : ∀ x ∈ X1, ∀ y ∈ Y2, κ x ≤ κ y := by
        intro x hx y hy
        have h0 : s0 < s := by
          rcases Nat.lt_or_eq_of_le q1 with h | h
          · exact h
          · exfalso
            have n1 : 0 < X1.length := List.length_pos_of_mem hx
            have n2 : 0 < Y2.length := List.length_pos_of_mem hy
            subst hs0
            split at h <;> omega
        have h5 := q3 h0
        simp only [lt_, Bool.not_eq_true', decide_eq_false_iff_not] at h5
        obtain ⟨i, hi, rfl⟩ := mem_at hx
        obtain ⟨j, hj, rfl⟩ := mem_at hy
        have n2 : 0 < Y2.length := by omega
        have n1 : 0 < X1.length := by omega
        have h6 : κ (at_ X1 i) ≤ κ (at_ X1 (s - a - 1)) := asc_le aX'.left (by omega) (by omega)
        have h7 : κ (at_ Y2 0) ≤ κ (at_ Y2 j) := asc_le aY'.right (by omega) (by omega)
        have h8 : at_ X1 (s - a - 1) = at_ l (s - 1) := by
          rw [← hX1, at_take (by omega), ← atX _ (by omega)]; congr 1; omega
        have h9 : at_ Y2 0 = at_ l e := by
          rw [← hY2, at_drop, ← atY _ (by omega)]; congr 1; omega
        rw [show mid + m - 1 - (s - 1) = e by omega] at h5
        rw [h8] at h6; rw [h9] at h7
        omega
      have c2 : ∀ x ∈ Y1, ∀ y ∈ X2, κ x < κ y := by
        intro x hx y hy
        have n1 : 0 < Y1.length := List.length_pos_of_mem hx
        have n2 : 0 < X2.length := List.length_pos_of_mem hy
        have h0 : s < r0 := by
          rcases Nat.lt_or_eq_of_le q2 with h | h
          · exact h
          · exfalso
            subst hr0
            split at h <;> omega
        have h5 := q4 h0
        simp only [lt_, Bool.not_eq_false', decide_eq_true_eq] at h5
        obtain ⟨i, hi, rfl⟩ := mem_at hx
        obtain ⟨j, hj, rfl⟩ := mem_at hy
        have h6 : κ (at_ Y1 i) ≤ κ (at_ Y1 (e - m - 1)) := asc_le aY'.left (by omega) (by omega)
        have h7 : κ (at_ X2 0) ≤ κ (at_ X2 j) := asc_le aX'.right (by omega) (by omega)
        have h8 : at_ Y1 (e - m - 1) = at_ l (e - 1) := by
          rw [← hY1, at_take (by omega), ← atY _ (by omega)]; congr 1; omega
        have h9 : at_ X2 0 = at_ l s := by
          rw [← hX2, at_drop, ← atX _ (by omega)]; congr 1; omega
        rw [show mid + m - 1 - s = e - 1 by omega] at h5
        rw [h8] at h6; rw [h9] at h7
        omega
      have cX := aX'.cross
      have cY := aY'.cross
      -- turned
      have hl1 : (if s < m ∧ m < e then rot (e - s) l m (m - s) (e - m) else l) = P ++ X1 ++ Y1 ++ X2 ++ Y2 ++ R := by
        have el : l = (P ++ X1) ++ X2 ++ Y1 ++ (Y2 ++ R) := by rw [← hl, ← eX, ← eY]; simp
        split
        · rename_i h5
          have := rot_spec (e - s) X2 Y1 (P ++ X1) (Y2 ++ R) m (by omega) (by omega) (by omega) (by simp; omega)
          rw [lX2, lY1] at this
          rw [el, this]; simp
        · rename_i h5
          rw [el]
          rcases (show s = m ∨ m = e by omega) with h6 | h6
          · have : X2 = [] := List.length_eq_zero_iff.1 (by omega)
            subst this; simp
          · have : Y1 = [] := List.length_eq_zero_iff.1 (by omega)
            subst this; simp
      rw [hl1]
      -- the first half
      obtain ⟨M1, hM1, sM1⟩ : ∃ M1, (if a < s ∧ s < mid then symM κ f (P ++ X1 ++ Y1 ++ X2 ++ Y2 ++ R) a s mid else P ++ X1 ++ Y1 ++ X2 ++ Y2 ++ R) = P ++ M1 ++ X2 ++ Y2 ++ R ∧ SS κ (X1 ++ Y1) M1 := by
        split
        · rename_i h5
          obtain ⟨M, e1, e2⟩ := ih X1 Y1 P (X2 ++ Y2 ++ R) a s mid ha (by omega) (by omega) (by omega) (by omega) (by omega) aX'.left aY'.left
          refine ⟨M, ?_, e2⟩
          have : P ++ X1 ++ Y1 ++ X2 ++ Y2 ++ R = P ++ X1 ++ Y1 ++ (X2 ++ Y2 ++ R) := by simp
          rw [this, e1]; simp
        · rename_i h5
          refine ⟨X1 ++ Y1, by simp, ?_⟩
          rcases (show s = a ∨ s = mid by omega) with h6 | h6
          · have : X1 = [] := List.length_eq_zero_iff.1 (by omega)
            subst this; simpa using SS.refl aY'.left
          · have : Y1 = [] := List.length_eq_zero_iff.1 (by omega)
            subst this; simpa using SS.refl aX'.left
      rw [hM1]
      have lM1 : M1.length = mid - a := by rw [sM1.length]; simp; omega
      obtain ⟨M2, hM2, sM2⟩ : ∃ M2, (if mid < e ∧ e < b then symM κ f (P ++ M1 ++ X2 ++ Y2 ++ R) mid e b else P ++ M1 ++ X2 ++ Y2 ++ R) = P ++ M1 ++ M2 ++ R ∧ SS κ (X2 ++ Y2) M2 := by
        split
        · rename_i h5
          obtain ⟨M, e1, e2⟩ := ih X2 Y2 (P ++ M1) R mid e b (by simp; omega) (by omega) (by omega) (by omega) (by omega) (by omega) aX'.right aY'.right
          exact ⟨M, by rw [e1], e2⟩
        · rename_i h5
          refine ⟨X2 ++ Y2, by simp, ?_⟩
          rcases (show e = mid ∨ e = b by omega) with h6 | h6
          · have : X2 = [] := List.length_eq_zero_iff.1 (by omega)
            subst this; simpa using SS.refl aY'.right
          · have : Y2 = [] := List.length_eq_zero_iff.1 (by omega)
            subst this; simpa using SS.refl aX'.right
      rw [hM2]
      refine ⟨M1 ++ M2, by simp, ?_⟩
      have := SS.halves sM1 sM2 cX c1 cY c2
      rw [eX, eY] at this
      exact this

/-! The library's stable sort, on lists. -/
section
variable (κ : Nat → Int)
def insD : Nat → List Nat → Nat → Nat → List Nat
  | 0, l, _, _ => l
  | f + 1, l, a, j => if a < j ∧ lt_ κ (at_ l j) (at_ l (j - 1)) = true then insD f (sw l j (j - 1)) a (j - 1) else l
def insS : Nat → List Nat → Nat → Nat → List Nat
  | 0, l, _, _ => l
  | n + 1, l, a, i => insS n (insD κ (i - a) l a i) a (i + 1)
def blks (s : Nat) : Nat → List Nat → Nat → List Nat
  | 0, l, _ => l
  | f + 1, l, a => if a + s ≤ l.length then blks s f (insS κ (s - 1) l a (a + 1)) (a + s) else insS κ (l.length - a - 1) l a (a + 1)
def mrgs (s : Nat) : Nat → List Nat → Nat → List Nat
  | 0, l, _ => l
  | f + 1, l, a => if a + 2 * s ≤ l.length then mrgs s f (symM κ (2 * s) l a (a + s) (a + 2 * s)) (a + 2 * s) else if a + s < l.length then symM κ (l.length - a) l a (a + s) l.length else l
def stb : Nat → List Nat → Nat → List Nat
  | 0, l, _ => l
  | f + 1, l, s => if s < l.length then stb f (mrgs κ s (l.length + 1) l 0) (2 * s) else l
end

section
variable {κ : Nat → Int}
theorem insD_spec : ∀ (n : Nat) (S P R : List Nat) (x a j : Nat), S.length = n → a = P.length → j = a + S.length → Asc κ S → ∃ M, insD κ n (P ++ S ++ [x] ++ R) a j = P ++ M ++ R ∧ SS κ (S ++ [x]) M := by
  intro n
  induction n with
  | zero =>
    intro S P R x a j h ha hj hS
    have := List.length_eq_zero_iff.1 h
    subst this
    exact ⟨[x], by simp [insD], SS.refl (Asc.one x)⟩
  | succ n ih =>
    intro S P R x a j h ha hj hS
    obtain ⟨S', y, rfl⟩ : ∃ A' y, S = A' ++ [y] := ⟨S.dropLast, S.getLast (by intro e; subst e; simp at h), (List.dropLast_concat_getLast _).symm⟩
    simp only [List.length_append, List.length_singleton] at h hj
    have e1 : P ++ (S' ++ [y]) ++ [x] ++ R = (P ++ S') ++ [y] ++ [] ++ [x] ++ R := by simp
    have hx : at_ (P ++ (S' ++ [y]) ++ [x] ++ R) j = x := by
      rw [show P ++ (S' ++ [y]) ++ [x] ++ R = (P ++ S' ++ [y]) ++ ([x] ++ R) by simp, at_app_right' (i := 0) (by simp; omega)]; rfl
    have hy : at_ (P ++ (S' ++ [y]) ++ [x] ++ R) (j - 1) = y := by
      rw [show P ++ (S' ++ [y]) ++ [x] ++ R = (P ++ S') ++ ([y] ++ [x] ++ R) by simp, at_app_right' (i := 0) (by simp; omega)]; rfl
    unfold insD
    rw [hx, hy]
    split
    · rename_i hlt
      have hxy : κ x < κ y := by simpa [lt_] using hlt.2
      rw [sw_comm (by omega), e1, sw_mid (by simp; omega) (by simp; omega)]
      obtain ⟨M, e2, hM⟩ := ih S' P ([y] ++ R) x a (j - 1) (by omega) ha (by omega) hS.left
      refine ⟨M ++ [y], ?_, ?_, ?_⟩
      · rw [show P ++ S' ++ [x] ++ [] ++ [y] ++ R = P ++ S' ++ [x] ++ ([y] ++ R) by simp, e2]; simp
      · refine hM.asc.app (Asc.one y) fun z hz w hw => ?_
        rw [List.mem_singleton.1 hw]
        rcases List.mem_append.1 ((hM.stab.mem z).1 hz) with hz | hz
        · exact hS.cross z hz y (by simp)
        · rw [List.mem_singleton.1 hz]; omega
      · have : (S' ++ [y]) ++ [x] = S' ++ ([y] ++ [x]) := by simp
        rw [this]
        refine Stab.trans ((Stab.refl S').app (Stab.swap (a := [y]) (b := [x]) fun z hz w hw e => ?_)) ?_
        · rw [List.mem_singleton.1 hz, List.mem_singleton.1 hw] at e; omega
        · rw [← List.append_assoc]; exact hM.stab.app (Stab.refl [y])
    · rename_i hlt
      have hxy : κ y ≤ κ x := by
        simp only [lt_, decide_eq_true_eq, not_and] at hlt
        have := hlt (by omega); omega
      refine ⟨S' ++ [y] ++ [x], by simp, SS.refl (hS.app (Asc.one x) fun z hz w hw => ?_)⟩
      rw [List.mem_singleton.1 hw]
      rcases List.mem_append.1 hz with hz | hz
      · have := hS.cross z hz y (by simp); omega
      · rw [List.mem_singleton.1 hz]; exact hxy

theorem insS_spec : ∀ (T S P R : List Nat) (a i : Nat), a = P.length → i = a + S.length → Asc κ S → ∃ M, insS κ T.length (P ++ S ++ T ++ R) a i = P ++ M ++ R ∧ SS κ (S ++ T) M := by
  intro T
  induction T with
  | nil => intro S P R a i ha hi hS; exact ⟨S, by simp [insS], by simpa using SS.refl hS⟩
  | cons x T ih =>
    intro S P R a i ha hi hS
    simp only [List.length_cons, insS]
    obtain ⟨M, e, hM⟩ := insD_spec (κ := κ) (i - a) S P (T ++ R) x a i (by omega) ha hi hS
    rw [show P ++ S ++ (x :: T) ++ R = P ++ S ++ [x] ++ (T ++ R) by simp, e, show P ++ M ++ (T ++ R) = P ++ M ++ T ++ R by simp]
    obtain ⟨N, e2, hN⟩ := ih M P R a (i + 1) ha (by rw [hM.length]; simp; omega) hM.asc
    refine ⟨N, e2, SS.behind ?_ hN⟩
    rw [show S ++ x :: T = (S ++ [x]) ++ T by simp]
    exact hM.stab.app (Stab.refl T)
/-- A stretch is sorted. -/
theorem insS_all (T P R : List Nat) (a : Nat) (ha : a = P.length) : ∃ M, insS κ (T.length - 1) (P ++ T ++ R) a (a + 1) = P ++ M ++ R ∧ SS κ T M := by
  cases T with
  | nil => exact ⟨[], by simp [insS], SS.refl .nil⟩
  | cons x T =>
    obtain ⟨M, e, hM⟩ := insS_spec (κ := κ) T [x] P R a (a + 1) ha (by simp) (.one x)
    exact ⟨M, by simpa using e, by simpa using hM⟩

/-- Sorted stretches of a length, and a shorter one. -/
def Ch (κ : Nat → Int) (s : Nat) (l : List Nat) : Prop := ∃ (L : List (List Nat)) (T : List Nat), l = L.flatten ++ T ∧ (∀ x ∈ L, x.length = s ∧ Asc κ x) ∧ T.length < s ∧ Asc κ T

theorem blks_spec (s : Nat) (hs : 0 < s) : ∀ (f : Nat) (T : List Nat) (L : List (List Nat)) (a : Nat), T.length < f → a = L.flatten.length → (∀ x ∈ L, x.length = s ∧ Asc κ x) →
    Ch κ s (blks κ s f (L.flatten ++ T) a) ∧ Stab κ (L.flatten ++ T) (blks κ s f (L.flatten ++ T) a) := by
  intro f
  induction f with
  | zero => intro T L a h; omega
  | succ f ih =>
    intro T L a hf ha hL
    unfold blks
    split
    · rename_i h
      have hT : s ≤ T.length := by simp at h ha; omega
      obtain ⟨X, Y, rfl, hX⟩ : ∃ X Y, T = X ++ Y ∧ X.length = s := ⟨T.take s, T.drop s, by simp, by simp; omega⟩
      obtain ⟨M, e, hM⟩ := insS_all (κ := κ) X L.flatten Y a ha
      rw [hX] at e
      rw [show L.flatten ++ (X ++ Y) = L.flatten ++ X ++ Y by simp, e]
      have hlM : M.length = s := by rw [hM.length, hX]
      have e2 : L.flatten ++ M ++ Y = (L ++ [M]).flatten ++ Y := by simp
      have := ih Y (L ++ [M]) (a + s) (by simp at hf; omega) (by simp at ha ⊢; omega) (fun x hx => by
        rcases List.mem_append.1 hx with hx | hx
        · exact hL x hx
        · rw [List.mem_singleton.1 hx]; exact ⟨hlM, hM.asc⟩)
      rw [← e2] at this
      exact ⟨this.1, Stab.trans (((Stab.refl _).app hM.stab).app (Stab.refl Y)) this.2⟩
    · rename_i h
      obtain ⟨M, e, hM⟩ := insS_all (κ := κ) T L.flatten [] a ha
      have hl : (L.flatten ++ T).length - a - 1 = T.length - 1 := by simp at ha ⊢; omega
      rw [hl]
      have e3 : L.flatten ++ T ++ [] = L.flatten ++ T := by simp
      rw [e3] at e
      rw [e, List.append_nil]
      refine ⟨⟨L, M, rfl, hL, ?_, hM.asc⟩, (Stab.refl _).app hM.stab⟩
      rw [hM.length]; simp at h ha; omega

theorem mrgs_spec (s : Nat) (hs : 0 < s) : ∀ (f : Nat) (L2 L : List (List Nat)) (T : List Nat) (a : Nat), L.length < f → a = L2.flatten.length → (∀ x ∈ L2, x.length = 2 * s ∧ Asc κ x) → (∀ x ∈ L, x.length = s ∧ Asc κ x) → T.length < s → Asc κ T →
    Ch κ (2 * s) (mrgs κ s f (L2.flatten ++ L.flatten ++ T) a) ∧ Stab κ (L2.flatten ++ L.flatten ++ T) (mrgs κ s f (L2.flatten ++ L.flatten ++ T) a) := by
  intro f
  induction f with
  | zero => intro L2 L T a h; omega
  | succ f ih =>
    intro L2 L T a hf ha hL2 hL hT aT
    unfold mrgs
    match L, hf, hL with
    | [], hf, hL =>
      rw [if_neg (by simp at ha ⊢; omega), if_neg (by simp at ha ⊢; omega)]
      exact ⟨⟨L2, T, by simp, hL2, by omega, aT⟩, Stab.refl _⟩
    | [x], hf, hL =>
      have hx := hL x (by simp)
      rw [if_neg (by simp at ha ⊢; omega)]
      split
      · rename_i h
        have hT0 : 0 < T.length := by simp at h ha; omega
        obtain ⟨M, e, hM⟩ := symM_spec κ ((L2.flatten ++ [x].flatten ++ T).length - a) x T L2.flatten [] a (a + s) (L2.flatten ++ [x].flatten ++ T).length ha (by omega) (by simp at ha ⊢; omega) (by simp at ha ⊢; omega) (by omega) hT0 hx.2 aT
        rw [show L2.flatten ++ [x].flatten ++ T = L2.flatten ++ x ++ T ++ [] by simp] at *
        rw [e, List.append_nil]
        refine ⟨⟨L2, M, rfl, hL2, ?_, hM.asc⟩, ?_⟩
        · rw [hM.length]; simp; omega
        · rw [show L2.flatten ++ x ++ T ++ [] = L2.flatten ++ (x ++ T) by simp]; exact (Stab.refl _).app hM.stab
      · rename_i h
        have hT0 : T = [] := List.length_eq_zero_iff.1 (by simp at h ha; omega)
        subst hT0
        exact ⟨⟨L2, x, by simp, hL2, by omega, hx.2⟩, Stab.refl _⟩
    | x :: y :: L, hf, hL =>
      have hx := hL x (by simp)
      have hy := hL y (by simp)
      rw [if_pos (by simp at ha ⊢; omega)]
      obtain ⟨M, e, hM⟩ := symM_spec κ (2 * s) x y L2.flatten (L.flatten ++ T) a (a + s) (a + 2 * s) ha (by omega) (by omega) (by omega) (by omega) (by omega) hx.2 hy.2
      have hlM : M.length = 2 * s := by rw [hM.length]; simp; omega
      rw [show L2.flatten ++ (x :: y :: L).flatten ++ T = L2.flatten ++ x ++ y ++ (L.flatten ++ T) by simp, e,
        show L2.flatten ++ M ++ (L.flatten ++ T) = (L2 ++ [M]).flatten ++ L.flatten ++ T by simp]
      have := ih (L2 ++ [M]) L T (a + 2 * s) (by simp at hf; omega) (by simp at ha ⊢; omega) (fun z hz => by
        rcases List.mem_append.1 hz with hz | hz
        · exact hL2 z hz
        · rw [List.mem_singleton.1 hz]; exact ⟨hlM, hM.asc⟩) (fun z hz => hL z (by simp [hz])) hT aT
      refine ⟨this.1, Stab.trans ?_ this.2⟩
      rw [show L2.flatten ++ x ++ y ++ (L.flatten ++ T) = L2.flatten ++ (x ++ y) ++ (L.flatten ++ T) by simp,
        show (L2 ++ [M]).flatten ++ L.flatten ++ T = L2.flatten ++ M ++ (L.flatten ++ T) by simp]
      exact ((Stab.refl _).app hM.stab).app (Stab.refl _)

theorem flatten_len {s : Nat} {L : List (List Nat)} (h : ∀ x ∈ L, x.length = s ∧ Asc κ x) : L.flatten.length = L.length * s := by
  induction L with
  | nil => simp
  | cons x L ih =>
    rw [List.flatten_cons, List.length_append, ih fun y hy => h y (by simp [hy]), (h x (by simp)).1, List.length_cons, Nat.succ_mul]; omega
theorem Ch.asc {s : Nat} {l : List Nat} (h : Ch κ s l) (hl : l.length ≤ s) : Asc κ l := by
  obtain ⟨L, T, rfl, hL, hT, aT⟩ := h
  match L, hL with
  | [], _ => simpa using aT
  | [x], hL =>
    have hx := hL x (by simp)
    have : T = [] := List.length_eq_zero_iff.1 (by simp at hl; omega)
    subst this
    simpa using hx.2
  | x :: y :: L, hL =>
    have hx := hL x (by simp)
    have hy := hL y (by simp)
    have : 2 * s ≤ s := by simp at hl; omega
    have : T.length < 0 := by omega
    omega

theorem stb_spec : ∀ (f : Nat) (l : List Nat) (s : Nat), 0 < s → l.length < s + f → Ch κ s l → SS κ l (stb κ f l s) := by
  intro f
  induction f with
  | zero => intro l s hs hl h; exact SS.refl (h.asc (by omega))
  | succ f ih =>
    intro l s hs hl h
    unfold stb
    split
    · obtain ⟨L, T, rfl, hL, hT, aT⟩ := h
      have hlen := flatten_len hL
      have hle : L.length ≤ L.length * s := by
        have := Nat.mul_le_mul_left L.length (show 1 ≤ s from hs); omega
      have := mrgs_spec (κ := κ) s hs ((L.flatten ++ T).length + 1) [] L T 0 (by simp [hlen]; omega) (by simp) (by simp) hL hT aT
      simp only [List.flatten_nil, List.nil_append] at this
      refine SS.behind this.2 (ih _ (2 * s) (by omega) ?_ this.1)
      rw [this.2.length]; omega
    · exact SS.refl (h.asc (by omega))
/-- The whole. -/
def stable (κ : Nat → Int) (l : List Nat) : List Nat := stb κ (l.length + 1) (blks κ 20 (l.length + 1) l 0) 20
theorem stable_spec (l : List Nat) : SS κ l (stable κ l) := by
  have := blks_spec (κ := κ) 20 (by decide) (l.length + 1) l [] 0 (by omega) rfl (by simp)
  simp only [List.flatten_nil, List.nil_append] at this
  refine SS.behind this.2 (stb_spec _ _ _ (by decide) ?_ this.1)
  rw [this.2.length]; omega
end
/-! lengths -/
theorem swR_length : ∀ (n : Nat) (l : List Nat) (a b : Nat), (swR n l a b).length = l.length
  | 0, _, _, _ => rfl
  | n + 1, l, a, b => by unfold swR; rw [swR_length n, sw_length]
theorem rot_length : ∀ (f : Nat) (l : List Nat) (m i j : Nat), (rot f l m i j).length = l.length
  | 0, _, _, _, _ => rfl
  | f + 1, l, m, i, j => by
    unfold rot
    split
    · exact swR_length _ _ _ _
    · split <;> rw [rot_length f, swR_length]
theorem upTo_length : ∀ (n : Nat) (l : List Nat) (k : Nat), (upTo n l k).length = l.length
  | 0, _, _ => rfl
  | n + 1, l, k => by unfold upTo; rw [upTo_length n, sw_length]
theorem downTo_length : ∀ (n : Nat) (l : List Nat) (k : Nat), (downTo n l k).length = l.length
  | 0, _, _ => rfl
  | n + 1, l, k => by unfold downTo; rw [downTo_length n, sw_length]
theorem symM_length (κ : Nat → Int) : ∀ (f : Nat) (l : List Nat) (a m b : Nat), (symM κ f l a m b).length = l.length
  | 0, _, _, _, _ => rfl
  | f + 1, l, a, m, b => by
    unfold symM
    split
    · exact upTo_length _ _ _
    · split
      · exact downTo_length _ _ _
      · simp only []
        have h1 : ∀ (c : Prop) [Decidable c] (x y : List Nat), x.length = l.length → y.length = l.length → (if c then x else y).length = l.length := fun c _ x y hx hy => by split <;> assumption
        refine h1 _ _ _ ?_ ?_
        · rw [symM_length κ f]
          refine h1 _ _ _ ?_ ?_
          · rw [symM_length κ f]; exact h1 _ _ _ (rot_length _ _ _ _ _) rfl
          · exact h1 _ _ _ (rot_length _ _ _ _ _) rfl
        · refine h1 _ _ _ ?_ ?_
          · rw [symM_length κ f]; exact h1 _ _ _ (rot_length _ _ _ _ _) rfl
          · exact h1 _ _ _ (rot_length _ _ _ _ _) rfl
theorem insD_length (κ : Nat → Int) : ∀ (f : Nat) (l : List Nat) (a j : Nat), (insD κ f l a j).length = l.length
  | 0, _, _, _ => rfl
  | f + 1, l, a, j => by
    unfold insD
    split
    · rw [insD_length κ f, sw_length]
    · rfl
theorem insS_length (κ : Nat → Int) : ∀ (n : Nat) (l : List Nat) (a i : Nat), (insS κ n l a i).length = l.length
  | 0, _, _, _ => rfl
  | n + 1, l, a, i => by unfold insS; rw [insS_length κ n, insD_length]
end Go.Proofs.Ytbnplefohfamnaa.Ai.So
