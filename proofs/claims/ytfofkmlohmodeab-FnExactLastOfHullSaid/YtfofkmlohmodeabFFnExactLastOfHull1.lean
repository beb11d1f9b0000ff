/- What functions of the program come to on the abstract machine, and that they do so; printed by a program of mine around proofs of mine. -/
import Derived.Test.YtfofkmlohmodeabFFnExactLastOfHull0
set_option linter.unusedVariables false
set_option linter.unusedSimpArgs false
set_option maxRecDepth 100000
namespace Go.Proofs.Ytfofkmlohmodeab.Ai
open Go
attribute [local irreducible] bodyK
def p_impl_HullOf_l3 (l_list : List Int) (l_misses : List Nat) (t5 : Bool) (t27 : Int) (t5_5 : Bool) (l_vout : List Int) (i : Int) (k3_4 : Int → Nat → Int → (List Int) → ((List Int) × Bool)) : Nat → Int → Nat → Int → (List Int) → (List Int) × Bool
  | 0, _, _, _, _ => ([], false)
  | μ3 + 1, next, best, k, y3_1 => (bif decide ((k : Int) < (l_list.length : Int)) then (bif flt .f32 0 (fdiv .f32 (fsub .f32 (((l_misses).getD (i : Int).toNat 0)) (((l_misses).getD (k : Int).toNat 0))) (FloatKind.nearest .f32 (IntKind.wrap .i64 ((((l_list).getD (k : Int).toNat 0)) - (((l_list).getD (i : Int).toNat 0)))))) then (bif fle .f32 best (fdiv .f32 (fsub .f32 (((l_misses).getD (i : Int).toNat 0)) (((l_misses).getD (k : Int).toNat 0))) (FloatKind.nearest .f32 (IntKind.wrap .i64 ((((l_list).getD (k : Int).toNat 0)) - (((l_list).getD (i : Int).toNat 0)))))) then (p_impl_HullOf_l3 l_list l_misses t5 t27 t5_5 l_vout i k3_4 μ3 k (fdiv .f32 (fsub .f32 (((l_misses).getD (i : Int).toNat 0)) (((l_misses).getD (k : Int).toNat 0))) (FloatKind.nearest .f32 (IntKind.wrap .i64 ((((l_list).getD (k : Int).toNat 0)) - (((l_list).getD (i : Int).toNat 0)))))) (k + 1) y3_1) else (p_impl_HullOf_l3 l_list l_misses t5 t27 t5_5 l_vout i k3_4 μ3 next best (k + 1) y3_1)) else (p_impl_HullOf_l3 l_list l_misses t5 t27 t5_5 l_vout i k3_4 μ3 next best (k + 1) y3_1)) else (k3_4 next best k y3_1))
theorem p_impl_HullOf_l3_s (l_list : List Int) (l_misses : List Nat) (t5 : Bool) (t27 : Int) (t5_5 : Bool) (l_vout : List Int) (i : Int) (k3_4 : Int → Nat → Int → (List Int) → ((List Int) × Bool)) (μ3 : Nat) (next : Int) (best : Nat) (k : Int) (y3_1 : List Int) : p_impl_HullOf_l3 l_list l_misses t5 t27 t5_5 l_vout i k3_4 (μ3 + 1) next best k y3_1 = (bif decide ((k : Int) < (l_list.length : Int)) then (bif flt .f32 0 (fdiv .f32 (fsub .f32 (((l_misses).getD (i : Int).toNat 0)) (((l_misses).getD (k : Int).toNat 0))) (FloatKind.nearest .f32 (IntKind.wrap .i64 ((((l_list).getD (k : Int).toNat 0)) - (((l_list).getD (i : Int).toNat 0)))))) then (bif fle .f32 best (fdiv .f32 (fsub .f32 (((l_misses).getD (i : Int).toNat 0)) (((l_misses).getD (k : Int).toNat 0))) (FloatKind.nearest .f32 (IntKind.wrap .i64 ((((l_list).getD (k : Int).toNat 0)) - (((l_list).getD (i : Int).toNat 0)))))) then (p_impl_HullOf_l3 l_list l_misses t5 t27 t5_5 l_vout i k3_4 μ3 k (fdiv .f32 (fsub .f32 (((l_misses).getD (i : Int).toNat 0)) (((l_misses).getD (k : Int).toNat 0))) (FloatKind.nearest .f32 (IntKind.wrap .i64 ((((l_list).getD (k : Int).toNat 0)) - (((l_list).getD (i : Int).toNat 0)))))) (k + 1) y3_1) else (p_impl_HullOf_l3 l_list l_misses t5 t27 t5_5 l_vout i k3_4 μ3 next best (k + 1) y3_1)) else (p_impl_HullOf_l3 l_list l_misses t5 t27 t5_5 l_vout i k3_4 μ3 next best (k + 1) y3_1)) else (k3_4 next best k y3_1)) := rfl
def p_impl_HullOf_l2 (l_list : List Int) (l_misses : List Nat) (t5 : Bool) (t27 : Int) : Nat → Bool → (List Int) → Int → (List Int) × Bool
  | 0, _, _, _ => ([], false)
  | μ2 + 1, t5_5, l_vout, i => (p_impl_HullOf_l3 l_list l_misses t5 t27 t5_5 l_vout i (fun (next : Int) (best : Nat) (k : Int) (y3_1 : List Int) => (bif decide ((next : Int) < 0) then (y3_1, true) else (p_impl_HullOf_l2 l_list l_misses t5 t27 μ2 t5_5 ((y3_1 ++ [(next : Int)])) next))) (Int.toNat ((l_list.length : Int) - (i + 1)) + 1) (((-1) : Int)) 0 (i + 1) l_vout)
theorem p_impl_HullOf_l2_s (l_list : List Int) (l_misses : List Nat) (t5 : Bool) (t27 : Int) (μ2 : Nat) (t5_5 : Bool) (l_vout : List Int) (i : Int) : p_impl_HullOf_l2 l_list l_misses t5 t27 (μ2 + 1) t5_5 l_vout i = (p_impl_HullOf_l3 l_list l_misses t5 t27 t5_5 l_vout i (fun (next : Int) (best : Nat) (k : Int) (y3_1 : List Int) => (bif decide ((next : Int) < 0) then (y3_1, true) else (p_impl_HullOf_l2 l_list l_misses t5 t27 μ2 t5_5 ((y3_1 ++ [(next : Int)])) next))) (Int.toNat ((l_list.length : Int) - (i + 1)) + 1) (((-1) : Int)) 0 (i + 1) l_vout) := rfl
def p_impl_HullOf_l1 (l_list : List Int) (l_misses : List Nat) : Nat → Bool → Int → (List Int) × Bool
  | 0, _, _ => ([], false)
  | μ + 1, t5, t27 => (bif decide ((t27 : Int) < (l_list.length : Int)) then (bif decide ((((l_list).getD (t27 : Int).toNat 0) : Int) < 0) then ([], false) else (bif decide ((0 : Int) < t27) then (bif decide ((((l_list).getD (t27 : Int).toNat 0) : Int) ≤ ((l_list).getD ((t27 - 1) : Int).toNat 0)) then ([], false) else (bif !((p_impl_isLeast (((l_misses).getD (t27 : Int).toNat 0)))) then ([], false) else (p_impl_HullOf_l1 l_list l_misses μ t5 (t27 + 1)))) else (bif !((p_impl_isLeast (((l_misses).getD (t27 : Int).toNat 0)))) then ([], false) else (p_impl_HullOf_l1 l_list l_misses μ t5 (t27 + 1))))) else (p_impl_HullOf_l2 l_list l_misses t5 t27 (Int.toNat ((l_list.length : Int) - (0 : Int)) + 1) t5 ([(0 : Int)]) (0 : Int)))
theorem p_impl_HullOf_l1_s (l_list : List Int) (l_misses : List Nat) (μ : Nat) (t5 : Bool) (t27 : Int) : p_impl_HullOf_l1 l_list l_misses (μ + 1) t5 t27 = (bif decide ((t27 : Int) < (l_list.length : Int)) then (bif decide ((((l_list).getD (t27 : Int).toNat 0) : Int) < 0) then ([], false) else (bif decide ((0 : Int) < t27) then (bif decide ((((l_list).getD (t27 : Int).toNat 0) : Int) ≤ ((l_list).getD ((t27 - 1) : Int).toNat 0)) then ([], false) else (bif !((p_impl_isLeast (((l_misses).getD (t27 : Int).toNat 0)))) then ([], false) else (p_impl_HullOf_l1 l_list l_misses μ t5 (t27 + 1)))) else (bif !((p_impl_isLeast (((l_misses).getD (t27 : Int).toNat 0)))) then ([], false) else (p_impl_HullOf_l1 l_list l_misses μ t5 (t27 + 1))))) else (p_impl_HullOf_l2 l_list l_misses t5 t27 (Int.toNat ((l_list.length : Int) - (0 : Int)) + 1) t5 ([(0 : Int)]) (0 : Int))) := rfl
def p_impl_HullOf (l_list : List Int) (l_misses : List Nat) : (List Int) × Bool := (bif !((p_impl_within (l_list.length : Int) (1 : Int) (64 : Int))) then ([], false) else (bif ((l_misses.length : Int) : Int) != (l_list.length : Int) then ([], false) else (p_impl_HullOf_l1 l_list l_misses (Int.toNat ((l_list.length : Int) - (0 : Int)) + 1) false (0 : Int))))
theorem p_impl_HullOf_eq (l_list : List Int) (l_misses : List Nat) : p_impl_HullOf l_list l_misses = (bif !((p_impl_within (l_list.length : Int) (1 : Int) (64 : Int))) then ([], false) else (bif ((l_misses.length : Int) : Int) != (l_list.length : Int) then ([], false) else (p_impl_HullOf_l1 l_list l_misses (Int.toNat ((l_list.length : Int) - (0 : Int)) + 1) false (0 : Int)))) := rfl
def T_impl_HullOf (list_a : Option Addr) (list_n : Nat) (list_e : Nat) (misses_a : Option Addr) (misses_n : Nat) (misses_e : Nat) (H : AHeap) (K : (Option Addr) → Nat → Nat → Bool → AHeap → Prop) : Prop := ∃ (l_list : List Int), ∃ (l_misses : List Nat), IsL fI H list_a list_n l_list ∧ IsL fF H misses_a misses_n l_misses ∧ l_list.length < 1073741824 ∧ l_misses.length < 1073741824 ∧ ((∀ (r1_a : Option Addr) (r1_n r1_e : Nat), ∀ H' : AHeap, Grow H H' → OwnS fI H' H.length r1_a r1_n r1_e ((p_impl_HullOf l_list l_misses).1) → K r1_a r1_n r1_e ((p_impl_HullOf l_list l_misses).2) H'))
theorem T_impl_HullOf_i {list_a : Option Addr} {list_n : Nat} {list_e : Nat} {misses_a : Option Addr} {misses_n : Nat} {misses_e : Nat} {H : AHeap} {K : (Option Addr) → Nat → Nat → Bool → AHeap → Prop} (h : ∃ (l_list : List Int), ∃ (l_misses : List Nat), IsL fI H list_a list_n l_list ∧ IsL fF H misses_a misses_n l_misses ∧ l_list.length < 1073741824 ∧ l_misses.length < 1073741824 ∧ ((∀ (r1_a : Option Addr) (r1_n r1_e : Nat), ∀ H' : AHeap, Grow H H' → OwnS fI H' H.length r1_a r1_n r1_e ((p_impl_HullOf l_list l_misses).1) → K r1_a r1_n r1_e ((p_impl_HullOf l_list l_misses).2) H'))) : T_impl_HullOf list_a list_n list_e misses_a misses_n misses_e H K := h
theorem impl_hull_P {P : List Int × Bool → Prop} {l : List Int} {r : List Nat} {t5 : Bool} {t27 : Int} {t55 : Bool} {o : List Int} {a : Int} {k : Int → Nat → Int → List Int → List Int × Bool} {y : List Int} (hk : ∀ b m i, (b < 0 ∨ (a < b ∧ b < (l.length : Int))) → P (k b m i y)) :
    ∀ (μ : Nat) (b : Int) (m : Nat) (i : Int), (b < 0 ∨ (a < b ∧ b < i)) → a < i → i ≤ (l.length : Int) → (l.length : Int) - i ≤ μ → P (p_impl_HullOf_l3 l r t5 t27 t55 o a k (μ + 1) b m i y) := by
  intro μ
  induction μ with
  | zero =>
    intro b m i hb ha hi h
    rw [p_impl_HullOf_l3_s, decide_eq_false (by omega), cond_false]; exact hk _ _ _ (by omega)
  | succ μ ih =>
    intro b m i hb ha hi h
    rw [p_impl_HullOf_l3_s]
    by_cases hc : i < (l.length : Int)
    · rw [decide_eq_true hc, cond_true]
      have e1 := fun m => ih i m (i + 1) (by omega) (by omega) (by omega) (by omega)
      have e2 := fun m => ih b m (i + 1) (by omega) (by omega) (by omega) (by omega)
      generalize fdiv .f32 (fsub .f32 (r.getD a.toNat 0) (r.getD i.toNat 0)) (FloatKind.nearest .f32 (IntKind.wrap .i64 (l.getD i.toNat 0 - l.getD a.toNat 0))) = q
      cases flt .f32 0 q
      · exact e2 _
      · cases fle .f32 m q
        · exact e2 _
        · exact e1 _
    · rw [decide_eq_false hc, cond_false]; exact hk _ _ _ (by omega)
theorem impl_hull_go (l : List Int) (r : List Nat) (t5 : Bool) (t27 : Int) (t55 : Bool) : ∀ (μ : Nat) (o : List Int) (a : Int), 0 ≤ a → a < (l.length : Int) → 1 ≤ o.length → (o.length : Int) ≤ a + 1 → (l.length : Int) - a ≤ μ + 1 → 1 ≤ (p_impl_HullOf_l2 l r t5 t27 (μ + 1) t55 o a).1.length ∧ (p_impl_HullOf_l2 l r t5 t27 (μ + 1) t55 o a).1.length ≤ l.length := by
  intro μ
  induction μ with
  | zero =>
    intro o a h0 h1 h2 h3 h4
    rw [p_impl_HullOf_l2_s]
    refine impl_hull_P (P := fun x => 1 ≤ x.1.length ∧ x.1.length ≤ l.length) (fun b m i hb => ?_) _ _ _ _ (by omega) (by omega) (by omega) (by omega)
    rcases hb with hb | hb
    · rw [decide_eq_true hb, cond_true]; exact ⟨h2, show o.length ≤ l.length by omega⟩
    · omega
  | succ μ ih =>
    intro o a h0 h1 h2 h3 h4
    rw [p_impl_HullOf_l2_s]
    refine impl_hull_P (P := fun x => 1 ≤ x.1.length ∧ x.1.length ≤ l.length) (fun b m i hb => ?_) _ _ _ _ (by omega) (by omega) (by omega) (by omega)
    by_cases hc : b < 0
    · rw [decide_eq_true hc, cond_true]; exact ⟨h2, show o.length ≤ l.length by omega⟩
    · rw [decide_eq_false hc, cond_false]
      exact ih _ _ (by omega) (by omega) (by simp) (by simp; omega) (by omega)
theorem impl_hull_chk (l : List Int) (r : List Nat) (hl : 1 ≤ l.length) : ∀ (μ : Nat) (t5 : Bool) (i : Int), (p_impl_HullOf_l1 l r μ t5 i).1.length ≤ l.length ∧ ((p_impl_HullOf_l1 l r μ t5 i).2 = true → 1 ≤ (p_impl_HullOf_l1 l r μ t5 i).1.length) := by
  have no : ([] : List Int).length ≤ l.length ∧ (false = true → 1 ≤ ([] : List Int).length) := ⟨Nat.zero_le _, fun h => by cases h⟩
  intro μ
  induction μ with
  | zero => intro t5 i; exact no
  | succ μ ih =>
    intro t5 i
    rw [p_impl_HullOf_l1_s]
    cases decide (i < (l.length : Int))
    · have := impl_hull_go l r t5 i t5 (Int.toNat ((l.length : Int) - 0)) [0] 0 (by omega) (by omega) (by simp) (by simp) (by omega)
      exact ⟨this.2, fun _ => this.1⟩
    · cases decide (l.getD i.toNat 0 < 0)
      · cases decide (0 < i)
        · cases p_impl_isLeast (r.getD i.toNat 0)
          · exact no
          · exact ih _ _
        · cases decide (l.getD i.toNat 0 ≤ l.getD (i - 1).toNat 0)
          · cases p_impl_isLeast (r.getD i.toNat 0)
            · exact no
            · exact ih _ _
          · exact no
      · exact no
theorem impl_HullOf_both (l : List Int) (r : List Nat) : (p_impl_HullOf l r).1.length ≤ l.length ∧ ((p_impl_HullOf l r).2 = true → 1 ≤ (p_impl_HullOf l r).1.length) := by
  have no : ([] : List Int).length ≤ l.length ∧ (false = true → 1 ≤ ([] : List Int).length) := ⟨Nat.zero_le _, fun h => by cases h⟩
  rw [p_impl_HullOf_eq]
  cases h : p_impl_within (l.length : Int) 1 64
  · exact no
  · cases ((r.length : Int) != (l.length : Int))
    · have := impl_within_t h
      exact impl_hull_chk l r (by omega) _ _ _
    · exact no
theorem impl_HullOf_len (l : List Int) (r : List Nat) : (p_impl_HullOf l r).1.length ≤ l.length := (impl_HullOf_both l r).1
theorem impl_HullOf_t {l : List Int} {r : List Nat} (h : (p_impl_HullOf l r).2 = true) : 1 ≤ (p_impl_HullOf l r).1.length := (impl_HullOf_both l r).2 h
/-! impl_HullOf: function 23 -/
def E_impl_HullOf : Env := envOf [(52, S_impl_within), (55, S_impl_isLeast)]
def F_impl_HullOf : List Value → AHeap → (Value → AHeap → Prop) → Prop
  | [.slice list_a list_n list_e, .slice misses_a misses_n misses_e], H, K => T_impl_HullOf list_a list_n list_e misses_a misses_n misses_e H fun (r1_a : Option Addr) (r1_n : Nat) (r1_e : Nat) (r2 : Bool) (H' : AHeap) => K (.tuple #[.slice r1_a r1_n r1_e, .bool r2]) H'
  | _, _, _ => False
def S_impl_HullOf : FSpec := { F := F_impl_HullOf, quiet := false, tame := true }
theorem impl_HullOf_vc (list_a : Option Addr) (list_n : Nat) (list_e : Nat) (misses_a : Option Addr) (misses_n : Nat) (misses_e : Nat) (H : AHeap) (K : Value → AHeap → Prop) : bodyK Try.prog E_impl_HullOf Try.f23 [.slice list_a list_n list_e, .slice misses_a misses_n misses_e] H K =
  (T_impl_within (list_n : Int) 1 64 H fun (r1 : Bool) (H1 : AHeap) => Br (!r1) (K (.tuple #[.slice none 0 0, .bool false]) H1) (Br (((misses_n : Int) : Int) != (list_n : Int)) (K (.tuple #[.slice none 0 0, .bool false]) H1) (loopK (exK Try.prog E_impl_HullOf (cl (cl (cr (cl (cr (cr (bodyC Try.f23)))))))) [.slice list_a list_n list_e, .slice misses_a misses_n misses_e, undef, undef, .slice none 0 0, .bool false, undef, undef, undef, undef, undef, undef, undef, undef, .slice list_a list_n list_e, .int .i64 (list_n : Int), .bool r1, .bool (!r1), .bool false, .slice misses_a misses_n misses_e, .int .i64 (misses_n : Int), .slice list_a list_n list_e, .int .i64 (list_n : Int), .bool (((misses_n : Int) : Int) != (list_n : Int)), .bool (((misses_n : Int) : Int) != (list_n : Int)), .slice list_a list_n list_e, .int .i64 (list_n : Int), .int .i64 0, undef, undef, undef, undef, undef, undef, undef, undef, undef, undef, undef, undef, undef, undef, undef, undef, undef, undef, undef, undef, undef, undef, undef, undef, undef, undef, undef, undef, undef, undef, undef, undef, undef, undef, undef, undef, undef, undef, undef, undef, undef, undef, undef, undef, undef, undef, undef, undef, undef, undef, undef, undef, undef, undef, undef, undef, undef, undef, undef, undef, undef, undef, undef, undef, undef, undef, undef, undef, undef, undef, undef, undef, undef, undef] H1 (blockQ 0 (seqQ (exK Try.prog E_impl_HullOf (cr (cr (cr (bodyC Try.f23))))) (retK Try.prog Try.f23 K)))))) := by kernel_rfl
theorem impl_HullOf_r1 (list_a : Option Addr) (list_e : Nat) (list_n : Nat) (misses_a : Option Addr) (misses_e : Nat) (misses_n : Nat) (r1 : Bool) (t4_a : Option Addr) (t4_n : Nat) (t4_e : Nat) (t5 : Bool) (t27 : Int) (g6 g7 g28 g29 g30 g31 g32 g33 g34 g35 g36 g37 g38 g39 g40 g41 g42 g43 g44 g45 g46 g47 g48 g49 g50 g51 g52 g53 g54 g55 : Value) (H : AHeap) (R : Post) : exK Try.prog E_impl_HullOf (cl (cl (cr (cl (cr (cr (bodyC Try.f23))))))) [.slice list_a list_n list_e, .slice misses_a misses_n misses_e, undef, undef, .slice t4_a t4_n t4_e, .bool t5, g6, g7, undef, undef, undef, undef, undef, undef, .slice list_a list_n list_e, .int .i64 (list_n : Int), .bool r1, .bool (!r1), .bool false, .slice misses_a misses_n misses_e, .int .i64 (misses_n : Int), .slice list_a list_n list_e, .int .i64 (list_n : Int), .bool (((misses_n : Int) : Int) != (list_n : Int)), .bool (((misses_n : Int) : Int) != (list_n : Int)), .slice list_a list_n list_e, .int .i64 (list_n : Int), .int .i64 t27, g28, g29, g30, g31, g32, g33, g34, g35, g36, g37, g38, g39, g40, g41, g42, g43, g44, g45, g46, g47, g48, g49, g50, g51, g52, g53, g54, g55, undef, undef, undef, undef, undef, undef, undef, undef, undef, undef, undef, undef, undef, undef, undef, undef, undef, undef, undef, undef, undef, undef, undef, undef, undef, undef, undef, undef, undef, undef, undef, undef, undef, undef, undef, undef, undef, undef, undef, undef, undef, undef, undef, undef, undef, undef] H R =
  (Br (decide ((t27 : Int) < (list_n : Int))) ((0 : Int) ≤ t27 ∧ t27 < (list_n : Int) ∧ ∃ b1 f1, (list_a : Option Addr) = some ⟨b1, f1, none⟩ ∧ ∃ x1 : Int,  rdC H b1 (f1 + (t27 : Int).toNat * 1) = some (.int .i64 x1) ∧ Br (decide ((x1 : Int) < 0)) (R .ret [.slice list_a list_n list_e, .slice misses_a misses_n misses_e, undef, undef, .slice none 0 0, .bool false, .int .i64 t27, .int .i64 x1, undef, undef, undef, undef, undef, undef, .slice list_a list_n list_e, .int .i64 (list_n : Int), .bool r1, .bool (!r1), .bool false, .slice misses_a misses_n misses_e, .int .i64 (misses_n : Int), .slice list_a list_n list_e, .int .i64 (list_n : Int), .bool (((misses_n : Int) : Int) != (list_n : Int)), .bool (((misses_n : Int) : Int) != (list_n : Int)), .slice list_a list_n list_e, .int .i64 (list_n : Int), .int .i64 t27, .bool (decide ((t27 : Int) < (list_n : Int))), .int .i64 t27, .pointer (some ⟨b1, f1 + (t27 : Int).toNat * 1, none⟩), .int .i64 x1, .int .i64 x1, .bool (decide ((x1 : Int) < 0)), .bool true, undef, undef, undef, undef, undef, undef, undef, undef, undef, undef, undef, .bool true, .bool true, undef, undef, undef, undef, undef, undef, .bool true, g55, undef, undef, undef, undef, undef, undef, undef, undef, undef, undef, undef, undef, undef, undef, undef, undef, undef, undef, undef, undef, undef, undef, undef, undef, undef, undef, undef, undef, undef, undef, undef, undef, undef, undef, undef, undef, undef, undef, undef, undef, undef, undef, undef, undef, undef, undef] H) (Br (decide ((0 : Int) < t27)) ((0 : Int) ≤ IntKind.wrap .i64 (t27 - 1) ∧ IntKind.wrap .i64 (t27 - 1) < (list_n : Int) ∧ ∃ b2 f2, (list_a : Option Addr) = some ⟨b2, f2, none⟩ ∧ ∃ x2 : Int,  rdC H b2 (f2 + (IntKind.wrap .i64 (t27 - 1) : Int).toNat * 1) = some (.int .i64 x2) ∧ Br (decide ((x1 : Int) ≤ x2)) (R .ret [.slice list_a list_n list_e, .slice misses_a misses_n misses_e, undef, undef, .slice none 0 0, .bool false, .int .i64 t27, .int .i64 x1, undef, undef, undef, undef, undef, undef, .slice list_a list_n list_e, .int .i64 (list_n : Int), .bool r1, .bool (!r1), .bool false, .slice misses_a misses_n misses_e, .int .i64 (misses_n : Int), .slice list_a list_n list_e, .int .i64 (list_n : Int), .bool (((misses_n : Int) : Int) != (list_n : Int)), .bool (((misses_n : Int) : Int) != (list_n : Int)), .slice list_a list_n list_e, .int .i64 (list_n : Int), .int .i64 t27, .bool (decide ((t27 : Int) < (list_n : Int))), .int .i64 t27, .pointer (some ⟨b1, f1 + (t27 : Int).toNat * 1, none⟩), .int .i64 x1, .int .i64 x1, .bool (decide ((x1 : Int) < 0)), .bool false, .int .i64 t27, .bool (decide ((0 : Int) < t27)), .bool true, .int .i64 x1, .slice list_a list_n list_e, .int .i64 t27, .int .i64 (IntKind.wrap .i64 (t27 - 1)), .pointer (some ⟨b2, f2 + (IntKind.wrap .i64 (t27 - 1) : Int).toNat * 1, none⟩), .int .i64 x2, .bool (decide ((x1 : Int) ≤ x2)), .bool (decide ((x1 : Int) ≤ x2)), .bool (decide ((x1 : Int) ≤ x2)), .bool true, undef, undef, undef, undef, undef, undef, .bool true, g55, undef, undef, undef, undef, undef, undef, undef, undef, undef, undef, undef, undef, undef, undef, undef, undef, undef, undef, undef, undef, undef, undef, undef, undef, undef, undef, undef, undef, undef, undef, undef, undef, undef, undef, undef, undef, undef, undef, undef, undef, undef, undef, undef, undef, undef, undef] H) ((0 : Int) ≤ t27 ∧ t27 < (misses_n : Int) ∧ ∃ b3 f3, (misses_a : Option Addr) = some ⟨b3, f3, none⟩ ∧ ∃ x3 : Nat,  rdC H b3 (f3 + (t27 : Int).toNat * 1) = some (.float .f32 x3) ∧ T_impl_isLeast x3 H fun (r2 : Bool) (H2 : AHeap) => Br (!r2) (R .ret [.slice list_a list_n list_e, .slice misses_a misses_n misses_e, undef, undef, .slice none 0 0, .bool false, .int .i64 t27, .int .i64 x1, undef, undef, undef, undef, undef, undef, .slice list_a list_n list_e, .int .i64 (list_n : Int), .bool r1, .bool (!r1), .bool false, .slice misses_a misses_n misses_e, .int .i64 (misses_n : Int), .slice list_a list_n list_e, .int .i64 (list_n : Int), .bool (((misses_n : Int) : Int) != (list_n : Int)), .bool (((misses_n : Int) : Int) != (list_n : Int)), .slice list_a list_n list_e, .int .i64 (list_n : Int), .int .i64 t27, .bool (decide ((t27 : Int) < (list_n : Int))), .int .i64 t27, .pointer (some ⟨b1, f1 + (t27 : Int).toNat * 1, none⟩), .int .i64 x1, .int .i64 x1, .bool (decide ((x1 : Int) < 0)), .bool false, .int .i64 t27, .bool (decide ((0 : Int) < t27)), .bool true, .int .i64 x1, .slice list_a list_n list_e, .int .i64 t27, .int .i64 (IntKind.wrap .i64 (t27 - 1)), .pointer (some ⟨b2, f2 + (IntKind.wrap .i64 (t27 - 1) : Int).toNat * 1, none⟩), .int .i64 x2, .bool (decide ((x1 : Int) ≤ x2)), .bool (decide ((x1 : Int) ≤ x2)), .bool (decide ((x1 : Int) ≤ x2)), .bool false, .slice misses_a misses_n misses_e, .int .i64 t27, .pointer (some ⟨b3, f3 + (t27 : Int).toNat * 1, none⟩), .float .f32 x3, .bool r2, .bool (!r2), .bool (!r2), g55, undef, undef, undef, undef, undef, undef, undef, undef, undef, undef, undef, undef, undef, undef, undef, undef, undef, undef, undef, undef, undef, undef, undef, undef, undef, undef, undef, undef, undef, undef, undef, undef, undef, undef, undef, undef, undef, undef, undef, undef, undef, undef, undef, undef, undef, undef] H2) (R .normal [.slice list_a list_n list_e, .slice misses_a misses_n misses_e, undef, undef, .slice t4_a t4_n t4_e, .bool t5, .int .i64 t27, .int .i64 x1, undef, undef, undef, undef, undef, undef, .slice list_a list_n list_e, .int .i64 (list_n : Int), .bool r1, .bool (!r1), .bool false, .slice misses_a misses_n misses_e, .int .i64 (misses_n : Int), .slice list_a list_n list_e, .int .i64 (list_n : Int), .bool (((misses_n : Int) : Int) != (list_n : Int)), .bool (((misses_n : Int) : Int) != (list_n : Int)), .slice list_a list_n list_e, .int .i64 (list_n : Int), .int .i64 (IntKind.wrap .i64 (t27 + 1)), .bool (decide ((t27 : Int) < (list_n : Int))), .int .i64 t27, .pointer (some ⟨b1, f1 + (t27 : Int).toNat * 1, none⟩), .int .i64 x1, .int .i64 x1, .bool (decide ((x1 : Int) < 0)), .bool false, .int .i64 t27, .bool (decide ((0 : Int) < t27)), .bool true, .int .i64 x1, .slice list_a list_n list_e, .int .i64 t27, .int .i64 (IntKind.wrap .i64 (t27 - 1)), .pointer (some ⟨b2, f2 + (IntKind.wrap .i64 (t27 - 1) : Int).toNat * 1, none⟩), .int .i64 x2, .bool (decide ((x1 : Int) ≤ x2)), .bool (decide ((x1 : Int) ≤ x2)), .bool (decide ((x1 : Int) ≤ x2)), .bool false, .slice misses_a misses_n misses_e, .int .i64 t27, .pointer (some ⟨b3, f3 + (t27 : Int).toNat * 1, none⟩), .float .f32 x3, .bool r2, .bool (!r2), .bool (!r2), .int .i64 (IntKind.wrap .i64 (t27 + 1)), undef, undef, undef, undef, undef, undef, undef, undef, undef, undef, undef, undef, undef, undef, undef, undef, undef, undef, undef, undef, undef, undef, undef, undef, undef, undef, undef, undef, undef, undef, undef, undef, undef, undef, undef, undef, undef, undef, undef, undef, undef, undef, undef, undef, undef, undef] H2))) ((0 : Int) ≤ t27 ∧ t27 < (misses_n : Int) ∧ ∃ b4 f4, (misses_a : Option Addr) = some ⟨b4, f4, none⟩ ∧ ∃ x4 : Nat,  rdC H b4 (f4 + (t27 : Int).toNat * 1) = some (.float .f32 x4) ∧ T_impl_isLeast x4 H fun (r3 : Bool) (H3 : AHeap) => Br (!r3) (R .ret [.slice list_a list_n list_e, .slice misses_a misses_n misses_e, undef, undef, .slice none 0 0, .bool false, .int .i64 t27, .int .i64 x1, undef, undef, undef, undef, undef, undef, .slice list_a list_n list_e, .int .i64 (list_n : Int), .bool r1, .bool (!r1), .bool false, .slice misses_a misses_n misses_e, .int .i64 (misses_n : Int), .slice list_a list_n list_e, .int .i64 (list_n : Int), .bool (((misses_n : Int) : Int) != (list_n : Int)), .bool (((misses_n : Int) : Int) != (list_n : Int)), .slice list_a list_n list_e, .int .i64 (list_n : Int), .int .i64 t27, .bool (decide ((t27 : Int) < (list_n : Int))), .int .i64 t27, .pointer (some ⟨b1, f1 + (t27 : Int).toNat * 1, none⟩), .int .i64 x1, .int .i64 x1, .bool (decide ((x1 : Int) < 0)), .bool false, .int .i64 t27, .bool (decide ((0 : Int) < t27)), .bool false, undef, undef, undef, undef, undef, undef, undef, .bool false, .bool false, .bool false, .slice misses_a misses_n misses_e, .int .i64 t27, .pointer (some ⟨b4, f4 + (t27 : Int).toNat * 1, none⟩), .float .f32 x4, .bool r3, .bool (!r3), .bool (!r3), g55, undef, undef, undef, undef, undef, undef, undef, undef, undef, undef, undef, undef, undef, undef, undef, undef, undef, undef, undef, undef, undef, undef, undef, undef, undef, undef, undef, undef, undef, undef, undef, undef, undef, undef, undef, undef, undef, undef, undef, undef, undef, undef, undef, undef, undef, undef] H3) (R .normal [.slice list_a list_n list_e, .slice misses_a misses_n misses_e, undef, undef, .slice t4_a t4_n t4_e, .bool t5, .int .i64 t27, .int .i64 x1, undef, undef, undef, undef, undef, undef, .slice list_a list_n list_e, .int .i64 (list_n : Int), .bool r1, .bool (!r1), .bool false, .slice misses_a misses_n misses_e, .int .i64 (misses_n : Int), .slice list_a list_n list_e, .int .i64 (list_n : Int), .bool (((misses_n : Int) : Int) != (list_n : Int)), .bool (((misses_n : Int) : Int) != (list_n : Int)), .slice list_a list_n list_e, .int .i64 (list_n : Int), .int .i64 (IntKind.wrap .i64 (t27 + 1)), .bool (decide ((t27 : Int) < (list_n : Int))), .int .i64 t27, .pointer (some ⟨b1, f1 + (t27 : Int).toNat * 1, none⟩), .int .i64 x1, .int .i64 x1, .bool (decide ((x1 : Int) < 0)), .bool false, .int .i64 t27, .bool (decide ((0 : Int) < t27)), .bool false, undef, undef, undef, undef, undef, undef, undef, .bool false, .bool false, .bool false, .slice misses_a misses_n misses_e, .int .i64 t27, .pointer (some ⟨b4, f4 + (t27 : Int).toNat * 1, none⟩), .float .f32 x4, .bool r3, .bool (!r3), .bool (!r3), .int .i64 (IntKind.wrap .i64 (t27 + 1)), undef, undef, undef, undef, undef, undef, undef, undef, undef, undef, undef, undef, undef, undef, undef, undef, undef, undef, undef, undef, undef, undef, undef, undef, undef, undef, undef, undef, undef, undef, undef, undef, undef, undef, undef, undef, undef, undef, undef, undef, undef, undef, undef, undef, undef, undef] H3)))) (R (.exit 0) [.slice list_a list_n list_e, .slice misses_a misses_n misses_e, undef, undef, .slice t4_a t4_n t4_e, .bool t5, g6, g7, undef, undef, undef, undef, undef, undef, .slice list_a list_n list_e, .int .i64 (list_n : Int), .bool r1, .bool (!r1), .bool false, .slice misses_a misses_n misses_e, .int .i64 (misses_n : Int), .slice list_a list_n list_e, .int .i64 (list_n : Int), .bool (((misses_n : Int) : Int) != (list_n : Int)), .bool (((misses_n : Int) : Int) != (list_n : Int)), .slice list_a list_n list_e, .int .i64 (list_n : Int), .int .i64 t27, .bool (decide ((t27 : Int) < (list_n : Int))), g29, g30, g31, g32, g33, g34, g35, g36, g37, g38, g39, g40, g41, g42, g43, g44, g45, g46, g47, g48, g49, g50, g51, g52, g53, g54, g55, undef, undef, undef, undef, undef, undef, undef, undef, undef, undef, undef, undef, undef, undef, undef, undef, undef, undef, undef, undef, undef, undef, undef, undef, undef, undef, undef, undef, undef, undef, undef, undef, undef, undef, undef, undef, undef, undef, undef, undef, undef, undef, undef, undef, undef, undef] H)) := by kernel_rfl
def impl_HullOf_I1 (list_a : Option Addr) (list_e : Nat) (list_n : Nat) (misses_a : Option Addr) (misses_e : Nat) (misses_n : Nat) (r1 : Bool) (Inv : Nat → (Option Addr) → Nat → Nat → Bool → Int → AHeap → Prop) : Nat → List Value → AHeap → Prop := fun μ tm H => ∃ (t4_a : Option Addr), ∃ (t4_n : Nat), ∃ (t4_e : Nat), ∃ (t5 : Bool), ∃ (t27 : Int), ∃ g6 g7 g28 g29 g30 g31 g32 g33 g34 g35 g36 g37 g38 g39 g40 g41 g42 g43 g44 g45 g46 g47 g48 g49 g50 g51 g52 g53 g54 g55, tm = [.slice list_a list_n list_e, .slice misses_a misses_n misses_e, undef, undef, .slice t4_a t4_n t4_e, .bool t5, g6, g7, undef, undef, undef, undef, undef, undef, .slice list_a list_n list_e, .int .i64 (list_n : Int), .bool r1, .bool (!r1), .bool false, .slice misses_a misses_n misses_e, .int .i64 (misses_n : Int), .slice list_a list_n list_e, .int .i64 (list_n : Int), .bool (((misses_n : Int) : Int) != (list_n : Int)), .bool (((misses_n : Int) : Int) != (list_n : Int)), .slice list_a list_n list_e, .int .i64 (list_n : Int), .int .i64 t27, g28, g29, g30, g31, g32, g33, g34, g35, g36, g37, g38, g39, g40, g41, g42, g43, g44, g45, g46, g47, g48, g49, g50, g51, g52, g53, g54, g55, undef, undef, undef, undef, undef, undef, undef, undef, undef, undef, undef, undef, undef, undef, undef, undef, undef, undef, undef, undef, undef, undef, undef, undef, undef, undef, undef, undef, undef, undef, undef, undef, undef, undef, undef, undef, undef, undef, undef, undef, undef, undef, undef, undef, undef, undef] ∧ Inv μ t4_a t4_n t4_e t5 t27 H
theorem impl_HullOf_L1 (list_a : Option Addr) (list_e : Nat) (list_n : Nat) (misses_a : Option Addr) (misses_e : Nat) (misses_n : Nat) (r1 : Bool) {Q : Post} (Inv : Nat → (Option Addr) → Nat → Nat → Bool → Int → AHeap → Prop) (ν : Nat) (t4_a : Option Addr) (t4_n : Nat) (t4_e : Nat) (t5 : Bool) (t27 : Int) (g6 g7 g28 g29 g30 g31 g32 g33 g34 g35 g36 g37 g38 g39 g40 g41 g42 g43 g44 g45 g46 g47 g48 g49 g50 g51 g52 g53 g54 g55 : Value) (H : AHeap) (h0 : Inv ν t4_a t4_n t4_e t5 t27 H)
    (hs : ∀ (μ : Nat) (t4_a : Option Addr) (t4_n : Nat) (t4_e : Nat) (t5 : Bool) (t27 : Int) (g6 g7 g28 g29 g30 g31 g32 g33 g34 g35 g36 g37 g38 g39 g40 g41 g42 g43 g44 g45 g46 g47 g48 g49 g50 g51 g52 g53 g54 g55 : Value) (H : AHeap), Inv μ t4_a t4_n t4_e t5 t27 H → exK Try.prog E_impl_HullOf (cl (cl (cr (cl (cr (cr (bodyC Try.f23))))))) [.slice list_a list_n list_e, .slice misses_a misses_n misses_e, undef, undef, .slice t4_a t4_n t4_e, .bool t5, g6, g7, undef, undef, undef, undef, undef, undef, .slice list_a list_n list_e, .int .i64 (list_n : Int), .bool r1, .bool (!r1), .bool false, .slice misses_a misses_n misses_e, .int .i64 (misses_n : Int), .slice list_a list_n list_e, .int .i64 (list_n : Int), .bool (((misses_n : Int) : Int) != (list_n : Int)), .bool (((misses_n : Int) : Int) != (list_n : Int)), .slice list_a list_n list_e, .int .i64 (list_n : Int), .int .i64 t27, g28, g29, g30, g31, g32, g33, g34, g35, g36, g37, g38, g39, g40, g41, g42, g43, g44, g45, g46, g47, g48, g49, g50, g51, g52, g53, g54, g55, undef, undef, undef, undef, undef, undef, undef, undef, undef, undef, undef, undef, undef, undef, undef, undef, undef, undef, undef, undef, undef, undef, undef, undef, undef, undef, undef, undef, undef, undef, undef, undef, undef, undef, undef, undef, undef, undef, undef, undef, undef, undef, undef, undef, undef, undef] H (loopQ (impl_HullOf_I1 list_a list_e list_n misses_a misses_e misses_n r1 Inv) μ Q)) : loopK (exK Try.prog E_impl_HullOf (cl (cl (cr (cl (cr (cr (bodyC Try.f23)))))))) [.slice list_a list_n list_e, .slice misses_a misses_n misses_e, undef, undef, .slice t4_a t4_n t4_e, .bool t5, g6, g7, undef, undef, undef, undef, undef, undef, .slice list_a list_n list_e, .int .i64 (list_n : Int), .bool r1, .bool (!r1), .bool false, .slice misses_a misses_n misses_e, .int .i64 (misses_n : Int), .slice list_a list_n list_e, .int .i64 (list_n : Int), .bool (((misses_n : Int) : Int) != (list_n : Int)), .bool (((misses_n : Int) : Int) != (list_n : Int)), .slice list_a list_n list_e, .int .i64 (list_n : Int), .int .i64 t27, g28, g29, g30, g31, g32, g33, g34, g35, g36, g37, g38, g39, g40, g41, g42, g43, g44, g45, g46, g47, g48, g49, g50, g51, g52, g53, g54, g55, undef, undef, undef, undef, undef, undef, undef, undef, undef, undef, undef, undef, undef, undef, undef, undef, undef, undef, undef, undef, undef, undef, undef, undef, undef, undef, undef, undef, undef, undef, undef, undef, undef, undef, undef, undef, undef, undef, undef, undef, undef, undef, undef, undef, undef, undef] H Q :=
  ⟨impl_HullOf_I1 list_a list_e list_n misses_a misses_e misses_n r1 Inv, ν, ⟨t4_a, t4_n, t4_e, t5, t27, g6, g7, g28, g29, g30, g31, g32, g33, g34, g35, g36, g37, g38, g39, g40, g41, g42, g43, g44, g45, g46, g47, g48, g49, g50, g51, g52, g53, g54, g55, rfl, h0⟩, fun μ tm H h => by obtain ⟨t4_a, t4_n, t4_e, t5, t27, g6, g7, g28, g29, g30, g31, g32, g33, g34, g35, g36, g37, g38, g39, g40, g41, g42, g43, g44, g45, g46, g47, g48, g49, g50, g51, g52, g53, g54, g55, rfl, hI⟩ := h; exact hs μ t4_a t4_n t4_e t5 t27 g6 g7 g28 g29 g30 g31 g32 g33 g34 g35 g36 g37 g38 g39 g40 g41 g42 g43 g44 g45 g46 g47 g48 g49 g50 g51 g52 g53 g54 g55 H hI⟩
theorem impl_HullOf_n1 {list_a : Option Addr} {list_e : Nat} {list_n : Nat} {misses_a : Option Addr} {misses_e : Nat} {misses_n : Nat} {r1 : Bool} {Q : Post} {Inv : Nat → (Option Addr) → Nat → Nat → Bool → Int → AHeap → Prop} {μ : Nat} (μ' : Nat) {t4_a : Option Addr} {t4_n : Nat} {t4_e : Nat} {t5 : Bool} {t27 : Int} {g6 g7 g28 g29 g30 g31 g32 g33 g34 g35 g36 g37 g38 g39 g40 g41 g42 g43 g44 g45 g46 g47 g48 g49 g50 g51 g52 g53 g54 g55 : Value} {H : AHeap} (hm : μ' < μ) (hI : Inv μ' t4_a t4_n t4_e t5 t27 H) : loopQ (impl_HullOf_I1 list_a list_e list_n misses_a misses_e misses_n r1 Inv) μ Q .normal [.slice list_a list_n list_e, .slice misses_a misses_n misses_e, undef, undef, .slice t4_a t4_n t4_e, .bool t5, g6, g7, undef, undef, undef, undef, undef, undef, .slice list_a list_n list_e, .int .i64 (list_n : Int), .bool r1, .bool (!r1), .bool false, .slice misses_a misses_n misses_e, .int .i64 (misses_n : Int), .slice list_a list_n list_e, .int .i64 (list_n : Int), .bool (((misses_n : Int) : Int) != (list_n : Int)), .bool (((misses_n : Int) : Int) != (list_n : Int)), .slice list_a list_n list_e, .int .i64 (list_n : Int), .int .i64 t27, g28, g29, g30, g31, g32, g33, g34, g35, g36, g37, g38, g39, g40, g41, g42, g43, g44, g45, g46, g47, g48, g49, g50, g51, g52, g53, g54, g55, undef, undef, undef, undef, undef, undef, undef, undef, undef, undef, undef, undef, undef, undef, undef, undef, undef, undef, undef, undef, undef, undef, undef, undef, undef, undef, undef, undef, undef, undef, undef, undef, undef, undef, undef, undef, undef, undef, undef, undef, undef, undef, undef, undef, undef, undef] H := ⟨μ', hm, t4_a, t4_n, t4_e, t5, t27, g6, g7, g28, g29, g30, g31, g32, g33, g34, g35, g36, g37, g38, g39, g40, g41, g42, g43, g44, g45, g46, g47, g48, g49, g50, g51, g52, g53, g54, g55, rfl, hI⟩
theorem impl_HullOf_x1_0 (list_a : Option Addr) (list_e : Nat) (list_n : Nat) (misses_a : Option Addr) (misses_e : Nat) (misses_n : Nat) (r1 : Bool) (t4_a : Option Addr) (t4_n : Nat) (t4_e : Nat) (t5 : Bool) (t27 : Int) (g6 g7 g28 g29 g30 g31 g32 g33 g34 g35 g36 g37 g38 g39 g40 g41 g42 g43 g44 g45 g46 g47 g48 g49 g50 g51 g52 g53 g54 g55 : Value) (H : AHeap) (K : Value → AHeap → Prop)  {I : Nat → List Value → AHeap → Prop} {μ : Nat} : loopQ I μ (blockQ 0 (seqQ (exK Try.prog E_impl_HullOf (cr (cr (cr (bodyC Try.f23))))) (retK Try.prog Try.f23 K))) (.exit 0) [.slice list_a list_n list_e, .slice misses_a misses_n misses_e, undef, undef, .slice t4_a t4_n t4_e, .bool t5, g6, g7, undef, undef, undef, undef, undef, undef, .slice list_a list_n list_e, .int .i64 (list_n : Int), .bool r1, .bool (!r1), .bool false, .slice misses_a misses_n misses_e, .int .i64 (misses_n : Int), .slice list_a list_n list_e, .int .i64 (list_n : Int), .bool (((misses_n : Int) : Int) != (list_n : Int)), .bool (((misses_n : Int) : Int) != (list_n : Int)), .slice list_a list_n list_e, .int .i64 (list_n : Int), .int .i64 t27, g28, g29, g30, g31, g32, g33, g34, g35, g36, g37, g38, g39, g40, g41, g42, g43, g44, g45, g46, g47, g48, g49, g50, g51, g52, g53, g54, g55, undef, undef, undef, undef, undef, undef, undef, undef, undef, undef, undef, undef, undef, undef, undef, undef, undef, undef, undef, undef, undef, undef, undef, undef, undef, undef, undef, undef, undef, undef, undef, undef, undef, undef, undef, undef, undef, undef, undef, undef, undef, undef, undef, undef, undef, undef] H =
  (Al [.int .i64 0] H fun b5 H4 => loopK (exK Try.prog E_impl_HullOf (cl (cl (cr (cr (cr (cr (bodyC Try.f23)))))))) [.slice list_a list_n list_e, .slice misses_a misses_n misses_e, undef, undef, .slice t4_a t4_n t4_e, .bool t5, g6, g7, .slice (some ⟨b5, 0, none⟩) 1 1, .int .i64 0, undef, undef, undef, undef, .slice list_a list_n list_e, .int .i64 (list_n : Int), .bool r1, .bool (!r1), .bool false, .slice misses_a misses_n misses_e, .int .i64 (misses_n : Int), .slice list_a list_n list_e, .int .i64 (list_n : Int), .bool (((misses_n : Int) : Int) != (list_n : Int)), .bool (((misses_n : Int) : Int) != (list_n : Int)), .slice list_a list_n list_e, .int .i64 (list_n : Int), .int .i64 t27, g28, g29, g30, g31, g32, g33, g34, g35, g36, g37, g38, g39, g40, g41, g42, g43, g44, g45, g46, g47, g48, g49, g50, g51, g52, g53, g54, g55, .slice (some ⟨b5, 0, none⟩) 1 1, undef, undef, undef, undef, undef, undef, undef, undef, undef, undef, undef, undef, undef, undef, undef, undef, undef, undef, undef, undef, undef, undef, undef, undef, undef, undef, undef, undef, undef, undef, undef, undef, undef, undef, undef, undef, undef, undef, undef, undef, undef, undef, undef, undef, undef] H4 (blockQ 2 (retK Try.prog Try.f23 K))) := by kernel_rfl
theorem impl_HullOf_x1_ret (list_a : Option Addr) (list_e : Nat) (list_n : Nat) (misses_a : Option Addr) (misses_e : Nat) (misses_n : Nat) (r1 : Bool) (t4_a : Option Addr) (t4_n : Nat) (t4_e : Nat) (t5 : Bool) (t27 : Int) (g6 g7 g28 g29 g30 g31 g32 g33 g34 g35 g36 g37 g38 g39 g40 g41 g42 g43 g44 g45 g46 g47 g48 g49 g50 g51 g52 g53 g54 g55 : Value) (H : AHeap) (K : Value → AHeap → Prop)  {I : Nat → List Value → AHeap → Prop} {μ : Nat} : loopQ I μ (blockQ 0 (seqQ (exK Try.prog E_impl_HullOf (cr (cr (cr (bodyC Try.f23))))) (retK Try.prog Try.f23 K))) .ret [.slice list_a list_n list_e, .slice misses_a misses_n misses_e, undef, undef, .slice t4_a t4_n t4_e, .bool t5, g6, g7, undef, undef, undef, undef, undef, undef, .slice list_a list_n list_e, .int .i64 (list_n : Int), .bool r1, .bool (!r1), .bool false, .slice misses_a misses_n misses_e, .int .i64 (misses_n : Int), .slice list_a list_n list_e, .int .i64 (list_n : Int), .bool (((misses_n : Int) : Int) != (list_n : Int)), .bool (((misses_n : Int) : Int) != (list_n : Int)), .slice list_a list_n list_e, .int .i64 (list_n : Int), .int .i64 t27, g28, g29, g30, g31, g32, g33, g34, g35, g36, g37, g38, g39, g40, g41, g42, g43, g44, g45, g46, g47, g48, g49, g50, g51, g52, g53, g54, g55, undef, undef, undef, undef, undef, undef, undef, undef, undef, undef, undef, undef, undef, undef, undef, undef, undef, undef, undef, undef, undef, undef, undef, undef, undef, undef, undef, undef, undef, undef, undef, undef, undef, undef, undef, undef, undef, undef, undef, undef, undef, undef, undef, undef, undef, undef] H =
  (K (.tuple #[.slice t4_a t4_n t4_e, .bool t5]) H) := by kernel_rfl
theorem impl_HullOf_r2 (b5 : Nat) (g28 : Value) (g29 : Value) (g30 : Value) (g31 : Value) (g32 : Value) (g33 : Value) (g34 : Value) (g35 : Value) (g36 : Value) (g37 : Value) (g38 : Value) (g39 : Value) (g40 : Value) (g41 : Value) (g42 : Value) (g43 : Value) (g44 : Value) (g45 : Value) (g46 : Value) (g47 : Value) (g48 : Value) (g49 : Value) (g50 : Value) (g51 : Value) (g52 : Value) (g53 : Value) (g54 : Value) (g55 : Value) (g6 : Value) (g7 : Value) (list_a : Option Addr) (list_e : Nat) (list_n : Nat) (misses_a : Option Addr) (misses_e : Nat) (misses_n : Nat) (r1 : Bool) (t27 : Int) (t4_a : Option Addr) (t4_n : Nat) (t4_e : Nat) (t5_5 : Bool) (vout_a : Option Addr) (vout_n : Nat) (vout_e : Nat) (i : Int) (g10 g11 g12 g13 g57 g58 g59 g60 g61 g62 g63 g64 g65 g66 g67 g68 g69 g70 g71 g72 g73 g74 g75 g76 g77 g78 g79 g80 g81 g82 g83 g84 g85 g86 g87 g88 g89 g90 g91 g92 g93 g94 g95 g96 g97 g98 g99 g100 g101 : Value) (H : AHeap) (R : Post) : exK Try.prog E_impl_HullOf (cl (cl (cr (cr (cr (cr (bodyC Try.f23))))))) [.slice list_a list_n list_e, .slice misses_a misses_n misses_e, undef, undef, .slice t4_a t4_n t4_e, .bool t5_5, g6, g7, .slice vout_a vout_n vout_e, .int .i64 i, g10, g11, g12, g13, .slice list_a list_n list_e, .int .i64 (list_n : Int), .bool r1, .bool (!r1), .bool false, .slice misses_a misses_n misses_e, .int .i64 (misses_n : Int), .slice list_a list_n list_e, .int .i64 (list_n : Int), .bool (((misses_n : Int) : Int) != (list_n : Int)), .bool (((misses_n : Int) : Int) != (list_n : Int)), .slice list_a list_n list_e, .int .i64 (list_n : Int), .int .i64 t27, g28, g29, g30, g31, g32, g33, g34, g35, g36, g37, g38, g39, g40, g41, g42, g43, g44, g45, g46, g47, g48, g49, g50, g51, g52, g53, g54, g55, .slice (some ⟨b5, 0, none⟩) 1 1, g57, g58, g59, g60, g61, g62, g63, g64, g65, g66, g67, g68, g69, g70, g71, g72, g73, g74, g75, g76, g77, g78, g79, g80, g81, g82, g83, g84, g85, g86, g87, g88, g89, g90, g91, g92, g93, g94, g95, g96, g97, g98, g99, g100, g101] H R =
  (loopK (exK Try.prog E_impl_HullOf (cl (cl (cr (cl (cr (cl (cl (cl (cr (cr (cr (cr (bodyC Try.f23)))))))))))))) [.slice list_a list_n list_e, .slice misses_a misses_n misses_e, undef, undef, .slice t4_a t4_n t4_e, .bool t5_5, g6, g7, .slice vout_a vout_n vout_e, .int .i64 i, .int .i64 (-1), .float .f32 0, .int .i64 (IntKind.wrap .i64 (i + 1)), g13, .slice list_a list_n list_e, .int .i64 (list_n : Int), .bool r1, .bool (!r1), .bool false, .slice misses_a misses_n misses_e, .int .i64 (misses_n : Int), .slice list_a list_n list_e, .int .i64 (list_n : Int), .bool (((misses_n : Int) : Int) != (list_n : Int)), .bool (((misses_n : Int) : Int) != (list_n : Int)), .slice list_a list_n list_e, .int .i64 (list_n : Int), .int .i64 t27, g28, g29, g30, g31, g32, g33, g34, g35, g36, g37, g38, g39, g40, g41, g42, g43, g44, g45, g46, g47, g48, g49, g50, g51, g52, g53, g54, g55, .slice (some ⟨b5, 0, none⟩) 1 1, .int .i64 i, .int .i64 (IntKind.wrap .i64 (i + 1)), g59, g60, g61, g62, g63, g64, g65, g66, g67, g68, g69, g70, g71, g72, g73, g74, g75, g76, g77, g78, g79, g80, g81, g82, g83, g84, g85, g86, g87, g88, g89, g90, g91, g92, g93, g94, g95, g96, g97, g98, g99, g100, g101] H (blockQ 4 (seqQ (exK Try.prog E_impl_HullOf (cr (cr (cl (cl (cl (cr (cr (cr (cr (bodyC Try.f23))))))))))) (blockQ 3 (R))))) := by kernel_rfl
def impl_HullOf_I2 (b5 : Nat) (g28 : Value) (g29 : Value) (g30 : Value) (g31 : Value) (g32 : Value) (g33 : Value) (g34 : Value) (g35 : Value) (g36 : Value) (g37 : Value) (g38 : Value) (g39 : Value) (g40 : Value) (g41 : Value) (g42 : Value) (g43 : Value) (g44 : Value) (g45 : Value) (g46 : Value) (g47 : Value) (g48 : Value) (g49 : Value) (g50 : Value) (g51 : Value) (g52 : Value) (g53 : Value) (g54 : Value) (g55 : Value) (g6 : Value) (g7 : Value) (list_a : Option Addr) (list_e : Nat) (list_n : Nat) (misses_a : Option Addr) (misses_e : Nat) (misses_n : Nat) (r1 : Bool) (t27 : Int) (Inv : Nat → (Option Addr) → Nat → Nat → Bool → (Option Addr) → Nat → Nat → Int → AHeap → Prop) : Nat → List Value → AHeap → Prop := fun μ tm H => ∃ (t4_a : Option Addr), ∃ (t4_n : Nat), ∃ (t4_e : Nat), ∃ (t5_5 : Bool), ∃ (vout_a : Option Addr), ∃ (vout_n : Nat), ∃ (vout_e : Nat), ∃ (i : Int), ∃ g10 g11 g12 g13 g57 g58 g59 g60 g61 g62 g63 g64 g65 g66 g67 g68 g69 g70 g71 g72 g73 g74 g75 g76 g77 g78 g79 g80 g81 g82 g83 g84 g85 g86 g87 g88 g89 g90 g91 g92 g93 g94 g95 g96 g97 g98 g99 g100 g101, tm = [.slice list_a list_n list_e, .slice misses_a misses_n misses_e, undef, undef, .slice t4_a t4_n t4_e, .bool t5_5, g6, g7, .slice vout_a vout_n vout_e, .int .i64 i, g10, g11, g12, g13, .slice list_a list_n list_e, .int .i64 (list_n : Int), .bool r1, .bool (!r1), .bool false, .slice misses_a misses_n misses_e, .int .i64 (misses_n : Int), .slice list_a list_n list_e, .int .i64 (list_n : Int), .bool (((misses_n : Int) : Int) != (list_n : Int)), .bool (((misses_n : Int) : Int) != (list_n : Int)), .slice list_a list_n list_e, .int .i64 (list_n : Int), .int .i64 t27, g28, g29, g30, g31, g32, g33, g34, g35, g36, g37, g38, g39, g40, g41, g42, g43, g44, g45, g46, g47, g48, g49, g50, g51, g52, g53, g54, g55, .slice (some ⟨b5, 0, none⟩) 1 1, g57, g58, g59, g60, g61, g62, g63, g64, g65, g66, g67, g68, g69, g70, g71, g72, g73, g74, g75, g76, g77, g78, g79, g80, g81, g82, g83, g84, g85, g86, g87, g88, g89, g90, g91, g92, g93, g94, g95, g96, g97, g98, g99, g100, g101] ∧ Inv μ t4_a t4_n t4_e t5_5 vout_a vout_n vout_e i H
theorem impl_HullOf_L2 (b5 : Nat) (g28 : Value) (g29 : Value) (g30 : Value) (g31 : Value) (g32 : Value) (g33 : Value) (g34 : Value) (g35 : Value) (g36 : Value) (g37 : Value) (g38 : Value) (g39 : Value) (g40 : Value) (g41 : Value) (g42 : Value) (g43 : Value) (g44 : Value) (g45 : Value) (g46 : Value) (g47 : Value) (g48 : Value) (g49 : Value) (g50 : Value) (g51 : Value) (g52 : Value) (g53 : Value) (g54 : Value) (g55 : Value) (g6 : Value) (g7 : Value) (list_a : Option Addr) (list_e : Nat) (list_n : Nat) (misses_a : Option Addr) (misses_e : Nat) (misses_n : Nat) (r1 : Bool) (t27 : Int) {Q : Post} (Inv : Nat → (Option Addr) → Nat → Nat → Bool → (Option Addr) → Nat → Nat → Int → AHeap → Prop) (ν : Nat) (t4_a : Option Addr) (t4_n : Nat) (t4_e : Nat) (t5_5 : Bool) (vout_a : Option Addr) (vout_n : Nat) (vout_e : Nat) (i : Int) (g10 g11 g12 g13 g57 g58 g59 g60 g61 g62 g63 g64 g65 g66 g67 g68 g69 g70 g71 g72 g73 g74 g75 g76 g77 g78 g79 g80 g81 g82 g83 g84 g85 g86 g87 g88 g89 g90 g91 g92 g93 g94 g95 g96 g97 g98 g99 g100 g101 : Value) (H : AHeap) (h0 : Inv ν t4_a t4_n t4_e t5_5 vout_a vout_n vout_e i H)
    (hs : ∀ (μ : Nat) (t4_a : Option Addr) (t4_n : Nat) (t4_e : Nat) (t5_5 : Bool) (vout_a : Option Addr) (vout_n : Nat) (vout_e : Nat) (i : Int) (g10 g11 g12 g13 g57 g58 g59 g60 g61 g62 g63 g64 g65 g66 g67 g68 g69 g70 g71 g72 g73 g74 g75 g76 g77 g78 g79 g80 g81 g82 g83 g84 g85 g86 g87 g88 g89 g90 g91 g92 g93 g94 g95 g96 g97 g98 g99 g100 g101 : Value) (H : AHeap), Inv μ t4_a t4_n t4_e t5_5 vout_a vout_n vout_e i H → exK Try.prog E_impl_HullOf (cl (cl (cr (cr (cr (cr (bodyC Try.f23))))))) [.slice list_a list_n list_e, .slice misses_a misses_n misses_e, undef, undef, .slice t4_a t4_n t4_e, .bool t5_5, g6, g7, .slice vout_a vout_n vout_e, .int .i64 i, g10, g11, g12, g13, .slice list_a list_n list_e, .int .i64 (list_n : Int), .bool r1, .bool (!r1), .bool false, .slice misses_a misses_n misses_e, .int .i64 (misses_n : Int), .slice list_a list_n list_e, .int .i64 (list_n : Int), .bool (((misses_n : Int) : Int) != (list_n : Int)), .bool (((misses_n : Int) : Int) != (list_n : Int)), .slice list_a list_n list_e, .int .i64 (list_n : Int), .int .i64 t27, g28, g29, g30, g31, g32, g33, g34, g35, g36, g37, g38, g39, g40, g41, g42, g43, g44, g45, g46, g47, g48, g49, g50, g51, g52, g53, g54, g55, .slice (some ⟨b5, 0, none⟩) 1 1, g57, g58, g59, g60, g61, g62, g63, g64, g65, g66, g67, g68, g69, g70, g71, g72, g73, g74, g75, g76, g77, g78, g79, g80, g81, g82, g83, g84, g85, g86, g87, g88, g89, g90, g91, g92, g93, g94, g95, g96, g97, g98, g99, g100, g101] H (loopQ (impl_HullOf_I2 b5 g28 g29 g30 g31 g32 g33 g34 g35 g36 g37 g38 g39 g40 g41 g42 g43 g44 g45 g46 g47 g48 g49 g50 g51 g52 g53 g54 g55 g6 g7 list_a list_e list_n misses_a misses_e misses_n r1 t27 Inv) μ Q)) : loopK (exK Try.prog E_impl_HullOf (cl (cl (cr (cr (cr (cr (bodyC Try.f23)))))))) [.slice list_a list_n list_e, .slice misses_a misses_n misses_e, undef, undef, .slice t4_a t4_n t4_e, .bool t5_5, g6, g7, .slice vout_a vout_n vout_e, .int .i64 i, g10, g11, g12, g13, .slice list_a list_n list_e, .int .i64 (list_n : Int), .bool r1, .bool (!r1), .bool false, .slice misses_a misses_n misses_e, .int .i64 (misses_n : Int), .slice list_a list_n list_e, .int .i64 (list_n : Int), .bool (((misses_n : Int) : Int) != (list_n : Int)), .bool (((misses_n : Int) : Int) != (list_n : Int)), .slice list_a list_n list_e, .int .i64 (list_n : Int), .int .i64 t27, g28, g29, g30, g31, g32, g33, g34, g35, g36, g37, g38, g39, g40, g41, g42, g43, g44, g45, g46, g47, g48, g49, g50, g51, g52, g53, g54, g55, .slice (some ⟨b5, 0, none⟩) 1 1, g57, g58, g59, g60, g61, g62, g63, g64, g65, g66, g67, g68, g69, g70, g71, g72, g73, g74, g75, g76, g77, g78, g79, g80, g81, g82, g83, g84, g85, g86, g87, g88, g89, g90, g91, g92, g93, g94, g95, g96, g97, g98, g99, g100, g101] H Q :=
  ⟨impl_HullOf_I2 b5 g28 g29 g30 g31 g32 g33 g34 g35 g36 g37 g38 g39 g40 g41 g42 g43 g44 g45 g46 g47 g48 g49 g50 g51 g52 g53 g54 g55 g6 g7 list_a list_e list_n misses_a misses_e misses_n r1 t27 Inv, ν, ⟨t4_a, t4_n, t4_e, t5_5, vout_a, vout_n, vout_e, i, g10, g11, g12, g13, g57, g58, g59, g60, g61, g62, g63, g64, g65, g66, g67, g68, g69, g70, g71, g72, g73, g74, g75, g76, g77, g78, g79, g80, g81, g82, g83, g84, g85, g86, g87, g88, g89, g90, g91, g92, g93, g94, g95, g96, g97, g98, g99, g100, g101, rfl, h0⟩, fun μ tm H h => by obtain ⟨t4_a, t4_n, t4_e, t5_5, vout_a, vout_n, vout_e, i, g10, g11, g12, g13, g57, g58, g59, g60, g61, g62, g63, g64, g65, g66, g67, g68, g69, g70, g71, g72, g73, g74, g75, g76, g77, g78, g79, g80, g81, g82, g83, g84, g85, g86, g87, g88, g89, g90, g91, g92, g93, g94, g95, g96, g97, g98, g99, g100, g101, rfl, hI⟩ := h; exact hs μ t4_a t4_n t4_e t5_5 vout_a vout_n vout_e i g10 g11 g12 g13 g57 g58 g59 g60 g61 g62 g63 g64 g65 g66 g67 g68 g69 g70 g71 g72 g73 g74 g75 g76 g77 g78 g79 g80 g81 g82 g83 g84 g85 g86 g87 g88 g89 g90 g91 g92 g93 g94 g95 g96 g97 g98 g99 g100 g101 H hI⟩
theorem impl_HullOf_n2 {b5 : Nat} {g28 : Value} {g29 : Value} {g30 : Value} {g31 : Value} {g32 : Value} {g33 : Value} {g34 : Value} {g35 : Value} {g36 : Value} {g37 : Value} {g38 : Value} {g39 : Value} {g40 : Value} {g41 : Value} {g42 : Value} {g43 : Value} {g44 : Value} {g45 : Value} {g46 : Value} {g47 : Value} {g48 : Value} {g49 : Value} {g50 : Value} {g51 : Value} {g52 : Value} {g53 : Value} {g54 : Value} {g55 : Value} {g6 : Value} {g7 : Value} {list_a : Option Addr} {list_e : Nat} {list_n : Nat} {misses_a : Option Addr} {misses_e : Nat} {misses_n : Nat} {r1 : Bool} {t27 : Int} {Q : Post} {Inv : Nat → (Option Addr) → Nat → Nat → Bool → (Option Addr) → Nat → Nat → Int → AHeap → Prop} {μ : Nat} (μ' : Nat) {t4_a : Option Addr} {t4_n : Nat} {t4_e : Nat} {t5_5 : Bool} {vout_a : Option Addr} {vout_n : Nat} {vout_e : Nat} {i : Int} {g10 g11 g12 g13 g57 g58 g59 g60 g61 g62 g63 g64 g65 g66 g67 g68 g69 g70 g71 g72 g73 g74 g75 g76 g77 g78 g79 g80 g81 g82 g83 g84 g85 g86 g87 g88 g89 g90 g91 g92 g93 g94 g95 g96 g97 g98 g99 g100 g101 : Value} {H : AHeap} (hm : μ' < μ) (hI : Inv μ' t4_a t4_n t4_e t5_5 vout_a vout_n vout_e i H) : loopQ (impl_HullOf_I2 b5 g28 g29 g30 g31 g32 g33 g34 g35 g36 g37 g38 g39 g40 g41 g42 g43 g44 g45 g46 g47 g48 g49 g50 g51 g52 g53 g54 g55 g6 g7 list_a list_e list_n misses_a misses_e misses_n r1 t27 Inv) μ Q .normal [.slice list_a list_n list_e, .slice misses_a misses_n misses_e, undef, undef, .slice t4_a t4_n t4_e, .bool t5_5, g6, g7, .slice vout_a vout_n vout_e, .int .i64 i, g10, g11, g12, g13, .slice list_a list_n list_e, .int .i64 (list_n : Int), .bool r1, .bool (!r1), .bool false, .slice misses_a misses_n misses_e, .int .i64 (misses_n : Int), .slice list_a list_n list_e, .int .i64 (list_n : Int), .bool (((misses_n : Int) : Int) != (list_n : Int)), .bool (((misses_n : Int) : Int) != (list_n : Int)), .slice list_a list_n list_e, .int .i64 (list_n : Int), .int .i64 t27, g28, g29, g30, g31, g32, g33, g34, g35, g36, g37, g38, g39, g40, g41, g42, g43, g44, g45, g46, g47, g48, g49, g50, g51, g52, g53, g54, g55, .slice (some ⟨b5, 0, none⟩) 1 1, g57, g58, g59, g60, g61, g62, g63, g64, g65, g66, g67, g68, g69, g70, g71, g72, g73, g74, g75, g76, g77, g78, g79, g80, g81, g82, g83, g84, g85, g86, g87, g88, g89, g90, g91, g92, g93, g94, g95, g96, g97, g98, g99, g100, g101] H := ⟨μ', hm, t4_a, t4_n, t4_e, t5_5, vout_a, vout_n, vout_e, i, g10, g11, g12, g13, g57, g58, g59, g60, g61, g62, g63, g64, g65, g66, g67, g68, g69, g70, g71, g72, g73, g74, g75, g76, g77, g78, g79, g80, g81, g82, g83, g84, g85, g86, g87, g88, g89, g90, g91, g92, g93, g94, g95, g96, g97, g98, g99, g100, g101, rfl, hI⟩
theorem impl_HullOf_x2_ret (b5 : Nat) (g28 : Value) (g29 : Value) (g30 : Value) (g31 : Value) (g32 : Value) (g33 : Value) (g34 : Value) (g35 : Value) (g36 : Value) (g37 : Value) (g38 : Value) (g39 : Value) (g40 : Value) (g41 : Value) (g42 : Value) (g43 : Value) (g44 : Value) (g45 : Value) (g46 : Value) (g47 : Value) (g48 : Value) (g49 : Value) (g50 : Value) (g51 : Value) (g52 : Value) (g53 : Value) (g54 : Value) (g55 : Value) (g6 : Value) (g7 : Value) (list_a : Option Addr) (list_e : Nat) (list_n : Nat) (misses_a : Option Addr) (misses_e : Nat) (misses_n : Nat) (r1 : Bool) (t27 : Int) (t4_a : Option Addr) (t4_n : Nat) (t4_e : Nat) (t5_5 : Bool) (vout_a : Option Addr) (vout_n : Nat) (vout_e : Nat) (i : Int) (g10 g11 g12 g13 g57 g58 g59 g60 g61 g62 g63 g64 g65 g66 g67 g68 g69 g70 g71 g72 g73 g74 g75 g76 g77 g78 g79 g80 g81 g82 g83 g84 g85 g86 g87 g88 g89 g90 g91 g92 g93 g94 g95 g96 g97 g98 g99 g100 g101 : Value) (H : AHeap) (K : Value → AHeap → Prop)  {I : Nat → List Value → AHeap → Prop} {μ : Nat} : loopQ I μ (blockQ 2 (retK Try.prog Try.f23 K)) .ret [.slice list_a list_n list_e, .slice misses_a misses_n misses_e, undef, undef, .slice t4_a t4_n t4_e, .bool t5_5, g6, g7, .slice vout_a vout_n vout_e, .int .i64 i, g10, g11, g12, g13, .slice list_a list_n list_e, .int .i64 (list_n : Int), .bool r1, .bool (!r1), .bool false, .slice misses_a misses_n misses_e, .int .i64 (misses_n : Int), .slice list_a list_n list_e, .int .i64 (list_n : Int), .bool (((misses_n : Int) : Int) != (list_n : Int)), .bool (((misses_n : Int) : Int) != (list_n : Int)), .slice list_a list_n list_e, .int .i64 (list_n : Int), .int .i64 t27, g28, g29, g30, g31, g32, g33, g34, g35, g36, g37, g38, g39, g40, g41, g42, g43, g44, g45, g46, g47, g48, g49, g50, g51, g52, g53, g54, g55, .slice (some ⟨b5, 0, none⟩) 1 1, g57, g58, g59, g60, g61, g62, g63, g64, g65, g66, g67, g68, g69, g70, g71, g72, g73, g74, g75, g76, g77, g78, g79, g80, g81, g82, g83, g84, g85, g86, g87, g88, g89, g90, g91, g92, g93, g94, g95, g96, g97, g98, g99, g100, g101] H =
  (K (.tuple #[.slice t4_a t4_n t4_e, .bool t5_5]) H) := by kernel_rfl
theorem impl_HullOf_r3 (b5 : Nat) (g100 : Value) (g101 : Value) (g28 : Value) (g29 : Value) (g30 : Value) (g31 : Value) (g32 : Value) (g33 : Value) (g34 : Value) (g35 : Value) (g36 : Value) (g37 : Value) (g38 : Value) (g39 : Value) (g40 : Value) (g41 : Value) (g42 : Value) (g43 : Value) (g44 : Value) (g45 : Value) (g46 : Value) (g47 : Value) (g48 : Value) (g49 : Value) (g50 : Value) (g51 : Value) (g52 : Value) (g53 : Value) (g54 : Value) (g55 : Value) (g6 : Value) (g7 : Value) (g94 : Value) (g95 : Value) (g96 : Value) (g97 : Value) (g98 : Value) (g99 : Value) (i : Int) (list_a : Option Addr) (list_e : Nat) (list_n : Nat) (misses_a : Option Addr) (misses_e : Nat) (misses_n : Nat) (r1 : Bool) (t27 : Int) (t4_a : Option Addr) (t4_e : Nat) (t4_n : Nat) (t5_5 : Bool) (vout_a : Option Addr) (vout_e : Nat) (vout_n : Nat) (z3_58 : Int) (next : Int) (best : Nat) (k : Int) (g13 g59 g60 g61 g62 g63 g64 g65 g66 g67 g68 g69 g70 g71 g72 g73 g74 g75 g76 g77 g78 g79 g80 g81 g82 g83 g84 g85 g86 g87 g88 g89 g90 g91 g92 g93 : Value) (H : AHeap) (R : Post) : exK Try.prog E_impl_HullOf (cl (cl (cr (cl (cr (cl (cl (cl (cr (cr (cr (cr (bodyC Try.f23))))))))))))) [.slice list_a list_n list_e, .slice misses_a misses_n misses_e, undef, undef, .slice t4_a t4_n t4_e, .bool t5_5, g6, g7, .slice vout_a vout_n vout_e, .int .i64 i, .int .i64 next, .float .f32 best, .int .i64 k, g13, .slice list_a list_n list_e, .int .i64 (list_n : Int), .bool r1, .bool (!r1), .bool false, .slice misses_a misses_n misses_e, .int .i64 (misses_n : Int), .slice list_a list_n list_e, .int .i64 (list_n : Int), .bool (((misses_n : Int) : Int) != (list_n : Int)), .bool (((misses_n : Int) : Int) != (list_n : Int)), .slice list_a list_n list_e, .int .i64 (list_n : Int), .int .i64 t27, g28, g29, g30, g31, g32, g33, g34, g35, g36, g37, g38, g39, g40, g41, g42, g43, g44, g45, g46, g47, g48, g49, g50, g51, g52, g53, g54, g55, .slice (some ⟨b5, 0, none⟩) 1 1, .int .i64 i, .int .i64 z3_58, g59, g60, g61, g62, g63, g64, g65, g66, g67, g68, g69, g70, g71, g72, g73, g74, g75, g76, g77, g78, g79, g80, g81, g82, g83, g84, g85, g86, g87, g88, g89, g90, g91, g92, g93, g94, g95, g96, g97, g98, g99, g100, g101] H R =
  (Br (decide ((k : Int) < (list_n : Int))) ((0 : Int) ≤ i ∧ i < (misses_n : Int) ∧ ∃ b6 f5, (misses_a : Option Addr) = some ⟨b6, f5, none⟩ ∧ ∃ x5 : Nat,  rdC H b6 (f5 + (i : Int).toNat * 1) = some (.float .f32 x5) ∧ (0 : Int) ≤ k ∧ k < (misses_n : Int) ∧ ∃ b7 f6, (misses_a : Option Addr) = some ⟨b7, f6, none⟩ ∧ ∃ x6 : Nat,  rdC H b7 (f6 + (k : Int).toNat * 1) = some (.float .f32 x6) ∧ (0 : Int) ≤ k ∧ k < (list_n : Int) ∧ ∃ b8 f7, (list_a : Option Addr) = some ⟨b8, f7, none⟩ ∧ ∃ x7 : Int,  rdC H b8 (f7 + (k : Int).toNat * 1) = some (.int .i64 x7) ∧ (0 : Int) ≤ i ∧ i < (list_n : Int) ∧ ∃ b9 f8, (list_a : Option Addr) = some ⟨b9, f8, none⟩ ∧ ∃ x8 : Int,  rdC H b9 (f8 + (i : Int).toNat * 1) = some (.int .i64 x8) ∧ Br (flt .f32 0 (fdiv .f32 (fsub .f32 x5 x6) (FloatKind.nearest .f32 (IntKind.wrap .i64 (x7 - x8))))) (Br (fle .f32 best (fdiv .f32 (fsub .f32 x5 x6) (FloatKind.nearest .f32 (IntKind.wrap .i64 (x7 - x8))))) (R .normal [.slice list_a list_n list_e, .slice misses_a misses_n misses_e, undef, undef, .slice t4_a t4_n t4_e, .bool t5_5, g6, g7, .slice vout_a vout_n vout_e, .int .i64 i, .int .i64 k, .float .f32 (fdiv .f32 (fsub .f32 x5 x6) (FloatKind.nearest .f32 (IntKind.wrap .i64 (x7 - x8)))), .int .i64 (IntKind.wrap .i64 (k + 1)), .float .f32 (fdiv .f32 (fsub .f32 x5 x6) (FloatKind.nearest .f32 (IntKind.wrap .i64 (x7 - x8)))), .slice list_a list_n list_e, .int .i64 (list_n : Int), .bool r1, .bool (!r1), .bool false, .slice misses_a misses_n misses_e, .int .i64 (misses_n : Int), .slice list_a list_n list_e, .int .i64 (list_n : Int), .bool (((misses_n : Int) : Int) != (list_n : Int)), .bool (((misses_n : Int) : Int) != (list_n : Int)), .slice list_a list_n list_e, .int .i64 (list_n : Int), .int .i64 t27, g28, g29, g30, g31, g32, g33, g34, g35, g36, g37, g38, g39, g40, g41, g42, g43, g44, g45, g46, g47, g48, g49, g50, g51, g52, g53, g54, g55, .slice (some ⟨b5, 0, none⟩) 1 1, .int .i64 i, .int .i64 z3_58, .int .i64 k, .slice list_a list_n list_e, .int .i64 (list_n : Int), .bool (decide ((k : Int) < (list_n : Int))), .int .i64 k, .int .i64 (IntKind.wrap .i64 (k + 1)), .slice misses_a misses_n misses_e, .int .i64 i, .pointer (some ⟨b6, f5 + (i : Int).toNat * 1, none⟩), .float .f32 x5, .slice misses_a misses_n misses_e, .int .i64 k, .pointer (some ⟨b7, f6 + (k : Int).toNat * 1, none⟩), .float .f32 x6, .float .f32 (fsub .f32 x5 x6), .slice list_a list_n list_e, .int .i64 k, .pointer (some ⟨b8, f7 + (k : Int).toNat * 1, none⟩), .int .i64 x7, .slice list_a list_n list_e, .int .i64 i, .pointer (some ⟨b9, f8 + (i : Int).toNat * 1, none⟩), .int .i64 x8, .int .i64 (IntKind.wrap .i64 (x7 - x8)), .float .f32 (FloatKind.nearest .f32 (IntKind.wrap .i64 (x7 - x8))), .float .f32 (fdiv .f32 (fsub .f32 x5 x6) (FloatKind.nearest .f32 (IntKind.wrap .i64 (x7 - x8)))), .float .f32 (fdiv .f32 (fsub .f32 x5 x6) (FloatKind.nearest .f32 (IntKind.wrap .i64 (x7 - x8)))), .bool (flt .f32 0 (fdiv .f32 (fsub .f32 x5 x6) (FloatKind.nearest .f32 (IntKind.wrap .i64 (x7 - x8))))), .bool true, .float .f32 (fdiv .f32 (fsub .f32 x5 x6) (FloatKind.nearest .f32 (IntKind.wrap .i64 (x7 - x8)))), .float .f32 best, .bool (fle .f32 best (fdiv .f32 (fsub .f32 x5 x6) (FloatKind.nearest .f32 (IntKind.wrap .i64 (x7 - x8))))), .bool (fle .f32 best (fdiv .f32 (fsub .f32 x5 x6) (FloatKind.nearest .f32 (IntKind.wrap .i64 (x7 - x8))))), .int .i64 k, .float .f32 (fdiv .f32 (fsub .f32 x5 x6) (FloatKind.nearest .f32 (IntKind.wrap .i64 (x7 - x8)))), g94, g95, g96, g97, g98, g99, g100, g101] H) (R .normal [.slice list_a list_n list_e, .slice misses_a misses_n misses_e, undef, undef, .slice t4_a t4_n t4_e, .bool t5_5, g6, g7, .slice vout_a vout_n vout_e, .int .i64 i, .int .i64 next, .float .f32 best, .int .i64 (IntKind.wrap .i64 (k + 1)), .float .f32 (fdiv .f32 (fsub .f32 x5 x6) (FloatKind.nearest .f32 (IntKind.wrap .i64 (x7 - x8)))), .slice list_a list_n list_e, .int .i64 (list_n : Int), .bool r1, .bool (!r1), .bool false, .slice misses_a misses_n misses_e, .int .i64 (misses_n : Int), .slice list_a list_n list_e, .int .i64 (list_n : Int), .bool (((misses_n : Int) : Int) != (list_n : Int)), .bool (((misses_n : Int) : Int) != (list_n : Int)), .slice list_a list_n list_e, .int .i64 (list_n : Int), .int .i64 t27, g28, g29, g30, g31, g32, g33, g34, g35, g36, g37, g38, g39, g40, g41, g42, g43, g44, g45, g46, g47, g48, g49, g50, g51, g52, g53, g54, g55, .slice (some ⟨b5, 0, none⟩) 1 1, .int .i64 i, .int .i64 z3_58, .int .i64 k, .slice list_a list_n list_e, .int .i64 (list_n : Int), .bool (decide ((k : Int) < (list_n : Int))), .int .i64 k, .int .i64 (IntKind.wrap .i64 (k + 1)), .slice misses_a misses_n misses_e, .int .i64 i, .pointer (some ⟨b6, f5 + (i : Int).toNat * 1, none⟩), .float .f32 x5, .slice misses_a misses_n misses_e, .int .i64 k, .pointer (some ⟨b7, f6 + (k : Int).toNat * 1, none⟩), .float .f32 x6, .float .f32 (fsub .f32 x5 x6), .slice list_a list_n list_e, .int .i64 k, .pointer (some ⟨b8, f7 + (k : Int).toNat * 1, none⟩), .int .i64 x7, .slice list_a list_n list_e, .int .i64 i, .pointer (some ⟨b9, f8 + (i : Int).toNat * 1, none⟩), .int .i64 x8, .int .i64 (IntKind.wrap .i64 (x7 - x8)), .float .f32 (FloatKind.nearest .f32 (IntKind.wrap .i64 (x7 - x8))), .float .f32 (fdiv .f32 (fsub .f32 x5 x6) (FloatKind.nearest .f32 (IntKind.wrap .i64 (x7 - x8)))), .float .f32 (fdiv .f32 (fsub .f32 x5 x6) (FloatKind.nearest .f32 (IntKind.wrap .i64 (x7 - x8)))), .bool (flt .f32 0 (fdiv .f32 (fsub .f32 x5 x6) (FloatKind.nearest .f32 (IntKind.wrap .i64 (x7 - x8))))), .bool true, .float .f32 (fdiv .f32 (fsub .f32 x5 x6) (FloatKind.nearest .f32 (IntKind.wrap .i64 (x7 - x8)))), .float .f32 best, .bool (fle .f32 best (fdiv .f32 (fsub .f32 x5 x6) (FloatKind.nearest .f32 (IntKind.wrap .i64 (x7 - x8))))), .bool (fle .f32 best (fdiv .f32 (fsub .f32 x5 x6) (FloatKind.nearest .f32 (IntKind.wrap .i64 (x7 - x8))))), g92, g93, g94, g95, g96, g97, g98, g99, g100, g101] H)) (R .normal [.slice list_a list_n list_e, .slice misses_a misses_n misses_e, undef, undef, .slice t4_a t4_n t4_e, .bool t5_5, g6, g7, .slice vout_a vout_n vout_e, .int .i64 i, .int .i64 next, .float .f32 best, .int .i64 (IntKind.wrap .i64 (k + 1)), .float .f32 (fdiv .f32 (fsub .f32 x5 x6) (FloatKind.nearest .f32 (IntKind.wrap .i64 (x7 - x8)))), .slice list_a list_n list_e, .int .i64 (list_n : Int), .bool r1, .bool (!r1), .bool false, .slice misses_a misses_n misses_e, .int .i64 (misses_n : Int), .slice list_a list_n list_e, .int .i64 (list_n : Int), .bool (((misses_n : Int) : Int) != (list_n : Int)), .bool (((misses_n : Int) : Int) != (list_n : Int)), .slice list_a list_n list_e, .int .i64 (list_n : Int), .int .i64 t27, g28, g29, g30, g31, g32, g33, g34, g35, g36, g37, g38, g39, g40, g41, g42, g43, g44, g45, g46, g47, g48, g49, g50, g51, g52, g53, g54, g55, .slice (some ⟨b5, 0, none⟩) 1 1, .int .i64 i, .int .i64 z3_58, .int .i64 k, .slice list_a list_n list_e, .int .i64 (list_n : Int), .bool (decide ((k : Int) < (list_n : Int))), .int .i64 k, .int .i64 (IntKind.wrap .i64 (k + 1)), .slice misses_a misses_n misses_e, .int .i64 i, .pointer (some ⟨b6, f5 + (i : Int).toNat * 1, none⟩), .float .f32 x5, .slice misses_a misses_n misses_e, .int .i64 k, .pointer (some ⟨b7, f6 + (k : Int).toNat * 1, none⟩), .float .f32 x6, .float .f32 (fsub .f32 x5 x6), .slice list_a list_n list_e, .int .i64 k, .pointer (some ⟨b8, f7 + (k : Int).toNat * 1, none⟩), .int .i64 x7, .slice list_a list_n list_e, .int .i64 i, .pointer (some ⟨b9, f8 + (i : Int).toNat * 1, none⟩), .int .i64 x8, .int .i64 (IntKind.wrap .i64 (x7 - x8)), .float .f32 (FloatKind.nearest .f32 (IntKind.wrap .i64 (x7 - x8))), .float .f32 (fdiv .f32 (fsub .f32 x5 x6) (FloatKind.nearest .f32 (IntKind.wrap .i64 (x7 - x8)))), .float .f32 (fdiv .f32 (fsub .f32 x5 x6) (FloatKind.nearest .f32 (IntKind.wrap .i64 (x7 - x8)))), .bool (flt .f32 0 (fdiv .f32 (fsub .f32 x5 x6) (FloatKind.nearest .f32 (IntKind.wrap .i64 (x7 - x8))))), .bool false, undef, undef, undef, .bool false, g92, g93, g94, g95, g96, g97, g98, g99, g100, g101] H)) (R (.exit 4) [.slice list_a list_n list_e, .slice misses_a misses_n misses_e, undef, undef, .slice t4_a t4_n t4_e, .bool t5_5, g6, g7, .slice vout_a vout_n vout_e, .int .i64 i, .int .i64 next, .float .f32 best, .int .i64 k, g13, .slice list_a list_n list_e, .int .i64 (list_n : Int), .bool r1, .bool (!r1), .bool false, .slice misses_a misses_n misses_e, .int .i64 (misses_n : Int), .slice list_a list_n list_e, .int .i64 (list_n : Int), .bool (((misses_n : Int) : Int) != (list_n : Int)), .bool (((misses_n : Int) : Int) != (list_n : Int)), .slice list_a list_n list_e, .int .i64 (list_n : Int), .int .i64 t27, g28, g29, g30, g31, g32, g33, g34, g35, g36, g37, g38, g39, g40, g41, g42, g43, g44, g45, g46, g47, g48, g49, g50, g51, g52, g53, g54, g55, .slice (some ⟨b5, 0, none⟩) 1 1, .int .i64 i, .int .i64 z3_58, .int .i64 k, .slice list_a list_n list_e, .int .i64 (list_n : Int), .bool (decide ((k : Int) < (list_n : Int))), g63, g64, g65, g66, g67, g68, g69, g70, g71, g72, g73, g74, g75, g76, g77, g78, g79, g80, g81, g82, g83, g84, g85, g86, g87, g88, g89, g90, g91, g92, g93, g94, g95, g96, g97, g98, g99, g100, g101] H)) := by kernel_rfl
def impl_HullOf_I3 (b5 : Nat) (g100 : Value) (g101 : Value) (g28 : Value) (g29 : Value) (g30 : Value) (g31 : Value) (g32 : Value) (g33 : Value) (g34 : Value) (g35 : Value) (g36 : Value) (g37 : Value) (g38 : Value) (g39 : Value) (g40 : Value) (g41 : Value) (g42 : Value) (g43 : Value) (g44 : Value) (g45 : Value) (g46 : Value) (g47 : Value) (g48 : Value) (g49 : Value) (g50 : Value) (g51 : Value) (g52 : Value) (g53 : Value) (g54 : Value) (g55 : Value) (g6 : Value) (g7 : Value) (g94 : Value) (g95 : Value) (g96 : Value) (g97 : Value) (g98 : Value) (g99 : Value) (i : Int) (list_a : Option Addr) (list_e : Nat) (list_n : Nat) (misses_a : Option Addr) (misses_e : Nat) (misses_n : Nat) (r1 : Bool) (t27 : Int) (t4_a : Option Addr) (t4_e : Nat) (t4_n : Nat) (t5_5 : Bool) (vout_a : Option Addr) (vout_e : Nat) (vout_n : Nat) (z3_58 : Int) (Inv : Nat → Int → Nat → Int → AHeap → Prop) : Nat → List Value → AHeap → Prop := fun μ tm H => ∃ (next : Int), ∃ (best : Nat), ∃ (k : Int), ∃ g13 g59 g60 g61 g62 g63 g64 g65 g66 g67 g68 g69 g70 g71 g72 g73 g74 g75 g76 g77 g78 g79 g80 g81 g82 g83 g84 g85 g86 g87 g88 g89 g90 g91 g92 g93, tm = [.slice list_a list_n list_e, .slice misses_a misses_n misses_e, undef, undef, .slice t4_a t4_n t4_e, .bool t5_5, g6, g7, .slice vout_a vout_n vout_e, .int .i64 i, .int .i64 next, .float .f32 best, .int .i64 k, g13, .slice list_a list_n list_e, .int .i64 (list_n : Int), .bool r1, .bool (!r1), .bool false, .slice misses_a misses_n misses_e, .int .i64 (misses_n : Int), .slice list_a list_n list_e, .int .i64 (list_n : Int), .bool (((misses_n : Int) : Int) != (list_n : Int)), .bool (((misses_n : Int) : Int) != (list_n : Int)), .slice list_a list_n list_e, .int .i64 (list_n : Int), .int .i64 t27, g28, g29, g30, g31, g32, g33, g34, g35, g36, g37, g38, g39, g40, g41, g42, g43, g44, g45, g46, g47, g48, g49, g50, g51, g52, g53, g54, g55, .slice (some ⟨b5, 0, none⟩) 1 1, .int .i64 i, .int .i64 z3_58, g59, g60, g61, g62, g63, g64, g65, g66, g67, g68, g69, g70, g71, g72, g73, g74, g75, g76, g77, g78, g79, g80, g81, g82, g83, g84, g85, g86, g87, g88, g89, g90, g91, g92, g93, g94, g95, g96, g97, g98, g99, g100, g101] ∧ Inv μ next best k H
theorem impl_HullOf_L3 (b5 : Nat) (g100 : Value) (g101 : Value) (g28 : Value) (g29 : Value) (g30 : Value) (g31 : Value) (g32 : Value) (g33 : Value) (g34 : Value) (g35 : Value) (g36 : Value) (g37 : Value) (g38 : Value) (g39 : Value) (g40 : Value) (g41 : Value) (g42 : Value) (g43 : Value) (g44 : Value) (g45 : Value) (g46 : Value) (g47 : Value) (g48 : Value) (g49 : Value) (g50 : Value) (g51 : Value) (g52 : Value) (g53 : Value) (g54 : Value) (g55 : Value) (g6 : Value) (g7 : Value) (g94 : Value) (g95 : Value) (g96 : Value) (g97 : Value) (g98 : Value) (g99 : Value) (i : Int) (list_a : Option Addr) (list_e : Nat) (list_n : Nat) (misses_a : Option Addr) (misses_e : Nat) (misses_n : Nat) (r1 : Bool) (t27 : Int) (t4_a : Option Addr) (t4_e : Nat) (t4_n : Nat) (t5_5 : Bool) (vout_a : Option Addr) (vout_e : Nat) (vout_n : Nat) (z3_58 : Int) {Q : Post} (Inv : Nat → Int → Nat → Int → AHeap → Prop) (ν : Nat) (next : Int) (best : Nat) (k : Int) (g13 g59 g60 g61 g62 g63 g64 g65 g66 g67 g68 g69 g70 g71 g72 g73 g74 g75 g76 g77 g78 g79 g80 g81 g82 g83 g84 g85 g86 g87 g88 g89 g90 g91 g92 g93 : Value) (H : AHeap) (h0 : Inv ν next best k H)
    (hs : ∀ (μ : Nat) (next : Int) (best : Nat) (k : Int) (g13 g59 g60 g61 g62 g63 g64 g65 g66 g67 g68 g69 g70 g71 g72 g73 g74 g75 g76 g77 g78 g79 g80 g81 g82 g83 g84 g85 g86 g87 g88 g89 g90 g91 g92 g93 : Value) (H : AHeap), Inv μ next best k H → exK Try.prog E_impl_HullOf (cl (cl (cr (cl (cr (cl (cl (cl (cr (cr (cr (cr (bodyC Try.f23))))))))))))) [.slice list_a list_n list_e, .slice misses_a misses_n misses_e, undef, undef, .slice t4_a t4_n t4_e, .bool t5_5, g6, g7, .slice vout_a vout_n vout_e, .int .i64 i, .int .i64 next, .float .f32 best, .int .i64 k, g13, .slice list_a list_n list_e, .int .i64 (list_n : Int), .bool r1, .bool (!r1), .bool false, .slice misses_a misses_n misses_e, .int .i64 (misses_n : Int), .slice list_a list_n list_e, .int .i64 (list_n : Int), .bool (((misses_n : Int) : Int) != (list_n : Int)), .bool (((misses_n : Int) : Int) != (list_n : Int)), .slice list_a list_n list_e, .int .i64 (list_n : Int), .int .i64 t27, g28, g29, g30, g31, g32, g33, g34, g35, g36, g37, g38, g39, g40, g41, g42, g43, g44, g45, g46, g47, g48, g49, g50, g51, g52, g53, g54, g55, .slice (some ⟨b5, 0, none⟩) 1 1, .int .i64 i, .int .i64 z3_58, g59, g60, g61, g62, g63, g64, g65, g66, g67, g68, g69, g70, g71, g72, g73, g74, g75, g76, g77, g78, g79, g80, g81, g82, g83, g84, g85, g86, g87, g88, g89, g90, g91, g92, g93, g94, g95, g96, g97, g98, g99, g100, g101] H (loopQ (impl_HullOf_I3 b5 g100 g101 g28 g29 g30 g31 g32 g33 g34 g35 g36 g37 g38 g39 g40 g41 g42 g43 g44 g45 g46 g47 g48 g49 g50 g51 g52 g53 g54 g55 g6 g7 g94 g95 g96 g97 g98 g99 i list_a list_e list_n misses_a misses_e misses_n r1 t27 t4_a t4_e t4_n t5_5 vout_a vout_e vout_n z3_58 Inv) μ Q)) : loopK (exK Try.prog E_impl_HullOf (cl (cl (cr (cl (cr (cl (cl (cl (cr (cr (cr (cr (bodyC Try.f23)))))))))))))) [.slice list_a list_n list_e, .slice misses_a misses_n misses_e, undef, undef, .slice t4_a t4_n t4_e, .bool t5_5, g6, g7, .slice vout_a vout_n vout_e, .int .i64 i, .int .i64 next, .float .f32 best, .int .i64 k, g13, .slice list_a list_n list_e, .int .i64 (list_n : Int), .bool r1, .bool (!r1), .bool false, .slice misses_a misses_n misses_e, .int .i64 (misses_n : Int), .slice list_a list_n list_e, .int .i64 (list_n : Int), .bool (((misses_n : Int) : Int) != (list_n : Int)), .bool (((misses_n : Int) : Int) != (list_n : Int)), .slice list_a list_n list_e, .int .i64 (list_n : Int), .int .i64 t27, g28, g29, g30, g31, g32, g33, g34, g35, g36, g37, g38, g39, g40, g41, g42, g43, g44, g45, g46, g47, g48, g49, g50, g51, g52, g53, g54, g55, .slice (some ⟨b5, 0, none⟩) 1 1, .int .i64 i, .int .i64 z3_58, g59, g60, g61, g62, g63, g64, g65, g66, g67, g68, g69, g70, g71, g72, g73, g74, g75, g76, g77, g78, g79, g80, g81, g82, g83, g84, g85, g86, g87, g88, g89, g90, g91, g92, g93, g94, g95, g96, g97, g98, g99, g100, g101] H Q :=
  ⟨impl_HullOf_I3 b5 g100 g101 g28 g29 g30 g31 g32 g33 g34 g35 g36 g37 g38 g39 g40 g41 g42 g43 g44 g45 g46 g47 g48 g49 g50 g51 g52 g53 g54 g55 g6 g7 g94 g95 g96 g97 g98 g99 i list_a list_e list_n misses_a misses_e misses_n r1 t27 t4_a t4_e t4_n t5_5 vout_a vout_e vout_n z3_58 Inv, ν, ⟨next, best, k, g13, g59, g60, g61, g62, g63, g64, g65, g66, g67, g68, g69, g70, g71, g72, g73, g74, g75, g76, g77, g78, g79, g80, g81, g82, g83, g84, g85, g86, g87, g88, g89, g90, g91, g92, g93, rfl, h0⟩, fun μ tm H h => by obtain ⟨next, best, k, g13, g59, g60, g61, g62, g63, g64, g65, g66, g67, g68, g69, g70, g71, g72, g73, g74, g75, g76, g77, g78, g79, g80, g81, g82, g83, g84, g85, g86, g87, g88, g89, g90, g91, g92, g93, rfl, hI⟩ := h; exact hs μ next best k g13 g59 g60 g61 g62 g63 g64 g65 g66 g67 g68 g69 g70 g71 g72 g73 g74 g75 g76 g77 g78 g79 g80 g81 g82 g83 g84 g85 g86 g87 g88 g89 g90 g91 g92 g93 H hI⟩
theorem impl_HullOf_n3 {b5 : Nat} {g100 : Value} {g101 : Value} {g28 : Value} {g29 : Value} {g30 : Value} {g31 : Value} {g32 : Value} {g33 : Value} {g34 : Value} {g35 : Value} {g36 : Value} {g37 : Value} {g38 : Value} {g39 : Value} {g40 : Value} {g41 : Value} {g42 : Value} {g43 : Value} {g44 : Value} {g45 : Value} {g46 : Value} {g47 : Value} {g48 : Value} {g49 : Value} {g50 : Value} {g51 : Value} {g52 : Value} {g53 : Value} {g54 : Value} {g55 : Value} {g6 : Value} {g7 : Value} {g94 : Value} {g95 : Value} {g96 : Value} {g97 : Value} {g98 : Value} {g99 : Value} {i : Int} {list_a : Option Addr} {list_e : Nat} {list_n : Nat} {misses_a : Option Addr} {misses_e : Nat} {misses_n : Nat} {r1 : Bool} {t27 : Int} {t4_a : Option Addr} {t4_e : Nat} {t4_n : Nat} {t5_5 : Bool} {vout_a : Option Addr} {vout_e : Nat} {vout_n : Nat} {z3_58 : Int} {Q : Post} {Inv : Nat → Int → Nat → Int → AHeap → Prop} {μ : Nat} (μ' : Nat) {next : Int} {best : Nat} {k : Int} {g13 g59 g60 g61 g62 g63 g64 g65 g66 g67 g68 g69 g70 g71 g72 g73 g74 g75 g76 g77 g78 g79 g80 g81 g82 g83 g84 g85 g86 g87 g88 g89 g90 g91 g92 g93 : Value} {H : AHeap} (hm : μ' < μ) (hI : Inv μ' next best k H) : loopQ (impl_HullOf_I3 b5 g100 g101 g28 g29 g30 g31 g32 g33 g34 g35 g36 g37 g38 g39 g40 g41 g42 g43 g44 g45 g46 g47 g48 g49 g50 g51 g52 g53 g54 g55 g6 g7 g94 g95 g96 g97 g98 g99 i list_a list_e list_n misses_a misses_e misses_n r1 t27 t4_a t4_e t4_n t5_5 vout_a vout_e vout_n z3_58 Inv) μ Q .normal [.slice list_a list_n list_e, .slice misses_a misses_n misses_e, undef, undef, .slice t4_a t4_n t4_e, .bool t5_5, g6, g7, .slice vout_a vout_n vout_e, .int .i64 i, .int .i64 next, .float .f32 best, .int .i64 k, g13, .slice list_a list_n list_e, .int .i64 (list_n : Int), .bool r1, .bool (!r1), .bool false, .slice misses_a misses_n misses_e, .int .i64 (misses_n : Int), .slice list_a list_n list_e, .int .i64 (list_n : Int), .bool (((misses_n : Int) : Int) != (list_n : Int)), .bool (((misses_n : Int) : Int) != (list_n : Int)), .slice list_a list_n list_e, .int .i64 (list_n : Int), .int .i64 t27, g28, g29, g30, g31, g32, g33, g34, g35, g36, g37, g38, g39, g40, g41, g42, g43, g44, g45, g46, g47, g48, g49, g50, g51, g52, g53, g54, g55, .slice (some ⟨b5, 0, none⟩) 1 1, .int .i64 i, .int .i64 z3_58, g59, g60, g61, g62, g63, g64, g65, g66, g67, g68, g69, g70, g71, g72, g73, g74, g75, g76, g77, g78, g79, g80, g81, g82, g83, g84, g85, g86, g87, g88, g89, g90, g91, g92, g93, g94, g95, g96, g97, g98, g99, g100, g101] H := ⟨μ', hm, next, best, k, g13, g59, g60, g61, g62, g63, g64, g65, g66, g67, g68, g69, g70, g71, g72, g73, g74, g75, g76, g77, g78, g79, g80, g81, g82, g83, g84, g85, g86, g87, g88, g89, g90, g91, g92, g93, rfl, hI⟩
theorem impl_HullOf_x3_4 (b5 : Nat) (g100 : Value) (g101 : Value) (g28 : Value) (g29 : Value) (g30 : Value) (g31 : Value) (g32 : Value) (g33 : Value) (g34 : Value) (g35 : Value) (g36 : Value) (g37 : Value) (g38 : Value) (g39 : Value) (g40 : Value) (g41 : Value) (g42 : Value) (g43 : Value) (g44 : Value) (g45 : Value) (g46 : Value) (g47 : Value) (g48 : Value) (g49 : Value) (g50 : Value) (g51 : Value) (g52 : Value) (g53 : Value) (g54 : Value) (g55 : Value) (g6 : Value) (g7 : Value) (g94 : Value) (g95 : Value) (g96 : Value) (g97 : Value) (g98 : Value) (g99 : Value) (i : Int) (list_a : Option Addr) (list_e : Nat) (list_n : Nat) (misses_a : Option Addr) (misses_e : Nat) (misses_n : Nat) (r1 : Bool) (t27 : Int) (t4_a : Option Addr) (t4_e : Nat) (t4_n : Nat) (t5_5 : Bool) (vout_a : Option Addr) (vout_e : Nat) (vout_n : Nat) (z3_58 : Int) (next : Int) (best : Nat) (k : Int) (g13 g59 g60 g61 g62 g63 g64 g65 g66 g67 g68 g69 g70 g71 g72 g73 g74 g75 g76 g77 g78 g79 g80 g81 g82 g83 g84 g85 g86 g87 g88 g89 g90 g91 g92 g93 : Value) (H : AHeap)  (R : Post) {I : Nat → List Value → AHeap → Prop} {μ : Nat} : loopQ I μ (blockQ 4 (seqQ (exK Try.prog E_impl_HullOf (cr (cr (cl (cl (cl (cr (cr (cr (cr (bodyC Try.f23))))))))))) (blockQ 3 (R)))) (.exit 4) [.slice list_a list_n list_e, .slice misses_a misses_n misses_e, undef, undef, .slice t4_a t4_n t4_e, .bool t5_5, g6, g7, .slice vout_a vout_n vout_e, .int .i64 i, .int .i64 next, .float .f32 best, .int .i64 k, g13, .slice list_a list_n list_e, .int .i64 (list_n : Int), .bool r1, .bool (!r1), .bool false, .slice misses_a misses_n misses_e, .int .i64 (misses_n : Int), .slice list_a list_n list_e, .int .i64 (list_n : Int), .bool (((misses_n : Int) : Int) != (list_n : Int)), .bool (((misses_n : Int) : Int) != (list_n : Int)), .slice list_a list_n list_e, .int .i64 (list_n : Int), .int .i64 t27, g28, g29, g30, g31, g32, g33, g34, g35, g36, g37, g38, g39, g40, g41, g42, g43, g44, g45, g46, g47, g48, g49, g50, g51, g52, g53, g54, g55, .slice (some ⟨b5, 0, none⟩) 1 1, .int .i64 i, .int .i64 z3_58, g59, g60, g61, g62, g63, g64, g65, g66, g67, g68, g69, g70, g71, g72, g73, g74, g75, g76, g77, g78, g79, g80, g81, g82, g83, g84, g85, g86, g87, g88, g89, g90, g91, g92, g93, g94, g95, g96, g97, g98, g99, g100, g101] H =
  (Br (decide ((next : Int) < 0)) (R .ret [.slice list_a list_n list_e, .slice misses_a misses_n misses_e, undef, undef, .slice vout_a vout_n vout_e, .bool true, g6, g7, .slice vout_a vout_n vout_e, .int .i64 i, .int .i64 next, .float .f32 best, .int .i64 k, g13, .slice list_a list_n list_e, .int .i64 (list_n : Int), .bool r1, .bool (!r1), .bool false, .slice misses_a misses_n misses_e, .int .i64 (misses_n : Int), .slice list_a list_n list_e, .int .i64 (list_n : Int), .bool (((misses_n : Int) : Int) != (list_n : Int)), .bool (((misses_n : Int) : Int) != (list_n : Int)), .slice list_a list_n list_e, .int .i64 (list_n : Int), .int .i64 t27, g28, g29, g30, g31, g32, g33, g34, g35, g36, g37, g38, g39, g40, g41, g42, g43, g44, g45, g46, g47, g48, g49, g50, g51, g52, g53, g54, g55, .slice (some ⟨b5, 0, none⟩) 1 1, .int .i64 i, .int .i64 z3_58, g59, g60, g61, g62, g63, g64, g65, g66, g67, g68, g69, g70, g71, g72, g73, g74, g75, g76, g77, g78, g79, g80, g81, g82, g83, g84, g85, g86, g87, g88, g89, g90, g91, g92, g93, .int .i64 next, .bool (decide ((next : Int) < 0)), .slice vout_a vout_n vout_e, g97, g98, g99, g100, g101] H) (Al [.int .i64 next] H fun b10 H5 => ∃ o1 w1 : List Value, ownB H5 vout_a vout_n vout_e 1 = some o1 ∧ rdS H5 (some ⟨b10, 0, none⟩) (1 * 1) = some w1 ∧ ((vout_a : Option Addr) = none → 0 < (1 : Nat)) ∧ (vout_n : Nat) + 1 < most ∧ Ap H5 (killB H5 vout_a ++ [some ⟨o1 ++ w1, true⟩]) fun b11 H6 => R .normal [.slice list_a list_n list_e, .slice misses_a misses_n misses_e, undef, undef, .slice t4_a t4_n t4_e, .bool t5_5, g6, g7, .slice (some ⟨b11, 0, none⟩) (vout_n + 1) 1, .int .i64 next, .int .i64 next, .float .f32 best, .int .i64 k, g13, .slice list_a list_n list_e, .int .i64 (list_n : Int), .bool r1, .bool (!r1), .bool false, .slice misses_a misses_n misses_e, .int .i64 (misses_n : Int), .slice list_a list_n list_e, .int .i64 (list_n : Int), .bool (((misses_n : Int) : Int) != (list_n : Int)), .bool (((misses_n : Int) : Int) != (list_n : Int)), .slice list_a list_n list_e, .int .i64 (list_n : Int), .int .i64 t27, g28, g29, g30, g31, g32, g33, g34, g35, g36, g37, g38, g39, g40, g41, g42, g43, g44, g45, g46, g47, g48, g49, g50, g51, g52, g53, g54, g55, .slice (some ⟨b5, 0, none⟩) 1 1, .int .i64 i, .int .i64 z3_58, g59, g60, g61, g62, g63, g64, g65, g66, g67, g68, g69, g70, g71, g72, g73, g74, g75, g76, g77, g78, g79, g80, g81, g82, g83, g84, g85, g86, g87, g88, g89, g90, g91, g92, g93, .int .i64 next, .bool (decide ((next : Int) < 0)), g96, .int .i64 next, .slice vout_a vout_n vout_e, .int .i64 next, .slice (some ⟨b10, 0, none⟩) 1 1, .slice (some ⟨b11, 0, none⟩) (vout_n + 1) 1] H6)) := by kernel_rfl
theorem E_impl_HullOf_ok : ∀ g, FnOk Try.prog g (E_impl_HullOf g) := FnOk.envOf (by
  intro x hx
  simp only [List.mem_cons, List.not_mem_nil, or_false] at hx
  rcases hx with rfl | rfl
  · exact impl_within_ok
  · exact impl_isLeast_ok)
set_option maxHeartbeats 1000000 in
theorem impl_HullOf_main (list_a : Option Addr) (list_n : Nat) (list_e : Nat) (misses_a : Option Addr) (misses_n : Nat) (misses_e : Nat) (H : AHeap) (K : Value → AHeap → Prop) (h : T_impl_HullOf list_a list_n list_e misses_a misses_n misses_e H fun (r1_a : Option Addr) (r1_n : Nat) (r1_e : Nat) (r2 : Bool) (H' : AHeap) => K (.tuple #[.slice r1_a r1_n r1_e, .bool r2]) H') : bodyK Try.prog E_impl_HullOf Try.f23 [.slice list_a list_n list_e, .slice misses_a misses_n misses_e] H K := by
  rw [impl_HullOf_vc]
  obtain ⟨l_list, l_misses, i_list, i_misses, bd_92, bd_93, hk⟩ := h
  obtain rfl := i_list.eqn
  obtain rfl := i_misses.eqn
  have e : (p_impl_HullOf l_list l_misses) = _ := rfl
  have e := e.trans (p_impl_HullOf_eq l_list l_misses)
  have g0 := Grow.refl H
  refine T_impl_within_i ?_
  refine Br.intro (fun c_1 => ?_) (fun c_1 => ?_)
  · have e := e.trans (cond_t c_1)
    have c_1n := nf_of_t c_1
    rw [e] at hk
    exact hk _ _ _ H g0 (OwnS.nil _ _ _ _)
  · have e := e.trans (cond_f c_1)
    have c_1n := nt_of_f c_1
    have c_1n' := impl_within_t c_1n
    refine Br.intro (fun c_2 => ?_) (fun c_2 => ?_)
    · have e := e.trans (cond_t c_2)
      have c_2' := ine_t c_2
      rw [e] at hk
      exact hk _ _ _ H g0 (OwnS.nil _ _ _ _)
    · have e := e.trans (cond_f c_2)
      have c_2' := ine_f c_2
      refine impl_HullOf_L1 _ _ _ _ _ _ _ (fun (μ : Nat) (t4_a : Option Addr) (t4_n : Nat) (t4_e : Nat) (t5 : Bool) (t27 : Int) (H_1 : AHeap) => t4_a = none ∧ t4_n = 0 ∧ t4_e = 0 ∧ Grow H H_1 ∧ (0 : Int) ≤ t27 ∧ t27 ≤ (l_list.length : Int) ∧ (l_list.length : Int) - t27 ≤ (μ : Int) ∧ p_impl_HullOf l_list l_misses = p_impl_HullOf_l1 l_list l_misses (μ + 1) t5 t27) (Int.toNat ((l_list.length : Int) - (0 : Int))) _ _ _ _ _ _ _ _ _ _ _ _ _ _ _ _ _ _ _ _ _ _ _ _ _ _ _ _ _ _ _ _ _ _ _ H ?_ ?_
      · exact ⟨rfl, rfl, rfl, g0, (by first | omega | (simp; done) | (simp; omega)), (by first | omega | (simp; done) | (simp; omega)), (by omega), e⟩
      · intro μ t4_a t4_n t4_e t5 t27 g6 g7 g28 g29 g30 g31 g32 g33 g34 g35 g36 g37 g38 g39 g40 g41 g42 g43 g44 g45 g46 g47 g48 g49 g50 g51 g52 g53 g54 g55 H_1 hI
        obtain ⟨rfl, rfl, rfl, g_3, v_4, v_5, hμ, e⟩ := hI
        rw [impl_HullOf_r1]
        have e := e.trans (p_impl_HullOf_l1_s l_list l_misses μ t5 t27)
        have l_6 := g_3.1
        refine Br.intro (fun c_7 => ?_) (fun c_7 => ?_)
        · have e := e.trans (cond_t c_7)
          have c_7' := of_decide_eq_true c_7
          obtain ⟨b_8, f_9, q_10⟩ := ((i_list.grow g_3)).pos (by first | omega | (simp only [List.length_set, List.length_replicate, List.length_append, List.length_cons, List.length_nil, List.length_take, List.length_drop, marks_length]; done) | (simp only [List.length_set, List.length_replicate, List.length_append, List.length_cons, List.length_nil, List.length_take, List.length_drop, marks_length]; omega))
          refine ⟨by omega, by omega, b_8, f_9, q_10, ?_⟩
          refine ⟨((l_list).getD (t27 : Int).toNat 0), (i_list).rd g_3 q_10 (by omega) _, ?_⟩
          refine Br.intro (fun c_11 => ?_) (fun c_11 => ?_)
          · have e := e.trans (cond_t c_11)
            have c_11' := of_decide_eq_true c_11
            rw [impl_HullOf_x1_ret]
            rw [e] at hk
            exact hk _ _ _ H_1 g_3 (OwnS.nil _ _ _ _)
          · have e := e.trans (cond_f c_11)
            have c_11' := of_decide_eq_false c_11
            refine Br.intro (fun c_12 => ?_) (fun c_12 => ?_)
            · have e := e.trans (cond_t c_12)
              have c_12' := of_decide_eq_true c_12
              rw [show IntKind.wrap .i64 (t27 - 1) = (t27 - 1) from wrap64 (by omega) (by omega)]
              obtain ⟨b_13, f_14, q_15⟩ := ((i_list.grow g_3)).pos (by first | omega | (simp only [List.length_set, List.length_replicate, List.length_append, List.length_cons, List.length_nil, List.length_take, List.length_drop, marks_length]; done) | (simp only [List.length_set, List.length_replicate, List.length_append, List.length_cons, List.length_nil, List.length_take, List.length_drop, marks_length]; omega))
              refine ⟨by omega, by omega, b_13, f_14, q_15, ?_⟩
              refine ⟨((l_list).getD ((t27 - 1) : Int).toNat 0), (i_list).rd g_3 q_15 (by omega) _, ?_⟩
              refine Br.intro (fun c_16 => ?_) (fun c_16 => ?_)
              · have e := e.trans (cond_t c_16)
                have c_16' := of_decide_eq_true c_16
                rw [impl_HullOf_x1_ret]
                rw [e] at hk
                exact hk _ _ _ H_1 g_3 (OwnS.nil _ _ _ _)
              · have e := e.trans (cond_f c_16)
                have c_16' := of_decide_eq_false c_16
                obtain ⟨b_17, f_18, q_19⟩ := ((i_misses.grow g_3)).pos (by first | omega | (simp only [List.length_set, List.length_replicate, List.length_append, List.length_cons, List.length_nil, List.length_take, List.length_drop, marks_length]; done) | (simp only [List.length_set, List.length_replicate, List.length_append, List.length_cons, List.length_nil, List.length_take, List.length_drop, marks_length]; omega))
                refine ⟨by omega, by omega, b_17, f_18, q_19, ?_⟩
                refine ⟨((l_misses).getD (t27 : Int).toNat 0), (i_misses).rd g_3 q_19 (by omega) _, ?_⟩
                refine T_impl_isLeast_i ?_
                refine Br.intro (fun c_20 => ?_) (fun c_20 => ?_)
                · have e := e.trans (cond_t c_20)
                  have c_20n := nf_of_t c_20
                  rw [impl_HullOf_x1_ret]
                  rw [e] at hk
                  exact hk _ _ _ H_1 g_3 (OwnS.nil _ _ _ _)
                · have e := e.trans (cond_f c_20)
                  have c_20n := nt_of_f c_20
                  rw [show IntKind.wrap .i64 (t27 + 1) = (t27 + 1) from wrap64 (by omega) (by omega)]
                  refine impl_HullOf_n1 (μ - 1) (by omega) ⟨rfl, rfl, rfl, g_3, (by first | omega | (simp only [List.length_append, List.length_cons, List.length_nil, List.length_set]; done) | (simp only [List.length_append, List.length_cons, List.length_nil, List.length_set]; omega)), (by first | omega | (simp only [List.length_append, List.length_cons, List.length_nil, List.length_set]; done) | (simp only [List.length_append, List.length_cons, List.length_nil, List.length_set]; omega)), (by omega), (by rw [show μ - 1 + 1 = μ from by omega]; exact e)⟩
            · have e := e.trans (cond_f c_12)
              have c_12' := of_decide_eq_false c_12
              obtain ⟨b_21, f_22, q_23⟩ := ((i_misses.grow g_3)).pos (by first | omega | (simp only [List.length_set, List.length_replicate, List.length_append, List.length_cons, List.length_nil, List.length_take, List.length_drop, marks_length]; done) | (simp only [List.length_set, List.length_replicate, List.length_append, List.length_cons, List.length_nil, List.length_take, List.length_drop, marks_length]; omega))
              refine ⟨by omega, by omega, b_21, f_22, q_23, ?_⟩
              refine ⟨((l_misses).getD (t27 : Int).toNat 0), (i_misses).rd g_3 q_23 (by omega) _, ?_⟩
              refine T_impl_isLeast_i ?_
              refine Br.intro (fun c_24 => ?_) (fun c_24 => ?_)
              · have e := e.trans (cond_t c_24)
                have c_24n := nf_of_t c_24
                rw [impl_HullOf_x1_ret]
                rw [e] at hk
                exact hk _ _ _ H_1 g_3 (OwnS.nil _ _ _ _)
              · have e := e.trans (cond_f c_24)
                have c_24n := nt_of_f c_24
                rw [show IntKind.wrap .i64 (t27 + 1) = (t27 + 1) from wrap64 (by omega) (by omega)]
                refine impl_HullOf_n1 (μ - 1) (by omega) ⟨rfl, rfl, rfl, g_3, (by first | omega | (simp only [List.length_append, List.length_cons, List.length_nil, List.length_set]; done) | (simp only [List.length_append, List.length_cons, List.length_nil, List.length_set]; omega)), (by first | omega | (simp only [List.length_append, List.length_cons, List.length_nil, List.length_set]; done) | (simp only [List.length_append, List.length_cons, List.length_nil, List.length_set]; omega)), (by omega), (by rw [show μ - 1 + 1 = μ from by omega]; exact e)⟩
        · have e := e.trans (cond_f c_7)
          have c_7' := of_decide_eq_false c_7
          rw [impl_HullOf_x1_0]
          refine Al.intro (fun b_25 H_2 hb_26 hl_27 g_28 o_29 => ?_)
          have o_29 : Own H_2 b_25 (([(0 : Int)]).map fI) := o_29
          have l_31 := g_28.1
          have g_32 := g_3.trans g_28
          have l_33 := g_32.1
          have w_91 := o_29.lt
          refine impl_HullOf_L2 _ _ _ _ _ _ _ _ _ _ _ _ _ _ _ _ _ _ _ _ _ _ _ _ _ _ _ _ _ _ _ _ _ _ _ _ _ _ _ (fun (μ2 : Nat) (t4_a : Option Addr) (t4_n : Nat) (t4_e : Nat) (t5_5 : Bool) (vout_a : Option Addr) (vout_n : Nat) (vout_e : Nat) (i : Int) (H_3 : AHeap) => ∃ (l_vout : List Int), ∃ (b_34 : Nat), t4_a = none ∧ t4_n = 0 ∧ t4_e = 0 ∧ vout_a = some ⟨b_34, 0, none⟩ ∧ vout_n = l_vout.length ∧ vout_e = 1 ∧ Own H_3 b_34 (l_vout.map fI) ∧ Grow H H_3 ∧ H.length ≤ b_34 ∧ 0 ≤ i ∧ i < (l_list.length : Int) ∧ (l_vout.length : Int) ≤ i + 1 ∧ (l_list.length : Int) - i ≤ (μ2 : Int) ∧ p_impl_HullOf l_list l_misses = p_impl_HullOf_l2 l_list l_misses t5 t27  (μ2 + 1) t5_5 l_vout i) (Int.toNat ((l_list.length : Int) - (0 : Int))) _ _ _ _ _ _ _ _ _ _ _ _ _ _ _ _ _ _ _ _ _ _ _ _ _ _ _ _ _ _ _ _ _ _ _ _ _ _ _ _ _ _ _ _ _ _ _ _ _ _ _ _ _ _ _ _ _ H_2 ?_ ?_
          · exact ⟨_, _, rfl, rfl, rfl, rfl, (by first | rfl | omega | (simp only [List.length_set]; done) | (simp only [List.length_set, List.length_replicate]; omega)), rfl, o_29, g_32, (by omega), (by first | omega | (simp; done) | (simp; omega)), (by first | omega | (simp; done) | (simp; omega)), (by first | omega | (simp; done) | (simp; omega)), (by omega), e⟩
          · intro μ2 t4_a t4_n t4_e t5_5 vout_a vout_n vout_e i g10 g11 g12 g13 g57 g58 g59 g60 g61 g62 g63 g64 g65 g66 g67 g68 g69 g70 g71 g72 g73 g74 g75 g76 g77 g78 g79 g80 g81 g82 g83 g84 g85 g86 g87 g88 g89 g90 g91 g92 g93 g94 g95 g96 g97 g98 g99 g100 g101 H_3 hI
            obtain ⟨l_vout, b_34, rfl, rfl, rfl, rfl, rfl, rfl, o_35, g_36, l_37, v_38, v_39, v_40, hμ, e⟩ := hI
            rw [impl_HullOf_r2]
            have e := e.trans (p_impl_HullOf_l2_s l_list l_misses t5 t27 μ2 t5_5 l_vout i)
            have w_41 := o_35.lt
            have l_42 := g_36.1
            rw [show IntKind.wrap .i64 (i + 1) = (i + 1) from wrap64 (by omega) (by omega)]
            refine impl_HullOf_L3 _ _ _ _ _ _ _ _ _ _ _ _ _ _ _ _ _ _ _ _ _ _ _ _ _ _ _ _ _ _ _ _ _ _ _ _ _ _ _ _ _ _ _ _ _ _ _ _ _ _ _ _ _ _ _ _ (fun (μ3 : Nat) (next : Int) (best : Nat) (k : Int) (H_4 : AHeap) => ∃ (y3_1 : List Int), Own H_4 b_34 (y3_1.map fI) ∧ y3_1.length = l_vout.length ∧ Grow H H_4 ∧ (i + 1) ≤ k ∧ ((k ≤ (l_list.length : Int) ∨ k ≤ (i + 1))) ∧ (next < 0 ∨ (i < next ∧ next < k)) ∧ (l_list.length : Int) - k ≤ (μ3 : Int) ∧ p_impl_HullOf l_list l_misses = p_impl_HullOf_l3 l_list l_misses t5 t27 t5_5 l_vout i (fun (next : Int) (best : Nat) (k : Int) (y3_1 : List Int) => (bif decide ((next : Int) < 0) then (y3_1, true) else (p_impl_HullOf_l2 l_list l_misses t5 t27 μ2 t5_5 ((y3_1 ++ [(next : Int)])) next))) (μ3 + 1) next best k y3_1) (Int.toNat ((l_list.length : Int) - (i + 1))) _ _ _ _ _ _ _ _ _ _ _ _ _ _ _ _ _ _ _ _ _ _ _ _ _ _ _ _ _ _ _ _ _ _ _ _ _ _ _ H_3 ?_ ?_
            · exact ⟨_, o_35, (by first | rfl | (simp; done)), g_36, (by first | omega | (simp; done) | (simp; omega)), (by first | omega | (simp; done) | (simp; omega)), (by first | omega | (simp; done) | (simp; omega)), (by omega), e⟩
            · intro μ3 next best k g13 g59 g60 g61 g62 g63 g64 g65 g66 g67 g68 g69 g70 g71 g72 g73 g74 g75 g76 g77 g78 g79 g80 g81 g82 g83 g84 g85 g86 g87 g88 g89 g90 g91 g92 g93 H_4 hI
              obtain ⟨y3_1, o_43, y_44, g_45, v_46, v_47, v_48, hμ, e⟩ := hI
              rw [impl_HullOf_r3]
              have e := e.trans (p_impl_HullOf_l3_s l_list l_misses t5 t27 t5_5 l_vout i (fun (next : Int) (best : Nat) (k : Int) (y3_1 : List Int) => (bif decide ((next : Int) < 0) then (y3_1, true) else (p_impl_HullOf_l2 l_list l_misses t5 t27 μ2 t5_5 ((y3_1 ++ [(next : Int)])) next))) μ3 next best k y3_1)
              have w_49 := o_43.lt
              have l_50 := g_45.1
              refine Br.intro (fun c_51 => ?_) (fun c_51 => ?_)
              · have e := e.trans (cond_t c_51)
                have c_51' := of_decide_eq_true c_51
                obtain ⟨b_52, f_53, q_54⟩ := ((i_misses.grow g_45)).pos (by first | omega | (simp only [List.length_set, List.length_replicate, List.length_append, List.length_cons, List.length_nil, List.length_take, List.length_drop, marks_length]; done) | (simp only [List.length_set, List.length_replicate, List.length_append, List.length_cons, List.length_nil, List.length_take, List.length_drop, marks_length]; omega))
                refine ⟨by omega, by omega, b_52, f_53, q_54, ?_⟩
                refine ⟨((l_misses).getD (i : Int).toNat 0), (i_misses).rd g_45 q_54 (by omega) _, ?_⟩
                obtain ⟨b_55, f_56, q_57⟩ := ((i_misses.grow g_45)).pos (by first | omega | (simp only [List.length_set, List.length_replicate, List.length_append, List.length_cons, List.length_nil, List.length_take, List.length_drop, marks_length]; done) | (simp only [List.length_set, List.length_replicate, List.length_append, List.length_cons, List.length_nil, List.length_take, List.length_drop, marks_length]; omega))
                refine ⟨by omega, by omega, b_55, f_56, q_57, ?_⟩
                refine ⟨((l_misses).getD (k : Int).toNat 0), (i_misses).rd g_45 q_57 (by omega) _, ?_⟩
                obtain ⟨b_58, f_59, q_60⟩ := ((i_list.grow g_45)).pos (by first | omega | (simp only [List.length_set, List.length_replicate, List.length_append, List.length_cons, List.length_nil, List.length_take, List.length_drop, marks_length]; done) | (simp only [List.length_set, List.length_replicate, List.length_append, List.length_cons, List.length_nil, List.length_take, List.length_drop, marks_length]; omega))
                refine ⟨by omega, by omega, b_58, f_59, q_60, ?_⟩
                refine ⟨((l_list).getD (k : Int).toNat 0), (i_list).rd g_45 q_60 (by omega) _, ?_⟩
                obtain ⟨b_61, f_62, q_63⟩ := ((i_list.grow g_45)).pos (by first | omega | (simp only [List.length_set, List.length_replicate, List.length_append, List.length_cons, List.length_nil, List.length_take, List.length_drop, marks_length]; done) | (simp only [List.length_set, List.length_replicate, List.length_append, List.length_cons, List.length_nil, List.length_take, List.length_drop, marks_length]; omega))
                refine ⟨by omega, by omega, b_61, f_62, q_63, ?_⟩
                refine ⟨((l_list).getD (i : Int).toNat 0), (i_list).rd g_45 q_63 (by omega) _, ?_⟩
                refine Br.intro (fun c_64 => ?_) (fun c_64 => ?_)
                · have e := e.trans (cond_t c_64)
                  refine Br.intro (fun c_65 => ?_) (fun c_65 => ?_)
                  · have e := e.trans (cond_t c_65)
                    rw [show IntKind.wrap .i64 (k + 1) = (k + 1) from wrap64 (by omega) (by omega)]
                    refine impl_HullOf_n3 (μ3 - 1) (by omega) ⟨_, o_43, (by first | assumption | omega | (simp only [List.length_set]; first | rfl | assumption | omega)), g_45, (by first | omega | (simp only [List.length_append, List.length_cons, List.length_nil, List.length_set]; done) | (simp only [List.length_append, List.length_cons, List.length_nil, List.length_set]; omega)), (by first | omega | (simp only [List.length_append, List.length_cons, List.length_nil, List.length_set]; done) | (simp only [List.length_append, List.length_cons, List.length_nil, List.length_set]; omega)), (by first | omega | (simp only [List.length_append, List.length_cons, List.length_nil, List.length_set]; done) | (simp only [List.length_append, List.length_cons, List.length_nil, List.length_set]; omega)), (by omega), (by rw [show μ3 - 1 + 1 = μ3 from by omega]; exact e)⟩
                  · have e := e.trans (cond_f c_65)
                    rw [show IntKind.wrap .i64 (k + 1) = (k + 1) from wrap64 (by omega) (by omega)]
                    refine impl_HullOf_n3 (μ3 - 1) (by omega) ⟨_, o_43, (by first | assumption | omega | (simp only [List.length_set]; first | rfl | assumption | omega)), g_45, (by first | omega | (simp only [List.length_append, List.length_cons, List.length_nil, List.length_set]; done) | (simp only [List.length_append, List.length_cons, List.length_nil, List.length_set]; omega)), (by first | omega | (simp only [List.length_append, List.length_cons, List.length_nil, List.length_set]; done) | (simp only [List.length_append, List.length_cons, List.length_nil, List.length_set]; omega)), (by first | omega | (simp only [List.length_append, List.length_cons, List.length_nil, List.length_set]; done) | (simp only [List.length_append, List.length_cons, List.length_nil, List.length_set]; omega)), (by omega), (by rw [show μ3 - 1 + 1 = μ3 from by omega]; exact e)⟩
                · have e := e.trans (cond_f c_64)
                  rw [show IntKind.wrap .i64 (k + 1) = (k + 1) from wrap64 (by omega) (by omega)]
                  refine impl_HullOf_n3 (μ3 - 1) (by omega) ⟨_, o_43, (by first | assumption | omega | (simp only [List.length_set]; first | rfl | assumption | omega)), g_45, (by first | omega | (simp only [List.length_append, List.length_cons, List.length_nil, List.length_set]; done) | (simp only [List.length_append, List.length_cons, List.length_nil, List.length_set]; omega)), (by first | omega | (simp only [List.length_append, List.length_cons, List.length_nil, List.length_set]; done) | (simp only [List.length_append, List.length_cons, List.length_nil, List.length_set]; omega)), (by first | omega | (simp only [List.length_append, List.length_cons, List.length_nil, List.length_set]; done) | (simp only [List.length_append, List.length_cons, List.length_nil, List.length_set]; omega)), (by omega), (by rw [show μ3 - 1 + 1 = μ3 from by omega]; exact e)⟩
              · have e := e.trans (cond_f c_51)
                have c_51' := of_decide_eq_false c_51
                rw [impl_HullOf_x3_4]
                refine Br.intro (fun c_66 => ?_) (fun c_66 => ?_)
                · have e := e.trans (cond_t c_66)
                  have c_66' := of_decide_eq_true c_66
                  rw [impl_HullOf_x2_ret]
                  rw [e] at hk
                  exact hk _ _ _ H_4 g_45 (o_43.ownS (by first | rfl | omega | (simp only [List.length_set]; done) | (simp only [List.length_set, List.length_replicate]; omega)) (by omega))
                · have e := e.trans (cond_f c_66)
                  have c_66' := of_decide_eq_false c_66
                  refine Al.intro (fun b_67 H_5 hb_68 hl_69 g_70 o_71 => ?_)
                  have o_71 : Own H_5 b_67 (([(next : Int)]).map fI) := o_71
                  have l_73 := g_70.1
                  have g_74 := g_45.trans g_70
                  have l_75 := g_74.1
                  have o_76 := o_43.grow g_70
                  have w_77 := o_76.lt
                  have w_90 := o_71.lt
                  refine ⟨_, _, o_76.ownB (by first | (simp only [List.length_map, List.length_cons, List.length_nil, List.length_append]; done) | (simp only [List.length_map, List.length_cons, List.length_nil, List.length_append]; omega)) rfl, (isl_rdS (o_71.isL (by first | rfl | omega | (simp only [List.length_set]; done) | (simp only [List.length_set, List.length_replicate]; omega)))), (fun h => by cases h), (by have := most_eq; omega), ?_⟩
                  refine Ap.app o_76 rfl rfl (fun b_82 H_6 q_88 hl_78 o_79 k_80 => ?_)
                  have o_79 := map_snoc o_79
                  have l_83 := k_80.1
                  have g_84 := g_74.keep (b := b_34) (by omega) k_80
                  have l_85 := g_84.1
                  have o_86 := o_71.keep (by omega) k_80
                  have w_87 := o_86.lt
                  have w_89 := o_79.lt
                  refine impl_HullOf_n2 (μ2 - 1) (by omega) ⟨_, _, rfl, rfl, rfl, rfl, (by first | (simp only [List.length_append, List.length_cons, List.length_nil]; done) | (simp only [List.length_append, List.length_cons, List.length_nil]; omega)), rfl, o_79, g_84, (by omega), (by first | omega | (simp only [List.length_append, List.length_cons, List.length_nil, List.length_set]; done) | (simp only [List.length_append, List.length_cons, List.length_nil, List.length_set]; omega)), (by first | omega | (simp only [List.length_append, List.length_cons, List.length_nil, List.length_set]; done) | (simp only [List.length_append, List.length_cons, List.length_nil, List.length_set]; omega)), (by first | omega | (simp only [List.length_append, List.length_cons, List.length_nil, List.length_set]; done) | (simp only [List.length_append, List.length_cons, List.length_nil, List.length_set]; omega)), (by omega), (by rw [show μ2 - 1 + 1 = μ2 from by omega]; exact e)⟩
theorem impl_HullOf_ok : FnOk Try.prog 23 S_impl_HullOf := by
  refine FnOk.body mix_ok E_impl_HullOf_ok Try.func23 rfl (by kernel_rfl) (by kernel_rfl) ?_ ?_ ?_ ?_ ?_
  · intro args H K K' h hk
    simp only [S_impl_HullOf] at *
    unfold F_impl_HullOf at *
    split at hk
    · obtain ⟨l_list, l_misses, i_list, i_misses, bd_92, bd_93, k⟩ := hk
      exact ⟨l_list, l_misses, i_list, i_misses, bd_92, bd_93, (fun r1_a r1_n r1_e H' gg ow0 => h _ _ (k r1_a r1_n r1_e H' gg ow0))⟩
    · exact hk.elim
  · intro hq; cases hq
  · intro args H K hk
    simp only [S_impl_HullOf] at *
    unfold F_impl_HullOf at *
    split at hk
    · obtain ⟨l_list, l_misses, i_list, i_misses, bd_92, bd_93, k⟩ := hk
      exact liveS fun a n e H1 g o => ⟨_, _, k a n e H1 g o⟩
    · exact hk.elim
  · intro _ args H K hk
    simp only [S_impl_HullOf] at *
    unfold F_impl_HullOf at *
    split at hk
    · obtain ⟨l_list, l_misses, i_list, i_misses, bd_92, bd_93, k⟩ := hk
      exact ⟨l_list, l_misses, i_list, i_misses, bd_92, bd_93, (fun r1_a r1_n r1_e H' gg ow0 => ⟨gg, k r1_a r1_n r1_e H' gg ow0⟩)⟩
    · exact hk.elim
  · have mm := @impl_HullOf_main
    revert mm
    generalize bodyK Try.prog E_impl_HullOf Try.f23 = Q
    intro mm args H K hk
    simp only [S_impl_HullOf] at *
    unfold F_impl_HullOf at *
    split at hk
    · exact mm _ _ _ _ _ _ H K hk
    · exact hk.elim
def p_impl_LastOfHull (l_list : List Int) (l_misses : List Nat) : Int × Bool := (bif !((p_impl_HullOf l_list l_misses).2) then ((0 : Int), false) else ((((p_impl_HullOf l_list l_misses).1).getD ((((((p_impl_HullOf l_list l_misses).1).length : Int)) - 1) : Int).toNat 0), true))
theorem p_impl_LastOfHull_eq (l_list : List Int) (l_misses : List Nat) : p_impl_LastOfHull l_list l_misses = (bif !((p_impl_HullOf l_list l_misses).2) then ((0 : Int), false) else ((((p_impl_HullOf l_list l_misses).1).getD ((((((p_impl_HullOf l_list l_misses).1).length : Int)) - 1) : Int).toNat 0), true)) := rfl
def T_impl_LastOfHull (list_a : Option Addr) (list_n : Nat) (list_e : Nat) (misses_a : Option Addr) (misses_n : Nat) (misses_e : Nat) (H : AHeap) (K : Int → Bool → AHeap → Prop) : Prop := ∃ (l_list : List Int), ∃ (l_misses : List Nat), IsL fI H list_a list_n l_list ∧ IsL fF H misses_a misses_n l_misses ∧ l_list.length < 1073741824 ∧ l_misses.length < 1073741824 ∧ ((∀ H' : AHeap, Grow H H' → K ((p_impl_LastOfHull l_list l_misses).1) ((p_impl_LastOfHull l_list l_misses).2) H'))
theorem T_impl_LastOfHull_i {list_a : Option Addr} {list_n : Nat} {list_e : Nat} {misses_a : Option Addr} {misses_n : Nat} {misses_e : Nat} {H : AHeap} {K : Int → Bool → AHeap → Prop} (h : ∃ (l_list : List Int), ∃ (l_misses : List Nat), IsL fI H list_a list_n l_list ∧ IsL fF H misses_a misses_n l_misses ∧ l_list.length < 1073741824 ∧ l_misses.length < 1073741824 ∧ ((∀ H' : AHeap, Grow H H' → K ((p_impl_LastOfHull l_list l_misses).1) ((p_impl_LastOfHull l_list l_misses).2) H'))) : T_impl_LastOfHull list_a list_n list_e misses_a misses_n misses_e H K := h

/-! impl_LastOfHull: function 27 -/
def E_impl_LastOfHull : Env := envOf [(23, S_impl_HullOf)]
def F_impl_LastOfHull : List Value → AHeap → (Value → AHeap → Prop) → Prop
  | [.slice list_a list_n list_e, .slice misses_a misses_n misses_e], H, K => T_impl_LastOfHull list_a list_n list_e misses_a misses_n misses_e H fun (r1 : Int) (r2 : Bool) (H' : AHeap) => K (.tuple #[.int .i64 r1, .bool r2]) H'
  | _, _, _ => False
def S_impl_LastOfHull : FSpec := { F := F_impl_LastOfHull, quiet := false, tame := true }
theorem impl_LastOfHull_vc (list_a : Option Addr) (list_n : Nat) (list_e : Nat) (misses_a : Option Addr) (misses_n : Nat) (misses_e : Nat) (H : AHeap) (K : Value → AHeap → Prop) : bodyK Try.prog E_impl_LastOfHull Try.f27 [.slice list_a list_n list_e, .slice misses_a misses_n misses_e] H K =
  (T_impl_HullOf list_a list_n list_e misses_a misses_n misses_e H fun (a1 : Option Addr) (r1 : Nat) (r2 : Nat) (r3 : Bool) (H1 : AHeap) => Br (!r3) (K (.tuple #[.int .i64 0, .bool false]) H1) ((0 : Int) ≤ IntKind.wrap .i64 ((r1 : Int) - 1) ∧ IntKind.wrap .i64 ((r1 : Int) - 1) < (r1 : Int) ∧ ∃ b1 f1, (a1 : Option Addr) = some ⟨b1, f1, none⟩ ∧ ∃ x1 : Int,  rdC H1 b1 (f1 + (IntKind.wrap .i64 ((r1 : Int) - 1) : Int).toNat * 1) = some (.int .i64 x1) ∧ K (.tuple #[.int .i64 x1, .bool true]) H1)) := by kernel_rfl
theorem E_impl_LastOfHull_ok : ∀ g, FnOk Try.prog g (E_impl_LastOfHull g) := FnOk.envOf (by
  intro x hx
  simp only [List.mem_cons, List.not_mem_nil, or_false] at hx
  subst hx; exact impl_HullOf_ok)
set_option maxHeartbeats 1000000 in
theorem impl_LastOfHull_main (list_a : Option Addr) (list_n : Nat) (list_e : Nat) (misses_a : Option Addr) (misses_n : Nat) (misses_e : Nat) (H : AHeap) (K : Value → AHeap → Prop) (h : T_impl_LastOfHull list_a list_n list_e misses_a misses_n misses_e H fun (r1 : Int) (r2 : Bool) (H' : AHeap) => K (.tuple #[.int .i64 r1, .bool r2]) H') : bodyK Try.prog E_impl_LastOfHull Try.f27 [.slice list_a list_n list_e, .slice misses_a misses_n misses_e] H K := by
  rw [impl_LastOfHull_vc]
  obtain ⟨l_list, l_misses, i_list, i_misses, bd_17, bd_18, hk⟩ := h
  obtain rfl := i_list.eqn
  obtain rfl := i_misses.eqn
  have e : (p_impl_LastOfHull l_list l_misses) = _ := rfl
  have e := e.trans (p_impl_LastOfHull_eq l_list l_misses)
  have g0 := Grow.refl H
  refine T_impl_HullOf_i ⟨_, _, (i_list.grow g0), (i_misses.grow g0), (by first | omega | (simp only [List.length_set, List.length_replicate, List.length_append, List.length_cons, List.length_nil, List.length_take, List.length_drop, marks_length]; done) | (simp only [List.length_set, List.length_replicate, List.length_append, List.length_cons, List.length_nil, List.length_take, List.length_drop, marks_length]; omega)), (by first | omega | (simp only [List.length_set, List.length_replicate, List.length_append, List.length_cons, List.length_nil, List.length_take, List.length_drop, marks_length]; done) | (simp only [List.length_set, List.length_replicate, List.length_append, List.length_cons, List.length_nil, List.length_take, List.length_drop, marks_length]; omega)), fun a_1 n_2 e_3 H_1 g_6 r_4 => ?_⟩
  have z_5 := impl_HullOf_len l_list l_misses
  have l_7 := g_6.1
  have g_8 := g0.trans g_6
  have l_9 := g_8.1
  obtain rfl := r_4.isL.eqn
  have u_10 := r_4.up
  have u_11 := r_4.lo
  refine Br.intro (fun c_13 => ?_) (fun c_13 => ?_)
  · have e := e.trans (cond_t c_13)
    have c_13n := nf_of_t c_13
    rw [e] at hk
    exact hk  H_1 g_8 
  · have e := e.trans (cond_f c_13)
    have c_13n := nt_of_f c_13
    have c_13n' := impl_HullOf_t c_13n
    rw [show IntKind.wrap .i64 (((((p_impl_HullOf l_list l_misses).1).length : Int)) - 1) = (((((p_impl_HullOf l_list l_misses).1).length : Int)) - 1) from wrap64 (by omega) (by omega)]
    obtain ⟨b_14, f_15, q_16⟩ := (r_4.isL).pos (by first | omega | (simp only [List.length_set, List.length_replicate, List.length_append, List.length_cons, List.length_nil, List.length_take, List.length_drop, marks_length]; done) | (simp only [List.length_set, List.length_replicate, List.length_append, List.length_cons, List.length_nil, List.length_take, List.length_drop, marks_length]; omega))
    refine ⟨by omega, by omega, b_14, f_15, q_16, ?_⟩
    refine ⟨(((p_impl_HullOf l_list l_misses).1).getD ((((((p_impl_HullOf l_list l_misses).1).length : Int)) - 1) : Int).toNat 0), (r_4.isL).rd (Grow.refl _) q_16 (by omega) _, ?_⟩
    rw [e] at hk
    exact hk  H_1 g_8 
theorem impl_LastOfHull_ok : FnOk Try.prog 27 S_impl_LastOfHull := by
  refine FnOk.body mix_ok E_impl_LastOfHull_ok Try.func27 rfl (by kernel_rfl) (by kernel_rfl) ?_ ?_ ?_ ?_ ?_
  · intro args H K K' h hk
    simp only [S_impl_LastOfHull] at *
    unfold F_impl_LastOfHull at *
    split at hk
    · obtain ⟨l_list, l_misses, i_list, i_misses, bd_17, bd_18, k⟩ := hk
      exact ⟨l_list, l_misses, i_list, i_misses, bd_17, bd_18, (fun  H' gg  => h _ _ (k  H' gg ))⟩
    · exact hk.elim
  · intro hq; cases hq
  · intro args H K hk
    simp only [S_impl_LastOfHull] at *
    unfold F_impl_LastOfHull at *
    split at hk
    · obtain ⟨l_list, l_misses, i_list, i_misses, bd_17, bd_18, k⟩ := hk
      exact ⟨_, _, k H (Grow.refl H)⟩
    · exact hk.elim
  · intro _ args H K hk
    simp only [S_impl_LastOfHull] at *
    unfold F_impl_LastOfHull at *
    split at hk
    · obtain ⟨l_list, l_misses, i_list, i_misses, bd_17, bd_18, k⟩ := hk
      exact ⟨l_list, l_misses, i_list, i_misses, bd_17, bd_18, (fun  H' gg  => ⟨gg, k  H' gg ⟩)⟩
    · exact hk.elim
  · have mm := @impl_LastOfHull_main
    revert mm
    generalize bodyK Try.prog E_impl_LastOfHull Try.f27 = Q
    intro mm args H K hk
    simp only [S_impl_LastOfHull] at *
    unfold F_impl_LastOfHull at *
    split at hk
    · exact mm _ _ _ _ _ _ H K hk
    · exact hk.elim
def p_laws_eqInt64S_l1 (l_a : List Int) (l_b : List Int) : Nat → Bool → Int → Bool
  | 0, _, _ => false
  | μ + 1, t4, i => (bif decide ((i : Int) < (l_a.length : Int)) then (bif (((l_a).getD (i : Int).toNat 0) : Int) != ((l_b).getD (i : Int).toNat 0) then false else (p_laws_eqInt64S_l1 l_a l_b μ t4 (i + 1))) else true)
theorem p_laws_eqInt64S_l1_s (l_a : List Int) (l_b : List Int) (μ : Nat) (t4 : Bool) (i : Int) : p_laws_eqInt64S_l1 l_a l_b (μ + 1) t4 i = (bif decide ((i : Int) < (l_a.length : Int)) then (bif (((l_a).getD (i : Int).toNat 0) : Int) != ((l_b).getD (i : Int).toNat 0) then false else (p_laws_eqInt64S_l1 l_a l_b μ t4 (i + 1))) else true) := rfl
def p_laws_eqInt64S (l_a : List Int) (l_b : List Int) : Bool := (bif ((l_a.length : Int) : Int) != (l_b.length : Int) then false else (p_laws_eqInt64S_l1 l_a l_b (Int.toNat ((l_a.length : Int) - (0 : Int)) + 1) false (0 : Int)))
theorem p_laws_eqInt64S_eq (l_a : List Int) (l_b : List Int) : p_laws_eqInt64S l_a l_b = (bif ((l_a.length : Int) : Int) != (l_b.length : Int) then false else (p_laws_eqInt64S_l1 l_a l_b (Int.toNat ((l_a.length : Int) - (0 : Int)) + 1) false (0 : Int))) := rfl
def T_laws_eqInt64S (a_a : Option Addr) (a_n : Nat) (a_e : Nat) (b_a : Option Addr) (b_n : Nat) (b_e : Nat) (H : AHeap) (K : Bool → AHeap → Prop) : Prop := ∃ (l_a : List Int), ∃ (l_b : List Int), IsL fI H a_a a_n l_a ∧ IsL fI H b_a b_n l_b ∧ l_a.length < 1073741824 ∧ l_b.length < 1073741824 ∧ K (p_laws_eqInt64S l_a l_b) H
theorem T_laws_eqInt64S_i {a_a : Option Addr} {a_n : Nat} {a_e : Nat} {b_a : Option Addr} {b_n : Nat} {b_e : Nat} {H : AHeap} {K : Bool → AHeap → Prop} (h : ∃ (l_a : List Int), ∃ (l_b : List Int), IsL fI H a_a a_n l_a ∧ IsL fI H b_a b_n l_b ∧ l_a.length < 1073741824 ∧ l_b.length < 1073741824 ∧ K (p_laws_eqInt64S l_a l_b) H) : T_laws_eqInt64S a_a a_n a_e b_a b_n b_e H K := h
theorem laws_eqInt64S_go (l : List Int) : ∀ (μ : Nat) (t : Bool) (i : Nat), l.length - i < μ → p_laws_eqInt64S_l1 l l μ t (i : Int) = true := by
  intro μ
  induction μ with
  | zero => intro t i h; omega
  | succ μ ih =>
    intro t i hm
    rw [p_laws_eqInt64S_l1_s]
    by_cases h : i < l.length
    · rw [decide_eq_true (show (i : Int) < (l.length : Int) by omega), cond_true]
      simp only [bne_self_eq_false, cond_false]
      exact ih t (i + 1) (by omega)
    · rw [decide_eq_false (show ¬ (i : Int) < (l.length : Int) by omega), cond_false]
theorem laws_eqInt64S_self (l : List Int) : p_laws_eqInt64S l l = true := by
  rw [p_laws_eqInt64S_eq]
  have h0 : ((l.length : Int) != (l.length : Int)) = false := by simp
  rw [h0, cond_false]
  exact laws_eqInt64S_go l _ false 0 (by omega)
/-! laws_eqInt64S: function 17 -/
def E_laws_eqInt64S : Env := envOf []
def F_laws_eqInt64S : List Value → AHeap → (Value → AHeap → Prop) → Prop
  | [.slice a_a a_n a_e, .slice b_a b_n b_e], H, K => T_laws_eqInt64S a_a a_n a_e b_a b_n b_e H fun (r1 : Bool) (H' : AHeap) => K (.bool r1) H'
  | _, _, _ => False
def S_laws_eqInt64S : FSpec := { F := F_laws_eqInt64S, quiet := true, tame := false }
theorem laws_eqInt64S_vc (a_a : Option Addr) (a_n : Nat) (a_e : Nat) (b_a : Option Addr) (b_n : Nat) (b_e : Nat) (H : AHeap) (K : Value → AHeap → Prop) : bodyK Try.prog E_laws_eqInt64S Try.f17 [.slice a_a a_n a_e, .slice b_a b_n b_e] H K =
  (Br (((a_n : Int) : Int) != (b_n : Int)) (K (.bool false) H) (loopK (exK Try.prog E_laws_eqInt64S (cl (cl (cr (cl (cr (cr (bodyC Try.f17)))))))) [.slice a_a a_n a_e, .slice b_a b_n b_e, undef, undef, .bool false, .int .i64 0, .slice a_a a_n a_e, .int .i64 (a_n : Int), .slice b_a b_n b_e, .int .i64 (b_n : Int), .bool (((a_n : Int) : Int) != (b_n : Int)), undef, undef, undef, undef, undef, undef, undef, undef, undef, undef, undef, undef, undef, undef, undef] H (blockQ 0 (seqQ (exK Try.prog E_laws_eqInt64S (cr (cr (cr (bodyC Try.f17))))) (retK Try.prog Try.f17 K))))) := by kernel_rfl
theorem laws_eqInt64S_r1 (a_a : Option Addr) (a_e : Nat) (a_n : Nat) (b_a : Option Addr) (b_e : Nat) (b_n : Nat) (t4 : Bool) (i : Int) (g11 g12 g13 g14 g15 g16 g17 g18 g19 g20 g21 g22 g23 g24 g25 : Value) (H : AHeap) (R : Post) : exK Try.prog E_laws_eqInt64S (cl (cl (cr (cl (cr (cr (bodyC Try.f17))))))) [.slice a_a a_n a_e, .slice b_a b_n b_e, undef, undef, .bool t4, .int .i64 i, .slice a_a a_n a_e, .int .i64 (a_n : Int), .slice b_a b_n b_e, .int .i64 (b_n : Int), .bool (((a_n : Int) : Int) != (b_n : Int)), g11, g12, g13, g14, g15, g16, g17, g18, g19, g20, g21, g22, g23, g24, g25] H R =
  (Br (decide ((i : Int) < (a_n : Int))) ((0 : Int) ≤ i ∧ i < (a_n : Int) ∧ ∃ b1 f1, (a_a : Option Addr) = some ⟨b1, f1, none⟩ ∧ ∃ x1 : Int,  rdC H b1 (f1 + (i : Int).toNat * 1) = some (.int .i64 x1) ∧ (0 : Int) ≤ i ∧ i < (b_n : Int) ∧ ∃ b2 f2, (b_a : Option Addr) = some ⟨b2, f2, none⟩ ∧ ∃ x2 : Int,  rdC H b2 (f2 + (i : Int).toNat * 1) = some (.int .i64 x2) ∧ Br ((x1 : Int) != x2) (R .ret [.slice a_a a_n a_e, .slice b_a b_n b_e, undef, undef, .bool false, .int .i64 i, .slice a_a a_n a_e, .int .i64 (a_n : Int), .slice b_a b_n b_e, .int .i64 (b_n : Int), .bool (((a_n : Int) : Int) != (b_n : Int)), .int .i64 i, .slice a_a a_n a_e, .int .i64 (a_n : Int), .bool (decide ((i : Int) < (a_n : Int))), g15, g16, .slice a_a a_n a_e, .int .i64 i, .pointer (some ⟨b1, f1 + (i : Int).toNat * 1, none⟩), .int .i64 x1, .slice b_a b_n b_e, .int .i64 i, .pointer (some ⟨b2, f2 + (i : Int).toNat * 1, none⟩), .int .i64 x2, .bool ((x1 : Int) != x2)] H) (R .normal [.slice a_a a_n a_e, .slice b_a b_n b_e, undef, undef, .bool t4, .int .i64 (IntKind.wrap .i64 (i + 1)), .slice a_a a_n a_e, .int .i64 (a_n : Int), .slice b_a b_n b_e, .int .i64 (b_n : Int), .bool (((a_n : Int) : Int) != (b_n : Int)), .int .i64 i, .slice a_a a_n a_e, .int .i64 (a_n : Int), .bool (decide ((i : Int) < (a_n : Int))), .int .i64 i, .int .i64 (IntKind.wrap .i64 (i + 1)), .slice a_a a_n a_e, .int .i64 i, .pointer (some ⟨b1, f1 + (i : Int).toNat * 1, none⟩), .int .i64 x1, .slice b_a b_n b_e, .int .i64 i, .pointer (some ⟨b2, f2 + (i : Int).toNat * 1, none⟩), .int .i64 x2, .bool ((x1 : Int) != x2)] H)) (R (.exit 0) [.slice a_a a_n a_e, .slice b_a b_n b_e, undef, undef, .bool t4, .int .i64 i, .slice a_a a_n a_e, .int .i64 (a_n : Int), .slice b_a b_n b_e, .int .i64 (b_n : Int), .bool (((a_n : Int) : Int) != (b_n : Int)), .int .i64 i, .slice a_a a_n a_e, .int .i64 (a_n : Int), .bool (decide ((i : Int) < (a_n : Int))), g15, g16, g17, g18, g19, g20, g21, g22, g23, g24, g25] H)) := by kernel_rfl
def laws_eqInt64S_I1 (a_a : Option Addr) (a_e : Nat) (a_n : Nat) (b_a : Option Addr) (b_e : Nat) (b_n : Nat) (Inv : Nat → Bool → Int → AHeap → Prop) : Nat → List Value → AHeap → Prop := fun μ tm H => ∃ (t4 : Bool), ∃ (i : Int), ∃ g11 g12 g13 g14 g15 g16 g17 g18 g19 g20 g21 g22 g23 g24 g25, tm = [.slice a_a a_n a_e, .slice b_a b_n b_e, undef, undef, .bool t4, .int .i64 i, .slice a_a a_n a_e, .int .i64 (a_n : Int), .slice b_a b_n b_e, .int .i64 (b_n : Int), .bool (((a_n : Int) : Int) != (b_n : Int)), g11, g12, g13, g14, g15, g16, g17, g18, g19, g20, g21, g22, g23, g24, g25] ∧ Inv μ t4 i H
theorem laws_eqInt64S_L1 (a_a : Option Addr) (a_e : Nat) (a_n : Nat) (b_a : Option Addr) (b_e : Nat) (b_n : Nat) {Q : Post} (Inv : Nat → Bool → Int → AHeap → Prop) (ν : Nat) (t4 : Bool) (i : Int) (g11 g12 g13 g14 g15 g16 g17 g18 g19 g20 g21 g22 g23 g24 g25 : Value) (H : AHeap) (h0 : Inv ν t4 i H)
    (hs : ∀ (μ : Nat) (t4 : Bool) (i : Int) (g11 g12 g13 g14 g15 g16 g17 g18 g19 g20 g21 g22 g23 g24 g25 : Value) (H : AHeap), Inv μ t4 i H → exK Try.prog E_laws_eqInt64S (cl (cl (cr (cl (cr (cr (bodyC Try.f17))))))) [.slice a_a a_n a_e, .slice b_a b_n b_e, undef, undef, .bool t4, .int .i64 i, .slice a_a a_n a_e, .int .i64 (a_n : Int), .slice b_a b_n b_e, .int .i64 (b_n : Int), .bool (((a_n : Int) : Int) != (b_n : Int)), g11, g12, g13, g14, g15, g16, g17, g18, g19, g20, g21, g22, g23, g24, g25] H (loopQ (laws_eqInt64S_I1 a_a a_e a_n b_a b_e b_n Inv) μ Q)) : loopK (exK Try.prog E_laws_eqInt64S (cl (cl (cr (cl (cr (cr (bodyC Try.f17)))))))) [.slice a_a a_n a_e, .slice b_a b_n b_e, undef, undef, .bool t4, .int .i64 i, .slice a_a a_n a_e, .int .i64 (a_n : Int), .slice b_a b_n b_e, .int .i64 (b_n : Int), .bool (((a_n : Int) : Int) != (b_n : Int)), g11, g12, g13, g14, g15, g16, g17, g18, g19, g20, g21, g22, g23, g24, g25] H Q :=
  ⟨laws_eqInt64S_I1 a_a a_e a_n b_a b_e b_n Inv, ν, ⟨t4, i, g11, g12, g13, g14, g15, g16, g17, g18, g19, g20, g21, g22, g23, g24, g25, rfl, h0⟩, fun μ tm H h => by obtain ⟨t4, i, g11, g12, g13, g14, g15, g16, g17, g18, g19, g20, g21, g22, g23, g24, g25, rfl, hI⟩ := h; exact hs μ t4 i g11 g12 g13 g14 g15 g16 g17 g18 g19 g20 g21 g22 g23 g24 g25 H hI⟩
theorem laws_eqInt64S_n1 {a_a : Option Addr} {a_e : Nat} {a_n : Nat} {b_a : Option Addr} {b_e : Nat} {b_n : Nat} {Q : Post} {Inv : Nat → Bool → Int → AHeap → Prop} {μ : Nat} (μ' : Nat) {t4 : Bool} {i : Int} {g11 g12 g13 g14 g15 g16 g17 g18 g19 g20 g21 g22 g23 g24 g25 : Value} {H : AHeap} (hm : μ' < μ) (hI : Inv μ' t4 i H) : loopQ (laws_eqInt64S_I1 a_a a_e a_n b_a b_e b_n Inv) μ Q .normal [.slice a_a a_n a_e, .slice b_a b_n b_e, undef, undef, .bool t4, .int .i64 i, .slice a_a a_n a_e, .int .i64 (a_n : Int), .slice b_a b_n b_e, .int .i64 (b_n : Int), .bool (((a_n : Int) : Int) != (b_n : Int)), g11, g12, g13, g14, g15, g16, g17, g18, g19, g20, g21, g22, g23, g24, g25] H := ⟨μ', hm, t4, i, g11, g12, g13, g14, g15, g16, g17, g18, g19, g20, g21, g22, g23, g24, g25, rfl, hI⟩
theorem laws_eqInt64S_x1_0 (a_a : Option Addr) (a_e : Nat) (a_n : Nat) (b_a : Option Addr) (b_e : Nat) (b_n : Nat) (t4 : Bool) (i : Int) (g11 g12 g13 g14 g15 g16 g17 g18 g19 g20 g21 g22 g23 g24 g25 : Value) (H : AHeap) (K : Value → AHeap → Prop)  {I : Nat → List Value → AHeap → Prop} {μ : Nat} : loopQ I μ (blockQ 0 (seqQ (exK Try.prog E_laws_eqInt64S (cr (cr (cr (bodyC Try.f17))))) (retK Try.prog Try.f17 K))) (.exit 0) [.slice a_a a_n a_e, .slice b_a b_n b_e, undef, undef, .bool t4, .int .i64 i, .slice a_a a_n a_e, .int .i64 (a_n : Int), .slice b_a b_n b_e, .int .i64 (b_n : Int), .bool (((a_n : Int) : Int) != (b_n : Int)), g11, g12, g13, g14, g15, g16, g17, g18, g19, g20, g21, g22, g23, g24, g25] H =
  (K (.bool true) H) := by kernel_rfl
theorem laws_eqInt64S_x1_ret (a_a : Option Addr) (a_e : Nat) (a_n : Nat) (b_a : Option Addr) (b_e : Nat) (b_n : Nat) (t4 : Bool) (i : Int) (g11 g12 g13 g14 g15 g16 g17 g18 g19 g20 g21 g22 g23 g24 g25 : Value) (H : AHeap) (K : Value → AHeap → Prop)  {I : Nat → List Value → AHeap → Prop} {μ : Nat} : loopQ I μ (blockQ 0 (seqQ (exK Try.prog E_laws_eqInt64S (cr (cr (cr (bodyC Try.f17))))) (retK Try.prog Try.f17 K))) .ret [.slice a_a a_n a_e, .slice b_a b_n b_e, undef, undef, .bool t4, .int .i64 i, .slice a_a a_n a_e, .int .i64 (a_n : Int), .slice b_a b_n b_e, .int .i64 (b_n : Int), .bool (((a_n : Int) : Int) != (b_n : Int)), g11, g12, g13, g14, g15, g16, g17, g18, g19, g20, g21, g22, g23, g24, g25] H =
  (K (.bool t4) H) := by kernel_rfl
theorem E_laws_eqInt64S_ok : ∀ g, FnOk Try.prog g (E_laws_eqInt64S g) := FnOk.envOf (by
  intro x hx; cases hx)
set_option maxHeartbeats 1000000 in
theorem laws_eqInt64S_main (a_a : Option Addr) (a_n : Nat) (a_e : Nat) (b_a : Option Addr) (b_n : Nat) (b_e : Nat) (H : AHeap) (K : Value → AHeap → Prop) (h : T_laws_eqInt64S a_a a_n a_e b_a b_n b_e H fun (r1 : Bool) (H' : AHeap) => K (.bool r1) H') : bodyK Try.prog E_laws_eqInt64S Try.f17 [.slice a_a a_n a_e, .slice b_a b_n b_e] H K := by
  rw [laws_eqInt64S_vc]
  obtain ⟨l_a, l_b, i_a, i_b, bd_13, bd_14, hk⟩ := h
  obtain rfl := i_a.eqn
  obtain rfl := i_b.eqn
  have e : (p_laws_eqInt64S l_a l_b) = _ := rfl
  have e := e.trans (p_laws_eqInt64S_eq l_a l_b)
  have g0 := Grow.refl H
  refine Br.intro (fun c_1 => ?_) (fun c_1 => ?_)
  · have e := e.trans (cond_t c_1)
    have c_1' := ine_t c_1
    rw [e] at hk
    exact hk
  · have e := e.trans (cond_f c_1)
    have c_1' := ine_f c_1
    refine laws_eqInt64S_L1 _ _ _ _ _ _ (fun (μ : Nat) (t4 : Bool) (i : Int) (H_1 : AHeap) => H = H_1 ∧ (0 : Int) ≤ i ∧ i ≤ (l_a.length : Int) ∧ (l_a.length : Int) - i ≤ (μ : Int) ∧ p_laws_eqInt64S l_a l_b = p_laws_eqInt64S_l1 l_a l_b (μ + 1) t4 i) (Int.toNat ((l_a.length : Int) - (0 : Int))) _ _ _ _ _ _ _ _ _ _ _ _ _ _ _ _ _ H ?_ ?_
    · exact ⟨rfl, (by first | omega | (simp; done) | (simp; omega)), (by first | omega | (simp; done) | (simp; omega)), (by omega), e⟩
    · intro μ t4 i g11 g12 g13 g14 g15 g16 g17 g18 g19 g20 g21 g22 g23 g24 g25 H_1 hI
      obtain ⟨rfl, v_2, v_3, hμ, e⟩ := hI
      rw [laws_eqInt64S_r1]
      have e := e.trans (p_laws_eqInt64S_l1_s l_a l_b μ t4 i)
      have l_4 := g0.1
      refine Br.intro (fun c_5 => ?_) (fun c_5 => ?_)
      · have e := e.trans (cond_t c_5)
        have c_5' := of_decide_eq_true c_5
        obtain ⟨b_6, f_7, q_8⟩ := ((i_a.grow g0)).pos (by first | omega | (simp only [List.length_set, List.length_replicate, List.length_append, List.length_cons, List.length_nil, List.length_take, List.length_drop, marks_length]; done) | (simp only [List.length_set, List.length_replicate, List.length_append, List.length_cons, List.length_nil, List.length_take, List.length_drop, marks_length]; omega))
        refine ⟨by omega, by omega, b_6, f_7, q_8, ?_⟩
        refine ⟨((l_a).getD (i : Int).toNat 0), (i_a).rd g0 q_8 (by omega) _, ?_⟩
        obtain ⟨b_9, f_10, q_11⟩ := ((i_b.grow g0)).pos (by first | omega | (simp only [List.length_set, List.length_replicate, List.length_append, List.length_cons, List.length_nil, List.length_take, List.length_drop, marks_length]; done) | (simp only [List.length_set, List.length_replicate, List.length_append, List.length_cons, List.length_nil, List.length_take, List.length_drop, marks_length]; omega))
        refine ⟨by omega, by omega, b_9, f_10, q_11, ?_⟩
        refine ⟨((l_b).getD (i : Int).toNat 0), (i_b).rd g0 q_11 (by omega) _, ?_⟩
        refine Br.intro (fun c_12 => ?_) (fun c_12 => ?_)
        · have e := e.trans (cond_t c_12)
          have c_12' := ine_t c_12
          rw [laws_eqInt64S_x1_ret]
          rw [e] at hk
          exact hk
        · have e := e.trans (cond_f c_12)
          have c_12' := ine_f c_12
          rw [show IntKind.wrap .i64 (i + 1) = (i + 1) from wrap64 (by omega) (by omega)]
          refine laws_eqInt64S_n1 (μ - 1) (by omega) ⟨rfl, (by first | omega | (simp only [List.length_append, List.length_cons, List.length_nil, List.length_set]; done) | (simp only [List.length_append, List.length_cons, List.length_nil, List.length_set]; omega)), (by first | omega | (simp only [List.length_append, List.length_cons, List.length_nil, List.length_set]; done) | (simp only [List.length_append, List.length_cons, List.length_nil, List.length_set]; omega)), (by omega), (by rw [show μ - 1 + 1 = μ from by omega]; exact e)⟩
      · have e := e.trans (cond_f c_5)
        have c_5' := of_decide_eq_false c_5
        rw [laws_eqInt64S_x1_0]
        rw [e] at hk
        exact hk
theorem laws_eqInt64S_ok : FnOk Try.prog 17 S_laws_eqInt64S := by
  refine FnOk.body mix_ok E_laws_eqInt64S_ok Try.func17 rfl (by kernel_rfl) (by kernel_rfl) ?_ ?_ ?_ ?_ ?_
  · intro args H K K' h hk
    simp only [S_laws_eqInt64S] at *
    unfold F_laws_eqInt64S at *
    split at hk
    · obtain ⟨l_a, l_b, i_a, i_b, bd_13, bd_14, k⟩ := hk
      exact ⟨l_a, l_b, i_a, i_b, bd_13, bd_14, h _ _ k⟩
    · exact hk.elim
  · intro _ args H K hk
    simp only [S_laws_eqInt64S] at *
    unfold F_laws_eqInt64S at *
    split at hk
    · obtain ⟨l_a, l_b, i_a, i_b, bd_13, bd_14, k⟩ := hk
      exact ⟨_, k, fun K' k' => ⟨l_a, l_b, i_a, i_b, bd_13, bd_14, k'⟩⟩
    · exact hk.elim
  · intro args H K hk
    simp only [S_laws_eqInt64S] at *
    unfold F_laws_eqInt64S at *
    split at hk
    · obtain ⟨l_a, l_b, i_a, i_b, bd_13, bd_14, k⟩ := hk
      exact ⟨_, _, k⟩
    · exact hk.elim
  · intro hq; cases hq
  · have mm := @laws_eqInt64S_main
    revert mm
    generalize bodyK Try.prog E_laws_eqInt64S Try.f17 = Q
    intro mm args H K hk
    simp only [S_laws_eqInt64S] at *
    unfold F_laws_eqInt64S at *
    split at hk
    · exact mm _ _ _ _ _ _ H K hk
    · exact hk.elim
def p_laws_sameFloat (a : Nat) (b : Nat) : Bool := (bif !(feq .f64 a a) then (bif !(feq .f64 a a) then !(feq .f64 b b) else false) else (bif !(feq .f64 b b) then (bif !(feq .f64 a a) then !(feq .f64 b b) else false) else (bif feq .f64 a 0 then (bif feq .f64 b 0 then (flt .f64 0 (fdiv .f64 4607182418800017408 a)) == (flt .f64 0 (fdiv .f64 4607182418800017408 b)) else feq .f64 a b) else feq .f64 a b)))
theorem p_laws_sameFloat_eq (a : Nat) (b : Nat) : p_laws_sameFloat a b = (bif !(feq .f64 a a) then (bif !(feq .f64 a a) then !(feq .f64 b b) else false) else (bif !(feq .f64 b b) then (bif !(feq .f64 a a) then !(feq .f64 b b) else false) else (bif feq .f64 a 0 then (bif feq .f64 b 0 then (flt .f64 0 (fdiv .f64 4607182418800017408 a)) == (flt .f64 0 (fdiv .f64 4607182418800017408 b)) else feq .f64 a b) else feq .f64 a b))) := rfl
def T_laws_sameFloat (a : Nat) (b : Nat) (H : AHeap) (K : Bool → AHeap → Prop) : Prop := K (p_laws_sameFloat a b) H

theorem T_laws_sameFloat_i {a : Nat} {b : Nat} {H : AHeap} {K : Bool → AHeap → Prop} (h : K (p_laws_sameFloat a b) H) : T_laws_sameFloat a b H K := h
/-! laws_sameFloat: function 30 -/
def E_laws_sameFloat : Env := envOf []
def F_laws_sameFloat : List Value → AHeap → (Value → AHeap → Prop) → Prop
  | [.float .f64 a, .float .f64 b], H, K => T_laws_sameFloat a b H fun (r1 : Bool) (H' : AHeap) => K (.bool r1) H'
  | _, _, _ => False
def S_laws_sameFloat : FSpec := { F := F_laws_sameFloat, quiet := true, tame := false }
theorem laws_sameFloat_vc (a : Nat) (b : Nat) (H : AHeap) (K : Value → AHeap → Prop) : bodyK Try.prog E_laws_sameFloat Try.f30 [.float .f64 a, .float .f64 b] H K =
  (Br (!(feq .f64 a a)) (Br (!(feq .f64 a a)) (K (.bool (!(feq .f64 b b))) H) (K (.bool false) H)) (Br (!(feq .f64 b b)) (Br (!(feq .f64 a a)) (K (.bool (!(feq .f64 b b))) H) (K (.bool false) H)) (Br (feq .f64 a 0) (Br (feq .f64 b 0) (K (.bool ((flt .f64 0 (fdiv .f64 4607182418800017408 a)) == (flt .f64 0 (fdiv .f64 4607182418800017408 b)))) H) (K (.bool (feq .f64 a b)) H)) (K (.bool (feq .f64 a b)) H)))) := by kernel_rfl
theorem E_laws_sameFloat_ok : ∀ g, FnOk Try.prog g (E_laws_sameFloat g) := FnOk.envOf (by
  intro x hx; cases hx)
set_option maxHeartbeats 1000000 in
theorem laws_sameFloat_main (a : Nat) (b : Nat) (H : AHeap) (K : Value → AHeap → Prop) (h : T_laws_sameFloat a b H fun (r1 : Bool) (H' : AHeap) => K (.bool r1) H') : bodyK Try.prog E_laws_sameFloat Try.f30 [.float .f64 a, .float .f64 b] H K := by
  rw [laws_sameFloat_vc]
  unfold T_laws_sameFloat p_laws_sameFloat at h
  repeat' (first | exact h | (exfalso; simp_all; done) | (refine ⟨by decide, ?_⟩) | (refine Br.intro (fun hb => ?_) (fun hb => ?_) <;> (try simp only [hb, cond_true, cond_false, Bool.not_true, Bool.not_false] at h)))
theorem laws_sameFloat_ok : FnOk Try.prog 30 S_laws_sameFloat := by
  refine FnOk.body mix_ok E_laws_sameFloat_ok Try.func30 rfl (by kernel_rfl) (by kernel_rfl) ?_ ?_ ?_ ?_ ?_
  · intro args H K K' h hk
    simp only [S_laws_sameFloat] at *
    unfold F_laws_sameFloat at *
    split at hk
    · have k := hk
      exact h _ _ k
    · exact hk.elim
  · intro _ args H K hk
    simp only [S_laws_sameFloat] at *
    unfold F_laws_sameFloat at *
    split at hk
    · have k := hk
      exact ⟨_, k, fun K' k' => k'⟩
    · exact hk.elim
  · intro args H K hk
    simp only [S_laws_sameFloat] at *
    unfold F_laws_sameFloat at *
    split at hk
    · have k := hk
      exact ⟨_, _, k⟩
    · exact hk.elim
  · intro hq; cases hq
  · have mm := @laws_sameFloat_main
    revert mm
    generalize bodyK Try.prog E_laws_sameFloat Try.f30 = Q
    intro mm args H K hk
    simp only [S_laws_sameFloat] at *
    unfold F_laws_sameFloat at *
    split at hk
    · exact mm _ _ H K hk
    · exact hk.elim
def p_laws_eqFloat32S_l1 (l_a : List Nat) (l_b : List Nat) : Nat → Bool → Int → Bool
  | 0, _, _ => false
  | μ + 1, t4, i => (bif decide ((i : Int) < (l_a.length : Int)) then (bif !((p_laws_sameFloat (fwide (((l_a).getD (i : Int).toNat 0))) (fwide (((l_b).getD (i : Int).toNat 0))))) then false else (p_laws_eqFloat32S_l1 l_a l_b μ t4 (i + 1))) else true)
theorem p_laws_eqFloat32S_l1_s (l_a : List Nat) (l_b : List Nat) (μ : Nat) (t4 : Bool) (i : Int) : p_laws_eqFloat32S_l1 l_a l_b (μ + 1) t4 i = (bif decide ((i : Int) < (l_a.length : Int)) then (bif !((p_laws_sameFloat (fwide (((l_a).getD (i : Int).toNat 0))) (fwide (((l_b).getD (i : Int).toNat 0))))) then false else (p_laws_eqFloat32S_l1 l_a l_b μ t4 (i + 1))) else true) := rfl
def p_laws_eqFloat32S (l_a : List Nat) (l_b : List Nat) : Bool := (bif ((l_a.length : Int) : Int) != (l_b.length : Int) then false else (p_laws_eqFloat32S_l1 l_a l_b (Int.toNat ((l_a.length : Int) - (0 : Int)) + 1) false (0 : Int)))
theorem p_laws_eqFloat32S_eq (l_a : List Nat) (l_b : List Nat) : p_laws_eqFloat32S l_a l_b = (bif ((l_a.length : Int) : Int) != (l_b.length : Int) then false else (p_laws_eqFloat32S_l1 l_a l_b (Int.toNat ((l_a.length : Int) - (0 : Int)) + 1) false (0 : Int))) := rfl
def T_laws_eqFloat32S (a_a : Option Addr) (a_n : Nat) (a_e : Nat) (b_a : Option Addr) (b_n : Nat) (b_e : Nat) (H : AHeap) (K : Bool → AHeap → Prop) : Prop := ∃ (l_a : List Nat), ∃ (l_b : List Nat), IsL fF H a_a a_n l_a ∧ IsL fF H b_a b_n l_b ∧ l_a.length < 1073741824 ∧ l_b.length < 1073741824 ∧ K (p_laws_eqFloat32S l_a l_b) H
theorem T_laws_eqFloat32S_i {a_a : Option Addr} {a_n : Nat} {a_e : Nat} {b_a : Option Addr} {b_n : Nat} {b_e : Nat} {H : AHeap} {K : Bool → AHeap → Prop} (h : ∃ (l_a : List Nat), ∃ (l_b : List Nat), IsL fF H a_a a_n l_a ∧ IsL fF H b_a b_n l_b ∧ l_a.length < 1073741824 ∧ l_b.length < 1073741824 ∧ K (p_laws_eqFloat32S l_a l_b) H) : T_laws_eqFloat32S a_a a_n a_e b_a b_n b_e H K := h
theorem laws_sameFloat_self (y : Nat) : p_laws_sameFloat y y = true := by
  rw [p_laws_sameFloat_eq]
  cases feq .f64 y y <;> simp
theorem laws_eqFloat32S_go (l : List Nat) : ∀ (μ : Nat) (t : Bool) (i : Nat), l.length - i < μ → p_laws_eqFloat32S_l1 l l μ t (i : Int) = true := by
  intro μ
  induction μ with
  | zero => intro t i h; omega
  | succ μ ih =>
    intro t i hm
    rw [p_laws_eqFloat32S_l1_s]
    by_cases h : i < l.length
    · rw [decide_eq_true (show (i : Int) < (l.length : Int) by omega), cond_true, laws_sameFloat_self]
      simp only [Bool.not_true, cond_false]
      exact ih t (i + 1) (by omega)
    · rw [decide_eq_false (show ¬ (i : Int) < (l.length : Int) by omega), cond_false]
theorem laws_eqFloat32S_self (l : List Nat) : p_laws_eqFloat32S l l = true := by
  rw [p_laws_eqFloat32S_eq]
  have h0 : ((l.length : Int) != (l.length : Int)) = false := by simp
  rw [h0, cond_false]
  exact laws_eqFloat32S_go l _ false 0 (by omega)
/-! laws_eqFloat32S: function 24 -/
def E_laws_eqFloat32S : Env := envOf [(30, S_laws_sameFloat)]
def F_laws_eqFloat32S : List Value → AHeap → (Value → AHeap → Prop) → Prop
  | [.slice a_a a_n a_e, .slice b_a b_n b_e], H, K => T_laws_eqFloat32S a_a a_n a_e b_a b_n b_e H fun (r1 : Bool) (H' : AHeap) => K (.bool r1) H'
  | _, _, _ => False
def S_laws_eqFloat32S : FSpec := { F := F_laws_eqFloat32S, quiet := true, tame := false }
theorem laws_eqFloat32S_vc (a_a : Option Addr) (a_n : Nat) (a_e : Nat) (b_a : Option Addr) (b_n : Nat) (b_e : Nat) (H : AHeap) (K : Value → AHeap → Prop) : bodyK Try.prog E_laws_eqFloat32S Try.f24 [.slice a_a a_n a_e, .slice b_a b_n b_e] H K =
  (Br (((a_n : Int) : Int) != (b_n : Int)) (K (.bool false) H) (loopK (exK Try.prog E_laws_eqFloat32S (cl (cl (cr (cl (cr (cr (bodyC Try.f24)))))))) [.slice a_a a_n a_e, .slice b_a b_n b_e, undef, undef, .bool false, .int .i64 0, .slice a_a a_n a_e, .int .i64 (a_n : Int), .slice b_a b_n b_e, .int .i64 (b_n : Int), .bool (((a_n : Int) : Int) != (b_n : Int)), undef, undef, undef, undef, undef, undef, undef, undef, undef, undef, undef, undef, undef, undef, undef, undef, undef, undef] H (blockQ 0 (seqQ (exK Try.prog E_laws_eqFloat32S (cr (cr (cr (bodyC Try.f24))))) (retK Try.prog Try.f24 K))))) := by kernel_rfl
theorem laws_eqFloat32S_r1 (a_a : Option Addr) (a_e : Nat) (a_n : Nat) (b_a : Option Addr) (b_e : Nat) (b_n : Nat) (t4 : Bool) (i : Int) (g11 g12 g13 g14 g15 g16 g17 g18 g19 g20 g21 g22 g23 g24 g25 g26 g27 g28 : Value) (H : AHeap) (R : Post) : exK Try.prog E_laws_eqFloat32S (cl (cl (cr (cl (cr (cr (bodyC Try.f24))))))) [.slice a_a a_n a_e, .slice b_a b_n b_e, undef, undef, .bool t4, .int .i64 i, .slice a_a a_n a_e, .int .i64 (a_n : Int), .slice b_a b_n b_e, .int .i64 (b_n : Int), .bool (((a_n : Int) : Int) != (b_n : Int)), g11, g12, g13, g14, g15, g16, g17, g18, g19, g20, g21, g22, g23, g24, g25, g26, g27, g28] H R =
  (Br (decide ((i : Int) < (a_n : Int))) ((0 : Int) ≤ i ∧ i < (a_n : Int) ∧ ∃ b1 f1, (a_a : Option Addr) = some ⟨b1, f1, none⟩ ∧ ∃ x1 : Nat,  rdC H b1 (f1 + (i : Int).toNat * 1) = some (.float .f32 x1) ∧ (0 : Int) ≤ i ∧ i < (b_n : Int) ∧ ∃ b2 f2, (b_a : Option Addr) = some ⟨b2, f2, none⟩ ∧ ∃ x2 : Nat,  rdC H b2 (f2 + (i : Int).toNat * 1) = some (.float .f32 x2) ∧ T_laws_sameFloat (fwide x1) (fwide x2) H fun (r1 : Bool) (H1 : AHeap) => Br (!r1) (R .ret [.slice a_a a_n a_e, .slice b_a b_n b_e, undef, undef, .bool false, .int .i64 i, .slice a_a a_n a_e, .int .i64 (a_n : Int), .slice b_a b_n b_e, .int .i64 (b_n : Int), .bool (((a_n : Int) : Int) != (b_n : Int)), .int .i64 i, .slice a_a a_n a_e, .int .i64 (a_n : Int), .bool (decide ((i : Int) < (a_n : Int))), g15, g16, .slice a_a a_n a_e, .int .i64 i, .pointer (some ⟨b1, f1 + (i : Int).toNat * 1, none⟩), .float .f32 x1, .float .f64 (fwide x1), .slice b_a b_n b_e, .int .i64 i, .pointer (some ⟨b2, f2 + (i : Int).toNat * 1, none⟩), .float .f32 x2, .float .f64 (fwide x2), .bool r1, .bool (!r1)] H1) (R .normal [.slice a_a a_n a_e, .slice b_a b_n b_e, undef, undef, .bool t4, .int .i64 (IntKind.wrap .i64 (i + 1)), .slice a_a a_n a_e, .int .i64 (a_n : Int), .slice b_a b_n b_e, .int .i64 (b_n : Int), .bool (((a_n : Int) : Int) != (b_n : Int)), .int .i64 i, .slice a_a a_n a_e, .int .i64 (a_n : Int), .bool (decide ((i : Int) < (a_n : Int))), .int .i64 i, .int .i64 (IntKind.wrap .i64 (i + 1)), .slice a_a a_n a_e, .int .i64 i, .pointer (some ⟨b1, f1 + (i : Int).toNat * 1, none⟩), .float .f32 x1, .float .f64 (fwide x1), .slice b_a b_n b_e, .int .i64 i, .pointer (some ⟨b2, f2 + (i : Int).toNat * 1, none⟩), .float .f32 x2, .float .f64 (fwide x2), .bool r1, .bool (!r1)] H1)) (R (.exit 0) [.slice a_a a_n a_e, .slice b_a b_n b_e, undef, undef, .bool t4, .int .i64 i, .slice a_a a_n a_e, .int .i64 (a_n : Int), .slice b_a b_n b_e, .int .i64 (b_n : Int), .bool (((a_n : Int) : Int) != (b_n : Int)), .int .i64 i, .slice a_a a_n a_e, .int .i64 (a_n : Int), .bool (decide ((i : Int) < (a_n : Int))), g15, g16, g17, g18, g19, g20, g21, g22, g23, g24, g25, g26, g27, g28] H)) := by kernel_rfl
def laws_eqFloat32S_I1 (a_a : Option Addr) (a_e : Nat) (a_n : Nat) (b_a : Option Addr) (b_e : Nat) (b_n : Nat) (Inv : Nat → Bool → Int → AHeap → Prop) : Nat → List Value → AHeap → Prop := fun μ tm H => ∃ (t4 : Bool), ∃ (i : Int), ∃ g11 g12 g13 g14 g15 g16 g17 g18 g19 g20 g21 g22 g23 g24 g25 g26 g27 g28, tm = [.slice a_a a_n a_e, .slice b_a b_n b_e, undef, undef, .bool t4, .int .i64 i, .slice a_a a_n a_e, .int .i64 (a_n : Int), .slice b_a b_n b_e, .int .i64 (b_n : Int), .bool (((a_n : Int) : Int) != (b_n : Int)), g11, g12, g13, g14, g15, g16, g17, g18, g19, g20, g21, g22, g23, g24, g25, g26, g27, g28] ∧ Inv μ t4 i H
theorem laws_eqFloat32S_L1 (a_a : Option Addr) (a_e : Nat) (a_n : Nat) (b_a : Option Addr) (b_e : Nat) (b_n : Nat) {Q : Post} (Inv : Nat → Bool → Int → AHeap → Prop) (ν : Nat) (t4 : Bool) (i : Int) (g11 g12 g13 g14 g15 g16 g17 g18 g19 g20 g21 g22 g23 g24 g25 g26 g27 g28 : Value) (H : AHeap) (h0 : Inv ν t4 i H)
    (hs : ∀ (μ : Nat) (t4 : Bool) (i : Int) (g11 g12 g13 g14 g15 g16 g17 g18 g19 g20 g21 g22 g23 g24 g25 g26 g27 g28 : Value) (H : AHeap), Inv μ t4 i H → exK Try.prog E_laws_eqFloat32S (cl (cl (cr (cl (cr (cr (bodyC Try.f24))))))) [.slice a_a a_n a_e, .slice b_a b_n b_e, undef, undef, .bool t4, .int .i64 i, .slice a_a a_n a_e, .int .i64 (a_n : Int), .slice b_a b_n b_e, .int .i64 (b_n : Int), .bool (((a_n : Int) : Int) != (b_n : Int)), g11, g12, g13, g14, g15, g16, g17, g18, g19, g20, g21, g22, g23, g24, g25, g26, g27, g28] H (loopQ (laws_eqFloat32S_I1 a_a a_e a_n b_a b_e b_n Inv) μ Q)) : loopK (exK Try.prog E_laws_eqFloat32S (cl (cl (cr (cl (cr (cr (bodyC Try.f24)))))))) [.slice a_a a_n a_e, .slice b_a b_n b_e, undef, undef, .bool t4, .int .i64 i, .slice a_a a_n a_e, .int .i64 (a_n : Int), .slice b_a b_n b_e, .int .i64 (b_n : Int), .bool (((a_n : Int) : Int) != (b_n : Int)), g11, g12, g13, g14, g15, g16, g17, g18, g19, g20, g21, g22, g23, g24, g25, g26, g27, g28] H Q :=
  ⟨laws_eqFloat32S_I1 a_a a_e a_n b_a b_e b_n Inv, ν, ⟨t4, i, g11, g12, g13, g14, g15, g16, g17, g18, g19, g20, g21, g22, g23, g24, g25, g26, g27, g28, rfl, h0⟩, fun μ tm H h => by obtain ⟨t4, i, g11, g12, g13, g14, g15, g16, g17, g18, g19, g20, g21, g22, g23, g24, g25, g26, g27, g28, rfl, hI⟩ := h; exact hs μ t4 i g11 g12 g13 g14 g15 g16 g17 g18 g19 g20 g21 g22 g23 g24 g25 g26 g27 g28 H hI⟩
theorem laws_eqFloat32S_n1 {a_a : Option Addr} {a_e : Nat} {a_n : Nat} {b_a : Option Addr} {b_e : Nat} {b_n : Nat} {Q : Post} {Inv : Nat → Bool → Int → AHeap → Prop} {μ : Nat} (μ' : Nat) {t4 : Bool} {i : Int} {g11 g12 g13 g14 g15 g16 g17 g18 g19 g20 g21 g22 g23 g24 g25 g26 g27 g28 : Value} {H : AHeap} (hm : μ' < μ) (hI : Inv μ' t4 i H) : loopQ (laws_eqFloat32S_I1 a_a a_e a_n b_a b_e b_n Inv) μ Q .normal [.slice a_a a_n a_e, .slice b_a b_n b_e, undef, undef, .bool t4, .int .i64 i, .slice a_a a_n a_e, .int .i64 (a_n : Int), .slice b_a b_n b_e, .int .i64 (b_n : Int), .bool (((a_n : Int) : Int) != (b_n : Int)), g11, g12, g13, g14, g15, g16, g17, g18, g19, g20, g21, g22, g23, g24, g25, g26, g27, g28] H := ⟨μ', hm, t4, i, g11, g12, g13, g14, g15, g16, g17, g18, g19, g20, g21, g22, g23, g24, g25, g26, g27, g28, rfl, hI⟩
theorem laws_eqFloat32S_x1_0 (a_a : Option Addr) (a_e : Nat) (a_n : Nat) (b_a : Option Addr) (b_e : Nat) (b_n : Nat) (t4 : Bool) (i : Int) (g11 g12 g13 g14 g15 g16 g17 g18 g19 g20 g21 g22 g23 g24 g25 g26 g27 g28 : Value) (H : AHeap) (K : Value → AHeap → Prop)  {I : Nat → List Value → AHeap → Prop} {μ : Nat} : loopQ I μ (blockQ 0 (seqQ (exK Try.prog E_laws_eqFloat32S (cr (cr (cr (bodyC Try.f24))))) (retK Try.prog Try.f24 K))) (.exit 0) [.slice a_a a_n a_e, .slice b_a b_n b_e, undef, undef, .bool t4, .int .i64 i, .slice a_a a_n a_e, .int .i64 (a_n : Int), .slice b_a b_n b_e, .int .i64 (b_n : Int), .bool (((a_n : Int) : Int) != (b_n : Int)), g11, g12, g13, g14, g15, g16, g17, g18, g19, g20, g21, g22, g23, g24, g25, g26, g27, g28] H =
  (K (.bool true) H) := by kernel_rfl
theorem laws_eqFloat32S_x1_ret (a_a : Option Addr) (a_e : Nat) (a_n : Nat) (b_a : Option Addr) (b_e : Nat) (b_n : Nat) (t4 : Bool) (i : Int) (g11 g12 g13 g14 g15 g16 g17 g18 g19 g20 g21 g22 g23 g24 g25 g26 g27 g28 : Value) (H : AHeap) (K : Value → AHeap → Prop)  {I : Nat → List Value → AHeap → Prop} {μ : Nat} : loopQ I μ (blockQ 0 (seqQ (exK Try.prog E_laws_eqFloat32S (cr (cr (cr (bodyC Try.f24))))) (retK Try.prog Try.f24 K))) .ret [.slice a_a a_n a_e, .slice b_a b_n b_e, undef, undef, .bool t4, .int .i64 i, .slice a_a a_n a_e, .int .i64 (a_n : Int), .slice b_a b_n b_e, .int .i64 (b_n : Int), .bool (((a_n : Int) : Int) != (b_n : Int)), g11, g12, g13, g14, g15, g16, g17, g18, g19, g20, g21, g22, g23, g24, g25, g26, g27, g28] H =
  (K (.bool t4) H) := by kernel_rfl
theorem E_laws_eqFloat32S_ok : ∀ g, FnOk Try.prog g (E_laws_eqFloat32S g) := FnOk.envOf (by
  intro x hx
  simp only [List.mem_cons, List.not_mem_nil, or_false] at hx
  subst hx; exact laws_sameFloat_ok)
set_option maxHeartbeats 1000000 in
theorem laws_eqFloat32S_main (a_a : Option Addr) (a_n : Nat) (a_e : Nat) (b_a : Option Addr) (b_n : Nat) (b_e : Nat) (H : AHeap) (K : Value → AHeap → Prop) (h : T_laws_eqFloat32S a_a a_n a_e b_a b_n b_e H fun (r1 : Bool) (H' : AHeap) => K (.bool r1) H') : bodyK Try.prog E_laws_eqFloat32S Try.f24 [.slice a_a a_n a_e, .slice b_a b_n b_e] H K := by
  rw [laws_eqFloat32S_vc]
  obtain ⟨l_a, l_b, i_a, i_b, bd_13, bd_14, hk⟩ := h
  obtain rfl := i_a.eqn
  obtain rfl := i_b.eqn
  have e : (p_laws_eqFloat32S l_a l_b) = _ := rfl
  have e := e.trans (p_laws_eqFloat32S_eq l_a l_b)
  have g0 := Grow.refl H
  refine Br.intro (fun c_1 => ?_) (fun c_1 => ?_)
  · have e := e.trans (cond_t c_1)
    have c_1' := ine_t c_1
    rw [e] at hk
    exact hk
  · have e := e.trans (cond_f c_1)
    have c_1' := ine_f c_1
    refine laws_eqFloat32S_L1 _ _ _ _ _ _ (fun (μ : Nat) (t4 : Bool) (i : Int) (H_1 : AHeap) => H = H_1 ∧ (0 : Int) ≤ i ∧ i ≤ (l_a.length : Int) ∧ (l_a.length : Int) - i ≤ (μ : Int) ∧ p_laws_eqFloat32S l_a l_b = p_laws_eqFloat32S_l1 l_a l_b (μ + 1) t4 i) (Int.toNat ((l_a.length : Int) - (0 : Int))) _ _ _ _ _ _ _ _ _ _ _ _ _ _ _ _ _ _ _ _ H ?_ ?_
    · exact ⟨rfl, (by first | omega | (simp; done) | (simp; omega)), (by first | omega | (simp; done) | (simp; omega)), (by omega), e⟩
    · intro μ t4 i g11 g12 g13 g14 g15 g16 g17 g18 g19 g20 g21 g22 g23 g24 g25 g26 g27 g28 H_1 hI
      obtain ⟨rfl, v_2, v_3, hμ, e⟩ := hI
      rw [laws_eqFloat32S_r1]
      have e := e.trans (p_laws_eqFloat32S_l1_s l_a l_b μ t4 i)
      have l_4 := g0.1
      refine Br.intro (fun c_5 => ?_) (fun c_5 => ?_)
      · have e := e.trans (cond_t c_5)
        have c_5' := of_decide_eq_true c_5
        obtain ⟨b_6, f_7, q_8⟩ := ((i_a.grow g0)).pos (by first | omega | (simp only [List.length_set, List.length_replicate, List.length_append, List.length_cons, List.length_nil, List.length_take, List.length_drop, marks_length]; done) | (simp only [List.length_set, List.length_replicate, List.length_append, List.length_cons, List.length_nil, List.length_take, List.length_drop, marks_length]; omega))
        refine ⟨by omega, by omega, b_6, f_7, q_8, ?_⟩
        refine ⟨((l_a).getD (i : Int).toNat 0), (i_a).rd g0 q_8 (by omega) _, ?_⟩
        obtain ⟨b_9, f_10, q_11⟩ := ((i_b.grow g0)).pos (by first | omega | (simp only [List.length_set, List.length_replicate, List.length_append, List.length_cons, List.length_nil, List.length_take, List.length_drop, marks_length]; done) | (simp only [List.length_set, List.length_replicate, List.length_append, List.length_cons, List.length_nil, List.length_take, List.length_drop, marks_length]; omega))
        refine ⟨by omega, by omega, b_9, f_10, q_11, ?_⟩
        refine ⟨((l_b).getD (i : Int).toNat 0), (i_b).rd g0 q_11 (by omega) _, ?_⟩
        refine T_laws_sameFloat_i ?_
        refine Br.intro (fun c_12 => ?_) (fun c_12 => ?_)
        · have e := e.trans (cond_t c_12)
          have c_12n := nf_of_t c_12
          rw [laws_eqFloat32S_x1_ret]
          rw [e] at hk
          exact hk
        · have e := e.trans (cond_f c_12)
          have c_12n := nt_of_f c_12
          rw [show IntKind.wrap .i64 (i + 1) = (i + 1) from wrap64 (by omega) (by omega)]
          refine laws_eqFloat32S_n1 (μ - 1) (by omega) ⟨rfl, (by first | omega | (simp only [List.length_append, List.length_cons, List.length_nil, List.length_set]; done) | (simp only [List.length_append, List.length_cons, List.length_nil, List.length_set]; omega)), (by first | omega | (simp only [List.length_append, List.length_cons, List.length_nil, List.length_set]; done) | (simp only [List.length_append, List.length_cons, List.length_nil, List.length_set]; omega)), (by omega), (by rw [show μ - 1 + 1 = μ from by omega]; exact e)⟩
      · have e := e.trans (cond_f c_5)
        have c_5' := of_decide_eq_false c_5
        rw [laws_eqFloat32S_x1_0]
        rw [e] at hk
        exact hk
theorem laws_eqFloat32S_ok : FnOk Try.prog 24 S_laws_eqFloat32S := by
  refine FnOk.body mix_ok E_laws_eqFloat32S_ok Try.func24 rfl (by kernel_rfl) (by kernel_rfl) ?_ ?_ ?_ ?_ ?_
  · intro args H K K' h hk
    simp only [S_laws_eqFloat32S] at *
    unfold F_laws_eqFloat32S at *
    split at hk
    · obtain ⟨l_a, l_b, i_a, i_b, bd_13, bd_14, k⟩ := hk
      exact ⟨l_a, l_b, i_a, i_b, bd_13, bd_14, h _ _ k⟩
    · exact hk.elim
  · intro _ args H K hk
    simp only [S_laws_eqFloat32S] at *
    unfold F_laws_eqFloat32S at *
    split at hk
    · obtain ⟨l_a, l_b, i_a, i_b, bd_13, bd_14, k⟩ := hk
      exact ⟨_, k, fun K' k' => ⟨l_a, l_b, i_a, i_b, bd_13, bd_14, k'⟩⟩
    · exact hk.elim
  · intro args H K hk
    simp only [S_laws_eqFloat32S] at *
    unfold F_laws_eqFloat32S at *
    split at hk
    · obtain ⟨l_a, l_b, i_a, i_b, bd_13, bd_14, k⟩ := hk
      exact ⟨_, _, k⟩
    · exact hk.elim
  · intro hq; cases hq
  · have mm := @laws_eqFloat32S_main
    revert mm
    generalize bodyK Try.prog E_laws_eqFloat32S Try.f24 = Q
    intro mm args H K hk
    simp only [S_laws_eqFloat32S] at *
    unfold F_laws_eqFloat32S at *
    split at hk
    · exact mm _ _ _ _ _ _ H K hk
    · exact hk.elim
def p_laws_FnExactLastOfHull (l_aBits : List Int) (l_aMisses : List Nat) : Bool := (bif decide ((1048576 : Int) < (l_aBits.length : Int)) then true else (bif decide ((1048576 : Int) < (l_aMisses.length : Int)) then true else (bif ((p_impl_LastOfHull l_aBits l_aMisses).1 : Int) != (p_spec_LastOfHull l_aBits l_aMisses).1 then false else (bif !(((p_impl_LastOfHull l_aBits l_aMisses).2) == ((p_spec_LastOfHull l_aBits l_aMisses).2)) then false else (bif !(p_laws_eqInt64S l_aBits l_aBits) then false else (bif !(p_laws_eqFloat32S l_aMisses l_aMisses) then false else true))))))
theorem p_laws_FnExactLastOfHull_eq (l_aBits : List Int) (l_aMisses : List Nat) : p_laws_FnExactLastOfHull l_aBits l_aMisses = (bif decide ((1048576 : Int) < (l_aBits.length : Int)) then true else (bif decide ((1048576 : Int) < (l_aMisses.length : Int)) then true else (bif ((p_impl_LastOfHull l_aBits l_aMisses).1 : Int) != (p_spec_LastOfHull l_aBits l_aMisses).1 then false else (bif !(((p_impl_LastOfHull l_aBits l_aMisses).2) == ((p_spec_LastOfHull l_aBits l_aMisses).2)) then false else (bif !(p_laws_eqInt64S l_aBits l_aBits) then false else (bif !(p_laws_eqFloat32S l_aMisses l_aMisses) then false else true)))))) := rfl
def T_laws_FnExactLastOfHull (aBits_a : Option Addr) (aBits_n : Nat) (aBits_e : Nat) (aMisses_a : Option Addr) (aMisses_n : Nat) (aMisses_e : Nat) (H : AHeap) (K : Bool → AHeap → Prop) : Prop := ∃ l_aBits : List Int, ∃ l_aMisses : List Nat, IsL fI H aBits_a aBits_n l_aBits ∧ (∀ y ∈ l_aBits, I64 y) ∧ l_aBits.length ≤ 9223372036854775807 ∧ IsL fF H aMisses_a aMisses_n l_aMisses ∧ (∀ y ∈ l_aMisses, W32 y) ∧ l_aMisses.length ≤ 9223372036854775807 ∧ ∀ H' : AHeap, K true H'
theorem hull_in {F : List Int → List Int × Bool} {l : List Int} {r : List Nat} {t5 : Bool} {t27 : Int} {t55 : Bool} {o o' : List Int} {a : Int} {k : Int → Nat → Int → List Int → List Int} {k' : Int → Nat → Int → List Int → List Int × Bool} {y : List Int}
    (hk : ∀ b m i, (b < 0 ∨ (a < b ∧ b < (l.length : Int))) → k' b m i y = F (k b m i y)) :
    ∀ (μ : Nat) (b : Int) (m : Nat) (i : Int), (b < 0 ∨ (a < b ∧ b < i)) → a < i → i ≤ (l.length : Int) → (l.length : Int) - i ≤ μ → p_impl_HullOf_l3 l r t5 t27 t55 o a k' (μ + 1) b m i y = F (p_spec_l06Hull_l2 l r o' a k (μ + 1) b m i y) := by
  intro μ
  induction μ with
  | zero =>
    intro b m i hb ha hi h
    rw [p_impl_HullOf_l3_s, p_spec_l06Hull_l2_s, decide_eq_false (by omega), cond_false, cond_false]; exact hk _ _ _ (by omega)
  | succ μ ih =>
    intro b m i hb ha hi h
    rw [p_impl_HullOf_l3_s, p_spec_l06Hull_l2_s]
    by_cases hc : i < (l.length : Int)
    · rw [decide_eq_true hc, cond_true, cond_true]
      have e1 := fun m => ih i m (i + 1) (by omega) (by omega) (by omega) (by omega)
      have e2 := fun m => ih b m (i + 1) (by omega) (by omega) (by omega) (by omega)
      generalize fdiv .f32 (fsub .f32 (r.getD a.toNat 0) (r.getD i.toNat 0)) (FloatKind.nearest .f32 (IntKind.wrap .i64 (l.getD i.toNat 0 - l.getD a.toNat 0))) = q
      cases flt .f32 0 q
      · exact e2 _
      · cases fle .f32 m q
        · exact e2 _
        · exact e1 _
    · rw [decide_eq_false hc, cond_false, cond_false]; exact hk _ _ _ (by omega)
theorem hull_go (l : List Int) (r : List Nat) (t5 : Bool) (t27 : Int) (t55 : Bool) : ∀ (μ : Nat) (o : List Int) (a : Int), 0 ≤ a → a < (l.length : Int) → (l.length : Int) - a ≤ μ + 1 → p_impl_HullOf_l2 l r t5 t27 (μ + 1) t55 o a = (p_spec_l06Hull_l1 l r (μ + 1) o a, true) := by
  intro μ
  induction μ with
  | zero =>
    intro o a h0 h1 h4
    rw [p_impl_HullOf_l2_s, p_spec_l06Hull_l1_s]
    refine hull_in (F := fun x => (x, true)) (fun b m i hb => ?_) _ _ _ _ (by omega) (by omega) (by omega) (by omega)
    rcases hb with hb | hb
    · rw [decide_eq_true hb, cond_true, cond_true]
    · omega
  | succ μ ih =>
    intro o a h0 h1 h4
    rw [p_impl_HullOf_l2_s, p_spec_l06Hull_l1_s]
    refine hull_in (F := fun x => (x, true)) (fun b m i hb => ?_) _ _ _ _ (by omega) (by omega) (by omega) (by omega)
    by_cases hc : b < 0
    · rw [decide_eq_true hc, cond_true, cond_true]
    · rw [decide_eq_false hc, cond_false, cond_false]
      exact ih _ _ (by omega) (by omega) (by omega)
theorem hull_chk (l : List Int) (r : List Nat) (hl : 1 ≤ l.length) : ∀ (μ : Nat) (t5 t4 : Bool) (i : Int), (l.length : Int) - i < μ → p_impl_HullOf_l1 l r μ t5 i = bif p_spec_l06Table_l1 l r μ t4 i then (p_spec_l06Hull l r, true) else ([], false) := by
  intro μ
  induction μ with
  | zero => intro t5 t4 i h; exact (rfl : ([], false) = (([], false) : List Int × Bool))
  | succ μ ih =>
    intro t5 t4 i h
    rw [p_impl_HullOf_l1_s, p_spec_l06Table_l1_s]
    have ih := ih t5 t4 (i + 1) (by omega)
    cases decide (i < (l.length : Int))
    · have := hull_go l r t5 i t5 (Int.toNat ((l.length : Int) - 0)) [0] 0 (by omega) (by omega) (by omega)
      rw [p_spec_l06Hull_eq]
      exact this
    · simp only [cond_true]
      rw [show p_impl_isLeast (r.getD i.toNat 0) = p_spec_l02Least (r.getD i.toNat 0) from rfl]
      cases decide (l.getD i.toNat 0 < 0)
      · cases decide (0 < i)
        · cases p_spec_l02Least (r.getD i.toNat 0)
          · rfl
          · exact ih
        · cases decide (l.getD i.toNat 0 ≤ l.getD (i - 1).toNat 0)
          · cases p_spec_l02Least (r.getD i.toNat 0)
            · rfl
            · exact ih
          · rfl
      · rfl
theorem hull_same (l : List Int) (r : List Nat) : p_impl_HullOf l r = (bif !(p_spec_l06Table l r) then ([], false) else (p_spec_l06Hull l r, true)) := by
  rw [p_impl_HullOf_eq, p_spec_l06Table_eq]
  unfold p_impl_within
  by_cases h1 : (l.length : Int) < 1
  · rw [decide_eq_true h1, decide_eq_false (show ¬ (1 : Int) ≤ (l.length : Int) by omega)]; rfl
  · rw [decide_eq_false h1, decide_eq_true (show (1 : Int) ≤ (l.length : Int) by omega), cond_false, cond_true]
    by_cases h2 : 64 < (l.length : Int)
    · rw [decide_eq_true h2, decide_eq_false (show ¬ (l.length : Int) ≤ 64 by omega)]; rfl
    · rw [decide_eq_false h2, decide_eq_true (show (l.length : Int) ≤ 64 by omega), cond_false]
      cases ((r.length : Int) != (l.length : Int))
      · simp only [Bool.not_true, cond_false]
        rw [hull_chk l r (by omega) _ _ false _ (by omega)]
        cases p_spec_l06Table_l1 l r (((l.length : Int) - 0).toNat + 1) false 0 <;> rfl
      · rfl
theorem lastHull_same (l : List Int) (r : List Nat) : p_impl_LastOfHull l r = p_spec_LastOfHull l r := by
  rw [p_impl_LastOfHull_eq, p_spec_LastOfHull_eq, hull_same]
  cases p_spec_l06Table l r <;> rfl
theorem laws_FnExactLastOfHull_true (l_aBits : List Int) (l_aMisses : List Nat) (q0 : (∀ y ∈ l_aBits, I64 y)) (q1 : (∀ y ∈ l_aMisses, W32 y)) : p_laws_FnExactLastOfHull l_aBits l_aMisses = true := by
  rw [p_laws_FnExactLastOfHull_eq, lastHull_same]
  simp only [laws_eqFloat32S_self, laws_eqInt64S_self, bne_self_eq_false, Bool.not_true, cond_false, beq_self_eq_true]
  cases decide ((1048576 : Int) < (l_aBits.length : Int)) <;> cases decide ((1048576 : Int) < (l_aMisses.length : Int)) <;> rfl
/-! laws_FnExactLastOfHull: function 5 -/
def E_laws_FnExactLastOfHull : Env := envOf [(21, S_laws_toInt64S), (22, S_laws_toFloat32S), (26, S_spec_LastOfHull), (27, S_impl_LastOfHull), (17, S_laws_eqInt64S), (24, S_laws_eqFloat32S)]
def F_laws_FnExactLastOfHull : List Value → AHeap → (Value → AHeap → Prop) → Prop
  | [.slice aBits_a aBits_n aBits_e, .slice aMisses_a aMisses_n aMisses_e], H, K => T_laws_FnExactLastOfHull aBits_a aBits_n aBits_e aMisses_a aMisses_n aMisses_e H fun (r1 : Bool) (H' : AHeap) => K (.bool r1) H'
  | _, _, _ => False
def S_laws_FnExactLastOfHull : FSpec := { F := F_laws_FnExactLastOfHull, quiet := false, tame := false }
theorem laws_FnExactLastOfHull_vc (aBits_a : Option Addr) (aBits_n : Nat) (aBits_e : Nat) (aMisses_a : Option Addr) (aMisses_n : Nat) (aMisses_e : Nat) (H : AHeap) (K : Value → AHeap → Prop) : bodyK Try.prog E_laws_FnExactLastOfHull Try.f5 [.slice aBits_a aBits_n aBits_e, .slice aMisses_a aMisses_n aMisses_e] H K =
  (Br (decide ((1048576 : Int) < (aBits_n : Int))) (K (.bool true) H) (Br (decide ((1048576 : Int) < (aMisses_n : Int))) (K (.bool true) H) (T_laws_toInt64S aBits_a aBits_n aBits_e H fun (a1 : Option Addr) (r1 : Nat) (r2 : Nat) (H1 : AHeap) => T_laws_toFloat32S aMisses_a aMisses_n aMisses_e H1 fun (a2 : Option Addr) (r3 : Nat) (r4 : Nat) (H2 : AHeap) => T_spec_LastOfHull a1 r1 r2 a2 r3 r4 H2 fun (r5 : Int) (r6 : Bool) (H3 : AHeap) => T_laws_toInt64S aBits_a aBits_n aBits_e H3 fun (a3 : Option Addr) (r7 : Nat) (r8 : Nat) (H4 : AHeap) => T_laws_toFloat32S aMisses_a aMisses_n aMisses_e H4 fun (a4 : Option Addr) (r9 : Nat) (r10 : Nat) (H5 : AHeap) => T_impl_LastOfHull a3 r7 r8 a4 r9 r10 H5 fun (r11 : Int) (r12 : Bool) (H6 : AHeap) => Br ((r11 : Int) != r5) (K (.bool false) H6) (Br (!(r12 == r6)) (K (.bool false) H6) (T_laws_toInt64S aBits_a aBits_n aBits_e H6 fun (a5 : Option Addr) (r13 : Nat) (r14 : Nat) (H7 : AHeap) => T_laws_eqInt64S a3 r7 r8 a5 r13 r14 H7 fun (r15 : Bool) (H8 : AHeap) => Br (!r15) (K (.bool false) H8) (T_laws_toFloat32S aMisses_a aMisses_n aMisses_e H8 fun (a6 : Option Addr) (r16 : Nat) (r17 : Nat) (H9 : AHeap) => T_laws_eqFloat32S a4 r9 r10 a6 r16 r17 H9 fun (r18 : Bool) (H10 : AHeap) => Br (!r18) (K (.bool false) H10) (K (.bool true) H10))))))) := by kernel_rfl
theorem E_laws_FnExactLastOfHull_ok : ∀ g, FnOk Try.prog g (E_laws_FnExactLastOfHull g) := FnOk.envOf (by
  intro x hx
  simp only [List.mem_cons, List.not_mem_nil, or_false] at hx
  rcases hx with rfl | rfl | rfl | rfl | rfl | rfl
  · exact laws_toInt64S_ok
  · exact laws_toFloat32S_ok
  · exact spec_LastOfHull_ok
  · exact impl_LastOfHull_ok
  · exact laws_eqInt64S_ok
  · exact laws_eqFloat32S_ok)
set_option maxHeartbeats 1000000 in
theorem laws_FnExactLastOfHull_main (aBits_a : Option Addr) (aBits_n : Nat) (aBits_e : Nat) (aMisses_a : Option Addr) (aMisses_n : Nat) (aMisses_e : Nat) (H : AHeap) (K : Value → AHeap → Prop) (h : T_laws_FnExactLastOfHull aBits_a aBits_n aBits_e aMisses_a aMisses_n aMisses_e H fun (r1 : Bool) (H' : AHeap) => K (.bool r1) H') : bodyK Try.prog E_laws_FnExactLastOfHull Try.f5 [.slice aBits_a aBits_n aBits_e, .slice aMisses_a aMisses_n aMisses_e] H K := by
  rw [laws_FnExactLastOfHull_vc]
  obtain ⟨l_aBits, l_aMisses, h_0, h_1, h_2, h_3, h_4, h_5, hk⟩ := h
  have i_aBits := h_0
  obtain rfl := i_aBits.eqn
  have i_aMisses := h_3
  obtain rfl := i_aMisses.eqn
  have hl := laws_FnExactLastOfHull_true l_aBits l_aMisses h_1 h_4
  have e : p_laws_FnExactLastOfHull l_aBits l_aMisses = _ := rfl
  have e := e.trans (p_laws_FnExactLastOfHull_eq l_aBits l_aMisses)
  have e := hl.symm.trans e
  have g0 := Grow.refl H
  refine Br.intro (fun c_1 => ?_) (fun c_1 => ?_)
  · have e := e.trans (cond_t c_1)
    have c_1' := of_decide_eq_true c_1
    first | exact hk _ | (exfalso; cases e; done) | (rw [← e]; exact hk _)
  · have e := e.trans (cond_f c_1)
    have c_1' := of_decide_eq_false c_1
    refine Br.intro (fun c_2 => ?_) (fun c_2 => ?_)
    · have e := e.trans (cond_t c_2)
      have c_2' := of_decide_eq_true c_2
      first | exact hk _ | (exfalso; cases e; done) | (rw [← e]; exact hk _)
    · have e := e.trans (cond_f c_2)
      have c_2' := of_decide_eq_false c_2
      refine T_laws_toInt64S_i ⟨_, (i_aBits.grow g0), (by first | omega | (simp only [List.length_set, List.length_replicate, List.length_append, List.length_cons, List.length_nil, List.length_take, List.length_drop, marks_length]; done) | (simp only [List.length_set, List.length_replicate, List.length_append, List.length_cons, List.length_nil, List.length_take, List.length_drop, marks_length]; omega)), fun a_3 n_4 e_5 H_1 g_7 r_6 => ?_⟩
      have l_8 := g_7.1
      have g_9 := g0.trans g_7
      have l_10 := g_9.1
      obtain rfl := r_6.isL.eqn
      have u_11 := r_6.up
      have u_12 := r_6.lo
      refine T_laws_toFloat32S_i ⟨_, (i_aMisses.grow g_9), (by first | omega | (simp only [List.length_set, List.length_replicate, List.length_append, List.length_cons, List.length_nil, List.length_take, List.length_drop, marks_length]; done) | (simp only [List.length_set, List.length_replicate, List.length_append, List.length_cons, List.length_nil, List.length_take, List.length_drop, marks_length]; omega)), fun a_14 n_15 e_16 H_2 g_18 r_17 => ?_⟩
      have l_19 := g_18.1
      have g_20 := g_9.trans g_18
      have l_21 := g_20.1
      have r_22 := r_6.grow g_18
      obtain rfl := r_17.isL.eqn
      have u_23 := r_17.up
      have u_24 := r_17.lo
      refine T_spec_LastOfHull_i ⟨_, _, r_22.isL, r_17.isL, (by first | omega | (simp only [List.length_set, List.length_replicate, List.length_append, List.length_cons, List.length_nil, List.length_take, List.length_drop, marks_length]; done) | (simp only [List.length_set, List.length_replicate, List.length_append, List.length_cons, List.length_nil, List.length_take, List.length_drop, marks_length]; omega)), (by first | omega | (simp only [List.length_set, List.length_replicate, List.length_append, List.length_cons, List.length_nil, List.length_take, List.length_drop, marks_length]; done) | (simp only [List.length_set, List.length_replicate, List.length_append, List.length_cons, List.length_nil, List.length_take, List.length_drop, marks_length]; omega)), fun  H_3 g_26  => ?_⟩
      have l_27 := g_26.1
      have g_28 := g_20.trans g_26
      have l_29 := g_28.1
      have r_30 := r_22.grow g_26
      have r_31 := r_17.grow g_26
      refine T_laws_toInt64S_i ⟨_, (i_aBits.grow g_28), (by first | omega | (simp only [List.length_set, List.length_replicate, List.length_append, List.length_cons, List.length_nil, List.length_take, List.length_drop, marks_length]; done) | (simp only [List.length_set, List.length_replicate, List.length_append, List.length_cons, List.length_nil, List.length_take, List.length_drop, marks_length]; omega)), fun a_32 n_33 e_34 H_4 g_36 r_35 => ?_⟩
      have l_37 := g_36.1
      have g_38 := g_28.trans g_36
      have l_39 := g_38.1
      have r_40 := r_30.grow g_36
      have r_41 := r_31.grow g_36
      obtain rfl := r_35.isL.eqn
      have u_42 := r_35.up
      have u_43 := r_35.lo
      refine T_laws_toFloat32S_i ⟨_, (i_aMisses.grow g_38), (by first | omega | (simp only [List.length_set, List.length_replicate, List.length_append, List.length_cons, List.length_nil, List.length_take, List.length_drop, marks_length]; done) | (simp only [List.length_set, List.length_replicate, List.length_append, List.length_cons, List.length_nil, List.length_take, List.length_drop, marks_length]; omega)), fun a_45 n_46 e_47 H_5 g_49 r_48 => ?_⟩
      have l_50 := g_49.1
      have g_51 := g_38.trans g_49
      have l_52 := g_51.1
      have r_53 := r_40.grow g_49
      have r_54 := r_41.grow g_49
      have r_55 := r_35.grow g_49
      obtain rfl := r_48.isL.eqn
      have u_56 := r_48.up
      have u_57 := r_48.lo
      refine T_impl_LastOfHull_i ⟨_, _, r_55.isL, r_48.isL, (by first | omega | (simp only [List.length_set, List.length_replicate, List.length_append, List.length_cons, List.length_nil, List.length_take, List.length_drop, marks_length]; done) | (simp only [List.length_set, List.length_replicate, List.length_append, List.length_cons, List.length_nil, List.length_take, List.length_drop, marks_length]; omega)), (by first | omega | (simp only [List.length_set, List.length_replicate, List.length_append, List.length_cons, List.length_nil, List.length_take, List.length_drop, marks_length]; done) | (simp only [List.length_set, List.length_replicate, List.length_append, List.length_cons, List.length_nil, List.length_take, List.length_drop, marks_length]; omega)), fun  H_6 g_59  => ?_⟩
      have l_60 := g_59.1
      have g_61 := g_51.trans g_59
      have l_62 := g_61.1
      have r_63 := r_53.grow g_59
      have r_64 := r_54.grow g_59
      have r_65 := r_55.grow g_59
      have r_66 := r_48.grow g_59
      refine Br.intro (fun c_67 => ?_) (fun c_67 => ?_)
      · have e := e.trans (cond_t c_67)
        have c_67' := ine_t c_67
        first | exact hk _ | (exfalso; cases e; done) | (rw [← e]; exact hk _)
      · have e := e.trans (cond_f c_67)
        have c_67' := ine_f c_67
        refine Br.intro (fun c_68 => ?_) (fun c_68 => ?_)
        · have e := e.trans (cond_t c_68)
          have c_68n := nf_of_t c_68
          first | exact hk _ | (exfalso; cases e; done) | (rw [← e]; exact hk _)
        · have e := e.trans (cond_f c_68)
          have c_68n := nt_of_f c_68
          refine T_laws_toInt64S_i ⟨_, (i_aBits.grow g_61), (by first | omega | (simp only [List.length_set, List.length_replicate, List.length_append, List.length_cons, List.length_nil, List.length_take, List.length_drop, marks_length]; done) | (simp only [List.length_set, List.length_replicate, List.length_append, List.length_cons, List.length_nil, List.length_take, List.length_drop, marks_length]; omega)), fun a_69 n_70 e_71 H_7 g_73 r_72 => ?_⟩
          have l_74 := g_73.1
          have g_75 := g_61.trans g_73
          have l_76 := g_75.1
          have r_77 := r_63.grow g_73
          have r_78 := r_64.grow g_73
          have r_79 := r_65.grow g_73
          have r_80 := r_66.grow g_73
          obtain rfl := r_72.isL.eqn
          have u_81 := r_72.up
          have u_82 := r_72.lo
          refine T_laws_eqInt64S_i ⟨_, _, r_79.isL, r_72.isL, (by first | omega | (simp only [List.length_set, List.length_replicate, List.length_append, List.length_cons, List.length_nil, List.length_take, List.length_drop, marks_length]; done) | (simp only [List.length_set, List.length_replicate, List.length_append, List.length_cons, List.length_nil, List.length_take, List.length_drop, marks_length]; omega)), (by first | omega | (simp only [List.length_set, List.length_replicate, List.length_append, List.length_cons, List.length_nil, List.length_take, List.length_drop, marks_length]; done) | (simp only [List.length_set, List.length_replicate, List.length_append, List.length_cons, List.length_nil, List.length_take, List.length_drop, marks_length]; omega)), ?_⟩
          refine Br.intro (fun c_84 => ?_) (fun c_84 => ?_)
          · have e := e.trans (cond_t c_84)
            have c_84n := nf_of_t c_84
            first | exact hk _ | (exfalso; cases e; done) | (rw [← e]; exact hk _)
          · have e := e.trans (cond_f c_84)
            have c_84n := nt_of_f c_84
            refine T_laws_toFloat32S_i ⟨_, (i_aMisses.grow g_75), (by first | omega | (simp only [List.length_set, List.length_replicate, List.length_append, List.length_cons, List.length_nil, List.length_take, List.length_drop, marks_length]; done) | (simp only [List.length_set, List.length_replicate, List.length_append, List.length_cons, List.length_nil, List.length_take, List.length_drop, marks_length]; omega)), fun a_85 n_86 e_87 H_8 g_89 r_88 => ?_⟩
            have l_90 := g_89.1
            have g_91 := g_75.trans g_89
            have l_92 := g_91.1
            have r_93 := r_77.grow g_89
            have r_94 := r_78.grow g_89
            have r_95 := r_79.grow g_89
            have r_96 := r_80.grow g_89
            have r_97 := r_72.grow g_89
            obtain rfl := r_88.isL.eqn
            have u_98 := r_88.up
            have u_99 := r_88.lo
            refine T_laws_eqFloat32S_i ⟨_, _, r_96.isL, r_88.isL, (by first | omega | (simp only [List.length_set, List.length_replicate, List.length_append, List.length_cons, List.length_nil, List.length_take, List.length_drop, marks_length]; done) | (simp only [List.length_set, List.length_replicate, List.length_append, List.length_cons, List.length_nil, List.length_take, List.length_drop, marks_length]; omega)), (by first | omega | (simp only [List.length_set, List.length_replicate, List.length_append, List.length_cons, List.length_nil, List.length_take, List.length_drop, marks_length]; done) | (simp only [List.length_set, List.length_replicate, List.length_append, List.length_cons, List.length_nil, List.length_take, List.length_drop, marks_length]; omega)), ?_⟩
            refine Br.intro (fun c_101 => ?_) (fun c_101 => ?_)
            · have e := e.trans (cond_t c_101)
              have c_101n := nf_of_t c_101
              first | exact hk _ | (exfalso; cases e; done) | (rw [← e]; exact hk _)
            · have e := e.trans (cond_f c_101)
              have c_101n := nt_of_f c_101
              first | exact hk _ | (exfalso; cases e; done) | (rw [← e]; exact hk _)
theorem laws_FnExactLastOfHull_ok : FnOk Try.prog 5 S_laws_FnExactLastOfHull := by
  refine FnOk.body mix_ok E_laws_FnExactLastOfHull_ok Try.func5 rfl (by kernel_rfl) (by kernel_rfl) ?_ ?_ ?_ ?_ ?_
  · intro args H K K' h hk
    simp only [S_laws_FnExactLastOfHull] at *
    unfold F_laws_FnExactLastOfHull at *
    split at hk
    · obtain ⟨l_aBits, l_aMisses, h_0, h_1, h_2, h_3, h_4, h_5, k⟩ := hk
      exact ⟨l_aBits, l_aMisses, h_0, h_1, h_2, h_3, h_4, h_5, (fun H' => h _ _ (k H'))⟩
    · exact hk.elim
  · intro hq; cases hq
  · intro args H K hk
    simp only [S_laws_FnExactLastOfHull] at *
    unfold F_laws_FnExactLastOfHull at *
    split at hk
    · obtain ⟨l_aBits, l_aMisses, h_0, h_1, h_2, h_3, h_4, h_5, k⟩ := hk
      exact ⟨_, _, k []⟩
    · exact hk.elim
  · intro hq; cases hq
  · have mm := @laws_FnExactLastOfHull_main
    revert mm
    generalize bodyK Try.prog E_laws_FnExactLastOfHull Try.f5 = Q
    intro mm args H K hk
    simp only [S_laws_FnExactLastOfHull] at *
    unfold F_laws_FnExactLastOfHull at *
    split at hk
    · exact mm _ _ _ _ _ _ H K hk
    · exact hk.elim
end Go.Proofs.Ytfofkmlohmodeab.Ai
