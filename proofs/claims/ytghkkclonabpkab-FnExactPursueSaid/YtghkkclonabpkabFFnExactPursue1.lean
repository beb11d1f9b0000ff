/- What functions of the program come to on the abstract machine, and that they do so; printed by a program of mine around proofs of mine. -/
import Derived.Test.YtghkkclonabpkabFFnExactPursue0
set_option linter.unusedVariables false
set_option linter.unusedSimpArgs false
set_option linter.defProp false
set_option maxRecDepth 100000
namespace Go.Proofs.Ytghkkclonabpkab.Ai
open Go
attribute [local irreducible] bodyK bodyL

def p_spec_l05Pursue_l3 (l_list : List Nat) (l_scales : List Nat) (t6 : Bool) (vsome : Bool) (t24 : Int) (q1_1 : Int) (q1_2 : Nat) (q1_3 : Nat) (q1_4 : Int) (q1_5 : Nat) (q1_6 : Nat) (t6_6 : Bool) (vsome_8 : Bool) (i : Int) (q2_1 : Int) (q2_2 : Nat) (q2_3 : Nat) (q2_4 : Int) (q2_5 : Nat) (q2_6 : Nat) (k3_4 : Nat → Int → Int → Nat → Nat → Int → Nat → Nat → (Int × Nat × Nat × (List Nat) × Bool)) : Nat → Nat → Int → Int → Nat → Nat → Int → Nat → Nat → Int × Nat × Nat × (List Nat) × Bool
  | 0, _, _, _, _, _, _, _, _ => (0, 0, 0, [], false)
  | μ3 + 1, q, t42, q3_1, q3_2, q3_3, q3_4, q3_5, q3_6 => (bif decide ((t42 : Int) < (((p_spec_l05Of (l_list.length : Int) i (((l_scales).getD (t24 : Int).toNat 0)) 1065353216)).length : Int)) then (p_spec_l05Pursue_l3 l_list l_scales t6 vsome t24 q1_1 q1_2 q1_3 q1_4 q1_5 q1_6 t6_6 vsome_8 i q2_1 q2_2 q2_3 q2_4 q2_5 q2_6 k3_4 μ3 (fadd .f32 q (fmul .f32 ((((p_spec_l05Of (l_list.length : Int) i (((l_scales).getD (t24 : Int).toNat 0)) 1065353216)).getD (t42 : Int).toNat 0)) (((l_list).getD (t42 : Int).toNat 0)))) (t42 + 1) q3_1 q3_2 q3_3 q3_4 q3_5 q3_6) else (k3_4 q t42 q3_1 q3_2 q3_3 q3_4 q3_5 q3_6))
def p_spec_l05Pursue_l3_s := fun l_list l_scales t6 vsome t24 q1_1 q1_2 q1_3 q1_4 q1_5 q1_6 t6_6 vsome_8 i q2_1 q2_2 q2_3 q2_4 q2_5 q2_6 k3_4 μ3 q t42 q3_1 q3_2 q3_3 q3_4 q3_5 q3_6 => @p_spec_l05Pursue_l3.eq_2 l_list l_scales t6 vsome t24 q1_1 q1_2 q1_3 q1_4 q1_5 q1_6 t6_6 vsome_8 i q2_1 q2_2 q2_3 q2_4 q2_5 q2_6 k3_4 q t42 q3_1 q3_2 q3_3 q3_4 q3_5 q3_6 μ3
def p_spec_l05Pursue_l2 (l_list : List Nat) (l_scales : List Nat) (t6 : Bool) (vsome : Bool) (t24 : Int) (q1_1 : Int) (q1_2 : Nat) (q1_3 : Nat) (q1_4 : Int) (q1_5 : Nat) (q1_6 : Nat) (k2_2 : Bool → Bool → Int → Int → Nat → Nat → Int → Nat → Nat → (Int × Nat × Nat × (List Nat) × Bool)) : Nat → Bool → Bool → Int → Int → Nat → Nat → Int → Nat → Nat → Int × Nat × Nat × (List Nat) × Bool
  | 0, _, _, _, _, _, _, _, _, _ => (0, 0, 0, [], false)
  | μ2 + 1, t6_6, vsome_8, i, q2_1, q2_2, q2_3, q2_4, q2_5, q2_6 => (bif decide ((i : Int) < (l_list.length : Int)) then (p_spec_l05Pursue_l3 l_list l_scales t6 vsome t24 q1_1 q1_2 q1_3 q1_4 q1_5 q1_6 t6_6 vsome_8 i q2_1 q2_2 q2_3 q2_4 q2_5 q2_6 (fun (q : Nat) (t42 : Int) (q3_1 : Int) (q3_2 : Nat) (q3_3 : Nat) (q3_4 : Int) (q3_5 : Nat) (q3_6 : Nat) => (bif !(p_spec_l01Finite q) then ((0 : Int), 0, 0, [], false) else (bif !vsome_8 then (p_spec_l05Pursue_l2 l_list l_scales t6 vsome t24 q1_1 q1_2 q1_3 q1_4 q1_5 q1_6 k2_2 μ2 t6_6 true (i + 1) q3_1 q3_2 q3_3 i (((l_scales).getD (t24 : Int).toNat 0)) q) else (bif flt .f32 (p_spec_l03Size q3_6) (p_spec_l03Size q) then (p_spec_l05Pursue_l2 l_list l_scales t6 vsome t24 q1_1 q1_2 q1_3 q1_4 q1_5 q1_6 k2_2 μ2 t6_6 true (i + 1) q3_1 q3_2 q3_3 i (((l_scales).getD (t24 : Int).toNat 0)) q) else (p_spec_l05Pursue_l2 l_list l_scales t6 vsome t24 q1_1 q1_2 q1_3 q1_4 q1_5 q1_6 k2_2 μ2 t6_6 vsome_8 (i + 1) q3_1 q3_2 q3_3 q3_4 q3_5 q3_6))))) (Int.toNat ((((p_spec_l05Of (l_list.length : Int) i (((l_scales).getD (t24 : Int).toNat 0)) 1065353216)).length : Int) - (0 : Int)) + 1) 0 (0 : Int) q2_1 q2_2 q2_3 q2_4 q2_5 q2_6) else (k2_2 t6_6 vsome_8 i q2_1 q2_2 q2_3 q2_4 q2_5 q2_6))
def p_spec_l05Pursue_l2_s := fun l_list l_scales t6 vsome t24 q1_1 q1_2 q1_3 q1_4 q1_5 q1_6 k2_2 μ2 t6_6 vsome_8 i q2_1 q2_2 q2_3 q2_4 q2_5 q2_6 => @p_spec_l05Pursue_l2.eq_2 l_list l_scales t6 vsome t24 q1_1 q1_2 q1_3 q1_4 q1_5 q1_6 k2_2 t6_6 vsome_8 i q2_1 q2_2 q2_3 q2_4 q2_5 q2_6 μ2
def p_spec_l05Pursue_l4 (l_list : List Nat) (l_scales : List Nat) (t6 : Bool) (vsome : Bool) (t24 : Int) (q1_1 : Int) (q1_2 : Nat) (q1_3 : Nat) (q1_4 : Int) (q1_5 : Nat) (q1_6 : Nat) (k4_6 : (List Nat) → Int → Int → Nat → Nat → (Int × Nat × Nat × (List Nat) × Bool)) : Nat → (List Nat) → Int → Int → Nat → Nat → Int × Nat × Nat × (List Nat) × Bool
  | 0, _, _, _, _, _ => (0, 0, 0, [], false)
  | μ4 + 1, l_left, t84, q4_1, q4_2, q4_3 => (bif decide ((t84 : Int) < (l_list.length : Int)) then (p_spec_l05Pursue_l4 l_list l_scales t6 vsome t24 q1_1 q1_2 q1_3 q1_4 q1_5 q1_6 k4_6 μ4 ((l_left ++ [(fsub .f32 (((l_list).getD (t84 : Int).toNat 0)) ((((p_spec_l05Of (l_list.length : Int) q1_4 q1_5 q1_6)).getD (t84 : Int).toNat 0)))])) (t84 + 1) q4_1 q4_2 q4_3) else (k4_6 l_left t84 q4_1 q4_2 q4_3))
def p_spec_l05Pursue_l4_s := fun l_list l_scales t6 vsome t24 q1_1 q1_2 q1_3 q1_4 q1_5 q1_6 k4_6 μ4 l_left t84 q4_1 q4_2 q4_3 => @p_spec_l05Pursue_l4.eq_2 l_list l_scales t6 vsome t24 q1_1 q1_2 q1_3 q1_4 q1_5 q1_6 k4_6 l_left t84 q4_1 q4_2 q4_3 μ4
def p_spec_l05Pursue_l1 (l_list : List Nat) (l_scales : List Nat) : Nat → Bool → Bool → Int → Int → Nat → Nat → Int → Nat → Nat → Int × Nat × Nat × (List Nat) × Bool
  | 0, _, _, _, _, _, _, _, _, _ => (0, 0, 0, [], false)
  | μ + 1, t6, vsome, t24, q1_1, q1_2, q1_3, q1_4, q1_5, q1_6 => (bif decide ((t24 : Int) < (l_scales.length : Int)) then (p_spec_l05Pursue_l2 l_list l_scales t6 vsome t24 q1_1 q1_2 q1_3 q1_4 q1_5 q1_6 (fun (t6_6 : Bool) (vsome_8 : Bool) (i : Int) (q2_1 : Int) (q2_2 : Nat) (q2_3 : Nat) (q2_4 : Int) (q2_5 : Nat) (q2_6 : Nat) => (p_spec_l05Pursue_l1 l_list l_scales μ t6_6 vsome_8 (t24 + 1) q2_1 q2_2 q2_3 q2_4 q2_5 q2_6)) (Int.toNat ((l_list.length : Int) - (0 : Int)) + 1) t6 vsome (0 : Int) q1_1 q1_2 q1_3 q1_4 q1_5 q1_6) else (p_spec_l05Pursue_l4 l_list l_scales t6 vsome t24 q1_1 q1_2 q1_3 q1_4 q1_5 q1_6 (fun (l_left : List Nat) (t84 : Int) (q4_1 : Int) (q4_2 : Nat) (q4_3 : Nat) => (bif !(p_spec_l02Finite l_left) then ((0 : Int), 0, 0, [], false) else (q1_4, q1_5, q1_6, l_left, true))) (Int.toNat ((l_list.length : Int) - (0 : Int)) + 1) ([] : List Nat) (0 : Int) q1_1 q1_2 q1_3))
def p_spec_l05Pursue_l1_s := fun l_list l_scales μ t6 vsome t24 q1_1 q1_2 q1_3 q1_4 q1_5 q1_6 => @p_spec_l05Pursue_l1.eq_2 l_list l_scales t6 vsome t24 q1_1 q1_2 q1_3 q1_4 q1_5 q1_6 μ
def p_spec_l05Pursue (l_list : List Nat) (l_scales : List Nat) : Int × Nat × Nat × (List Nat) × Bool := (p_spec_l05Pursue_l1 l_list l_scales (Int.toNat ((l_scales.length : Int) - (0 : Int)) + 1) false false (0 : Int) 0 0 0 0 0 0)
def p_spec_l05Pursue_eq := @p_spec_l05Pursue.eq_1
def T_spec_l05Pursue (list_a : Option Addr) (list_n : Nat) (list_e : Nat) (scales_a : Option Addr) (scales_n : Nat) (scales_e : Nat) (H : AHeap) (K : Int → Nat → Nat → (Option Addr) → Nat → Nat → Bool → AHeap → Prop) : Prop := ∃ (l_list : List Nat), ∃ (l_scales : List Nat), IsL fF H list_a list_n l_list ∧ IsL fF H scales_a scales_n l_scales ∧ l_list.length < 1073741824 ∧ l_scales.length < 1073741824 ∧ (∀ y ∈ l_scales, okS y) ∧ 1 ≤ l_list.length ∧ l_list.length ≤ 128 ∧ 1 ≤ l_scales.length ∧ ((∀ (r2_a : Option Addr) (r2_n r2_e : Nat), ∀ H' : AHeap, Grow H H' → OwnS fF H' H.length r2_a r2_n r2_e ((p_spec_l05Pursue l_list l_scales).2.2.2.1) → K ((p_spec_l05Pursue l_list l_scales).1) ((p_spec_l05Pursue l_list l_scales).2.1) ((p_spec_l05Pursue l_list l_scales).2.2.1) r2_a r2_n r2_e ((p_spec_l05Pursue l_list l_scales).2.2.2.2) H'))
theorem T_spec_l05Pursue_i {list_a : Option Addr} {list_n : Nat} {list_e : Nat} {scales_a : Option Addr} {scales_n : Nat} {scales_e : Nat} {H : AHeap} {K : Int → Nat → Nat → (Option Addr) → Nat → Nat → Bool → AHeap → Prop} (h : ∃ (l_list : List Nat), ∃ (l_scales : List Nat), IsL fF H list_a list_n l_list ∧ IsL fF H scales_a scales_n l_scales ∧ l_list.length < 1073741824 ∧ l_scales.length < 1073741824 ∧ (∀ y ∈ l_scales, okS y) ∧ 1 ≤ l_list.length ∧ l_list.length ≤ 128 ∧ 1 ≤ l_scales.length ∧ ((∀ (r2_a : Option Addr) (r2_n r2_e : Nat), ∀ H' : AHeap, Grow H H' → OwnS fF H' H.length r2_a r2_n r2_e ((p_spec_l05Pursue l_list l_scales).2.2.2.1) → K ((p_spec_l05Pursue l_list l_scales).1) ((p_spec_l05Pursue l_list l_scales).2.1) ((p_spec_l05Pursue l_list l_scales).2.2.1) r2_a r2_n r2_e ((p_spec_l05Pursue l_list l_scales).2.2.2.2) H'))) : T_spec_l05Pursue list_a list_n list_e scales_a scales_n scales_e H K := h
theorem spec_PO_l4 (N : Nat) (l sc : List Nat) (t6 fo : Bool) (t35 : Int) (a : Int) (b c : Nat) (d : Int) (e f : Nat) (K : List Nat → Int → Int → Nat → Nat → (Int × Nat × Nat × (List Nat) × Bool)) (hK : ∀ o t x y z, o.length ≤ N → RL N (K o t x y z)) :
    ∀ (μ : Nat) (o : List Nat) (t x : Int) (y z : Nat), o.length + μ ≤ N + 1 → RL N (p_spec_l05Pursue_l4 l sc t6 fo t35 a b c d e f K μ o t x y z) := by
  intro μ
  induction μ with
  | zero => intro o t x y z h; exact rl0 N
  | succ μ ih =>
    intro o t x y z h
    rw [p_spec_l05Pursue_l4_s]
    refine cnb (P := RL N) (fun _ => ih _ _ _ _ _ ?_) (fun _ => hK _ _ _ _ _ o3)
    rw [List.length_append, List.length_singleton]; omega
theorem spec_PO_l3 (N : Nat) (l sc : List Nat) (t6 fo : Bool) (t35 : Int) (a : Int) (b c : Nat) (d : Int) (e f : Nat) (t7 f8 : Bool) (t50 g : Int) (h i : Nat) (j : Int) (m n : Nat) (K : Nat → Int → Int → Nat → Nat → Int → Nat → Nat → (Int × Nat × Nat × (List Nat) × Bool)) (hK : ∀ q t x y z u v w, RL N (K q t x y z u v w)) :
    ∀ (μ q : Nat) (t x : Int) (y z : Nat) (u : Int) (v w : Nat), RL N (p_spec_l05Pursue_l3 l sc t6 fo t35 a b c d e f t7 f8 t50 g h i j m n K μ q t x y z u v w) := by
  intro μ
  induction μ with
  | zero => intro q t x y z u v w; exact rl0 N
  | succ μ ih =>
    intro q t x y z u v w
    rw [p_spec_l05Pursue_l3_s]
    exact cnb (P := RL N) (fun _ => ih _ _ _ _ _ _ _ _) (fun _ => hK _ _ _ _ _ _ _ _)
theorem spec_PO_l2 (N : Nat) (l sc : List Nat) (t6 fo : Bool) (t35 : Int) (a : Int) (b c : Nat) (d : Int) (e f : Nat) (K : Bool → Bool → Int → Int → Nat → Nat → Int → Nat → Nat → (Int × Nat × Nat × (List Nat) × Bool)) (hK : ∀ p q t x y z u v w, RL N (K p q t x y z u v w)) :
    ∀ (μ : Nat) (p q : Bool) (t x : Int) (y z : Nat) (u : Int) (v w : Nat), RL N (p_spec_l05Pursue_l2 l sc t6 fo t35 a b c d e f K μ p q t x y z u v w) := by
  intro μ
  induction μ with
  | zero => intro p q t x y z u v w; exact rl0 N
  | succ μ ih =>
    intro p q t x y z u v w
    rw [p_spec_l05Pursue_l2_s]
    refine cnb (P := RL N) (fun _ => ?_) (fun _ => hK _ _ _ _ _ _ _ _ _)
    refine spec_PO_l3 N _ _ _ _ _ _ _ _ _ _ _ _ _ _ _ _ _ _ _ _ _ (fun q t x y z u v w => ?_) _ _ _ _ _ _ _ _ _
    refine cnb (P := RL N) (fun _ => rl0 _) (fun _ => ?_)
    exact cnb (P := RL N) (fun _ => ih _ _ _ _ _ _ _ _ _) (fun _ => cnb (P := RL N) (fun _ => ih _ _ _ _ _ _ _ _ _) (fun _ => ih _ _ _ _ _ _ _ _ _))
theorem spec_PO_l1 (l sc : List Nat) : ∀ (μ : Nat) (t6 fo : Bool) (t35 : Int) (a : Int) (b c : Nat) (d : Int) (e f : Nat), RL l.length (p_spec_l05Pursue_l1 l sc μ t6 fo t35 a b c d e f) := by
  intro μ
  induction μ with
  | zero => intro t6 fo t35 a b c d e f; exact rl0 _
  | succ μ ih =>
    intro t6 fo t35 a b c d e f
    rw [p_spec_l05Pursue_l1_s]
    refine cnb (P := RL l.length) (fun _ => ?_) (fun _ => ?_)
    · exact spec_PO_l2 _ _ _ _ _ _ _ _ _ _ _ _ _ (fun p q t x y z u v w => ih _ _ _ _ _ _ _ _ _) _ _ _ _ _ _ _ _ _ _
    · refine spec_PO_l4 _ _ _ _ _ _ _ _ _ _ _ _ _ (fun o t x y z ho => ?_) _ _ _ _ _ _ o38
      exact cnb (P := RL l.length) (fun _ => rl0 _) (fun _ => ho)
theorem spec_l05Pursue_len (l sc : List Nat) : (p_spec_l05Pursue l sc).2.2.2.1.length ≤ l.length := by
  rw [p_spec_l05Pursue_eq]; exact spec_PO_l1 _ _ _ _ _ _ _ _ _ _ _ _
theorem o25 {P : Prop} (h : P := by rw [List.length_append, List.length_singleton]; omega) : P := h
theorem spec_PP_l4 (P : (Int × Nat × Nat × (List Nat) × Bool) → Prop) (h0 : P (0, 0, 0, [], false)) (l sc : List Nat) (t6 fo : Bool) (t35 : Int) (a : Int) (b c : Nat) (d : Int) (e f : Nat) (K : List Nat → Int → Int → Nat → Nat → (Int × Nat × Nat × (List Nat) × Bool)) (hK : ∀ o t x y z, o.length = l.length → P (K o t x y z)) :
    ∀ (μ : Nat) (o : List Nat) (t x : Int) (y z : Nat), (o.length : Int) = t → t ≤ (l.length : Int) → ((l.length : Int) - t).toNat < μ → P (p_spec_l05Pursue_l4 l sc t6 fo t35 a b c d e f K μ o t x y z) := by
  intro μ
  induction μ with
  | zero => intro o t x y z h1 h2 h3; omega
  | succ μ ih =>
    intro o t x y z h1 h2 h3
    rw [p_spec_l05Pursue_l4_s]
    by_cases ht : t < (l.length : Int)
    · rw [decide_eq_true ht, cond_true]
      exact ih _ _ _ _ _ o25 o3 o3
    · rw [decide_eq_false ht, cond_false]; exact hK _ _ _ _ _ o3
theorem spec_PP_l3 (P : (Int × Nat × Nat × (List Nat) × Bool) → Prop) (h0 : P (0, 0, 0, [], false)) (l sc : List Nat) (t6 fo : Bool) (t35 : Int) (a : Int) (b c : Nat) (d : Int) (e f : Nat) (t7 f8 : Bool) (t50 g : Int) (h i : Nat) (j : Int) (m n : Nat) (K : Nat → Int → Int → Nat → Nat → Int → Nat → Nat → (Int × Nat × Nat × (List Nat) × Bool)) (hK : ∀ q t x y z u v w, P (K q t x y z u v w)) :
    ∀ (μ q : Nat) (t x : Int) (y z : Nat) (u : Int) (v w : Nat), P (p_spec_l05Pursue_l3 l sc t6 fo t35 a b c d e f t7 f8 t50 g h i j m n K μ q t x y z u v w) := by
  intro μ
  induction μ with
  | zero => intro q t x y z u v w; exact h0
  | succ μ ih =>
    intro q t x y z u v w
    rw [p_spec_l05Pursue_l3_s]
    exact cnb (P := P) (fun _ => ih _ _ _ _ _ _ _ _) (fun _ => hK _ _ _ _ _ _ _ _)
theorem spec_PP_l2 (P : (Int × Nat × Nat × (List Nat) × Bool) → Prop) (h0 : P (0, 0, 0, [], false)) (l sc : List Nat) (t6 fo : Bool) (t35 : Int) (a : Int) (b c : Nat) (d : Int) (e f : Nat) (K : Bool → Bool → Int → Int → Nat → Nat → Int → Nat → Nat → (Int × Nat × Nat × (List Nat) × Bool)) (hK : ∀ p q t x y z u v w, P (K p q t x y z u v w)) :
    ∀ (μ : Nat) (p q : Bool) (t x : Int) (y z : Nat) (u : Int) (v w : Nat), P (p_spec_l05Pursue_l2 l sc t6 fo t35 a b c d e f K μ p q t x y z u v w) := by
  intro μ
  induction μ with
  | zero => intro p q t x y z u v w; exact h0
  | succ μ ih =>
    intro p q t x y z u v w
    rw [p_spec_l05Pursue_l2_s]
    refine cnb (P := P) (fun _ => ?_) (fun _ => hK _ _ _ _ _ _ _ _ _)
    refine spec_PP_l3 P h0 _ _ _ _ _ _ _ _ _ _ _ _ _ _ _ _ _ _ _ _ _ (fun q t x y z u v w => ?_) _ _ _ _ _ _ _ _ _
    refine cnb (P := P) (fun _ => h0) (fun _ => ?_)
    exact cnb (P := P) (fun _ => ih _ _ _ _ _ _ _ _ _) (fun _ => cnb (P := P) (fun _ => ih _ _ _ _ _ _ _ _ _) (fun _ => ih _ _ _ _ _ _ _ _ _))
/-- What holds of all that l05Pursue may return. -/
theorem spec_PP (P : (Int × Nat × Nat × (List Nat) × Bool) → Prop) (h0 : P (0, 0, 0, [], false)) (l sc : List Nat) (hK : ∀ (o : List Nat) (d : Int) (e f : Nat), o.length = l.length → P (bif !(p_spec_l02Finite o) then ((0 : Int), 0, 0, [], false) else (d, e, f, o, true))) : P (p_spec_l05Pursue l sc) := by
  have go : ∀ (μ : Nat) (t6 fo : Bool) (t35 : Int) (a : Int) (b c : Nat) (d : Int) (e f : Nat), P (p_spec_l05Pursue_l1 l sc μ t6 fo t35 a b c d e f) := by
    intro μ
    induction μ with
    | zero => intro t6 fo t35 a b c d e f; exact h0
    | succ μ ih =>
      intro t6 fo t35 a b c d e f
      rw [p_spec_l05Pursue_l1_s]
      refine cnb (P := P) (fun _ => ?_) (fun _ => ?_)
      · exact spec_PP_l2 P h0 _ _ _ _ _ _ _ _ _ _ _ _ (fun p q t x y z u v w => ih _ _ _ _ _ _ _ _ _) _ _ _ _ _ _ _ _ _ _
      · exact spec_PP_l4 P h0 _ _ _ _ _ _ _ _ _ _ _ _ (fun o t x y z ho => hK _ _ _ _ ho) _ _ _ _ _ _ (by rw [List.length_nil]; rfl) o3 o3
  rw [p_spec_l05Pursue_eq]; exact go _ _ _ _ _ _ _ _ _ _
theorem spec_l05Pursue_full {l sc : List Nat} (h : (p_spec_l05Pursue l sc).2.2.2.2 = true) : (p_spec_l05Pursue l sc).2.2.2.1.length = l.length := by
  revert h
  refine spec_PP (fun r => r.2.2.2.2 = true → r.2.2.2.1.length = l.length) (fun h => by cases h) l sc (fun o d e f ho => ?_)
  exact cnb (P := fun r : Int × Nat × Nat × (List Nat) × Bool => r.2.2.2.2 = true → r.2.2.2.1.length = l.length) (fun _ h => by cases h) (fun _ _ => ho)
/-! spec_l05Pursue: function 79 -/
def E_spec_l05Pursue : Env := envOf [(52, S_spec_l05Of), (73, S_spec_l01Finite), (107, S_spec_l03Size), (53, S_spec_l02Finite)]
def F_spec_l05Pursue : List Value → AHeap → (Value → AHeap → Prop) → Prop
  | [.slice list_a list_n list_e, .slice scales_a scales_n scales_e], H, K => T_spec_l05Pursue list_a list_n list_e scales_a scales_n scales_e H fun (r1_Place : Int) (r1_Scale : Nat) (r1_Size : Nat) (r2_a : Option Addr) (r2_n : Nat) (r2_e : Nat) (r3 : Bool) (H' : AHeap) => K (.tuple #[.agg #[.int .i64 r1_Place, .float .f32 r1_Scale, .float .f32 r1_Size], .slice r2_a r2_n r2_e, .bool r3]) H'
  | _, _, _ => False
def S_spec_l05Pursue : FSpec := { F := F_spec_l05Pursue, quiet := false, tame := true }
theorem spec_l05Pursue_vc (list_a : Option Addr) (list_n : Nat) (list_e : Nat) (scales_a : Option Addr) (scales_n : Nat) (scales_e : Nat) (H : AHeap) (K : Value → AHeap → Prop) : bodyL Try.prog E_spec_l05Pursue Try.f79 [.slice list_a list_n list_e, .slice scales_a scales_n scales_e] H K =
  (Al [.int .i64 0, .float .f32 0, .float .f32 0] H fun b1 H1 => Al [.int .i64 0, .float .f32 0, .float .f32 0] H1 fun b2 H2 => isOwn H2 b2 ∧ (∃ l, rdN H2 b2 0 3 = some l) ∧ Lt (setN H2 b2 0 [.int .i64 0, .float .f32 0, .float .f32 0]) fun H3 => loopK (exL Try.prog E_spec_l05Pursue (cl (cl (cr (cl (cr (cr (cr (cr (bodyC Try.f79))))))))) 25166739 112 [(0, 657)]) [.slice list_a list_n list_e, .slice scales_a scales_n scales_e, ud, ud, .pointer (some ⟨b1, 0, none⟩), ud, ud, .pointer (some ⟨b2, 0, none⟩), .bool false, .int .i64 (list_n : Int), ud, ud, ud, ud, ud, ud, ud, ud, ud, ud, ud, ud, ud, .int .i64 (scales_n : Int), .int .i64 0, ud, ud, ud, ud, ud, ud, ud, ud, ud, ud, ud, ud, ud, ud, ud, ud, ud, ud, ud, ud, ud, ud, ud, ud, ud, ud, ud, ud, ud, ud, ud, ud, ud, ud, ud, ud, ud, ud, ud, ud, ud, ud, ud, ud, ud, ud, ud, ud, ud, ud, ud, ud, ud, ud, ud, ud, ud, ud, ud, ud, ud, ud, ud, ud, ud, ud, ud, ud, ud, ud, ud, ud, ud, ud, ud, ud, ud, ud, ud, ud, ud] H3 (blockQ 0 (seqQ (exL Try.prog E_spec_l05Pursue (cr (cr (cr (cr (cr (bodyC Try.f79)))))) 112 112 []) (retK Try.prog Try.f79 K)))) := by kernel_rfl
abbrev spec_l05Pursue_P1 (b1 : Nat) (b2 : Nat) (list_a : Option Addr) (list_e : Nat) (list_n : Nat) (scales_a : Option Addr) (scales_e : Nat) (scales_n : Nat) (vsome : Bool) (t24 : Int)  : List Value := [.slice list_a list_n list_e, .slice scales_a scales_n scales_e, ud, ud, .pointer (some ⟨b1, 0, none⟩), ud, ud, .pointer (some ⟨b2, 0, none⟩), .bool vsome, .int .i64 (list_n : Int), ud, ud, ud, ud, ud, ud, ud, ud, ud, ud, ud, ud, ud, .int .i64 (scales_n : Int), .int .i64 t24, ud, ud, ud, ud, ud, ud, ud, ud, ud, ud, ud, ud, ud, ud, ud, ud, ud, ud, ud, ud, ud, ud, ud, ud, ud, ud, ud, ud, ud, ud, ud, ud, ud, ud, ud, ud, ud, ud, ud, ud, ud, ud, ud, ud, ud, ud, ud, ud, ud, ud, ud, ud, ud, ud, ud, ud, ud, ud, ud, ud, ud, ud, ud, ud, ud, ud, ud, ud, ud, ud, ud, ud, ud, ud, ud, ud, ud, ud, ud, ud, ud]
theorem spec_l05Pursue_r1 (b1 : Nat) (b2 : Nat) (list_a : Option Addr) (list_e : Nat) (list_n : Nat) (scales_a : Option Addr) (scales_e : Nat) (scales_n : Nat) (vsome : Bool) (t24 : Int)  (H : AHeap) (R : Post) : exL Try.prog E_spec_l05Pursue (cl (cl (cr (cl (cr (cr (cr (cr (bodyC Try.f79))))))))) 25166739 112 [(0, 657)] (spec_l05Pursue_P1 b1 b2 list_a list_e list_n scales_a scales_e scales_n vsome t24) H R =
  (Br (decide ((t24 : Int) < (scales_n : Int))) (loopK (exL Try.prog E_spec_l05Pursue (cl (cl (cr (cr (cl (cl (cr (cr (cl (cl (cr (cl (cr (cr (cr (cr (bodyC Try.f79))))))))))))))))) 25169811 112 [(2, 25166739), (1, 25166739), (0, 657)]) [.slice list_a list_n list_e, .slice scales_a scales_n scales_e, ud, ud, .pointer (some ⟨b1, 0, none⟩), ud, ud, .pointer (some ⟨b2, 0, none⟩), .bool vsome, .int .i64 (list_n : Int), .int .i64 t24, .int .i64 0, ud, ud, ud, ud, ud, ud, ud, ud, ud, ud, ud, .int .i64 (scales_n : Int), .int .i64 t24, ud, ud, ud, ud, ud, ud, ud, ud, ud, ud, ud, ud, ud, ud, ud, ud, ud, ud, ud, ud, ud, ud, ud, ud, ud, ud, ud, ud, ud, ud, ud, ud, ud, ud, ud, ud, ud, ud, ud, ud, ud, ud, ud, ud, ud, ud, ud, ud, ud, ud, ud, ud, ud, ud, ud, ud, ud, ud, ud, ud, ud, ud, ud, ud, ud, ud, ud, ud, ud, ud, ud, ud, ud, ud, ud, ud, ud, ud, ud, ud, ud] H (blockQ 2 (blockQ 1 (seqQ (exL Try.prog E_spec_l05Pursue (cr (cr (cr (cl (cl (cr (cl (cr (cr (cr (cr (bodyC Try.f79)))))))))))) 25166739 112 [(0, 657)]) (R))))) (R (.exit 0) [.slice list_a list_n list_e, ud, ud, ud, .pointer (some ⟨b1, 0, none⟩), ud, ud, .pointer (some ⟨b2, 0, none⟩), ud, .int .i64 (list_n : Int), ud, ud, ud, ud, ud, ud, ud, ud, ud, ud, ud, ud, ud, ud, ud, ud, ud, ud, ud, ud, ud, ud, ud, ud, ud, ud, ud, ud, ud, ud, ud, ud, ud, ud, ud, ud, ud, ud, ud, ud, ud, ud, ud, ud, ud, ud, ud, ud, ud, ud, ud, ud, ud, ud, ud, ud, ud, ud, ud, ud, ud, ud, ud, ud, ud, ud, ud, ud, ud, ud, ud, ud, ud, ud, ud, ud, ud, ud, ud, ud, ud, ud, ud, ud, ud, ud, ud, ud, ud, ud, ud, ud, ud, ud, ud, ud] H)) := by kernel_rfl
def spec_l05Pursue_I1 (b1 : Nat) (b2 : Nat) (list_a : Option Addr) (list_e : Nat) (list_n : Nat) (scales_a : Option Addr) (scales_e : Nat) (scales_n : Nat) (Inv : Nat → Bool → Int → AHeap → Prop) : Nat → List Value → AHeap → Prop := fun μ tm H => ∃ (vsome : Bool), ∃ (t24 : Int), tm = (spec_l05Pursue_P1 b1 b2 list_a list_e list_n scales_a scales_e scales_n vsome t24) ∧ Inv μ vsome t24 H
theorem spec_l05Pursue_L1 (b1 : Nat) (b2 : Nat) (list_a : Option Addr) (list_e : Nat) (list_n : Nat) (scales_a : Option Addr) (scales_e : Nat) (scales_n : Nat) {Q : Post} (Inv : Nat → Bool → Int → AHeap → Prop) (ν : Nat) (vsome : Bool) (t24 : Int)  (H : AHeap) (h0 : Inv ν vsome t24 H)
    (hs : ∀ (μ : Nat) (vsome : Bool) (t24 : Int)  (H : AHeap), Inv μ vsome t24 H → exL Try.prog E_spec_l05Pursue (cl (cl (cr (cl (cr (cr (cr (cr (bodyC Try.f79))))))))) 25166739 112 [(0, 657)] (spec_l05Pursue_P1 b1 b2 list_a list_e list_n scales_a scales_e scales_n vsome t24) H (loopQ (spec_l05Pursue_I1 b1 b2 list_a list_e list_n scales_a scales_e scales_n Inv) μ Q)) : loopK (exL Try.prog E_spec_l05Pursue (cl (cl (cr (cl (cr (cr (cr (cr (bodyC Try.f79))))))))) 25166739 112 [(0, 657)]) (spec_l05Pursue_P1 b1 b2 list_a list_e list_n scales_a scales_e scales_n vsome t24) H Q :=
  ⟨spec_l05Pursue_I1 b1 b2 list_a list_e list_n scales_a scales_e scales_n Inv, ν, ⟨vsome, t24, rfl, h0⟩, fun μ tm H h => by obtain ⟨vsome, t24, rfl, hI⟩ := h; exact hs μ vsome t24  H hI⟩
theorem spec_l05Pursue_n1 {b1 : Nat} {b2 : Nat} {list_a : Option Addr} {list_e : Nat} {list_n : Nat} {scales_a : Option Addr} {scales_e : Nat} {scales_n : Nat} {Q : Post} {Inv : Nat → Bool → Int → AHeap → Prop} {μ : Nat} (μ' : Nat) {vsome : Bool} {t24 : Int}  {H : AHeap} (hm : μ' < μ) (hI : Inv μ' vsome t24 H) : loopQ (spec_l05Pursue_I1 b1 b2 list_a list_e list_n scales_a scales_e scales_n Inv) μ Q .normal (spec_l05Pursue_P1 b1 b2 list_a list_e list_n scales_a scales_e scales_n vsome t24) H := ⟨μ', hm, vsome, t24, rfl, hI⟩
theorem spec_l05Pursue_x1_0 (b1 : Nat) (b2 : Nat) (list_a : Option Addr) (list_e : Nat) (list_n : Nat) (H : AHeap) (K : Value → AHeap → Prop)  {I : Nat → List Value → AHeap → Prop} {μ : Nat} : loopQ I μ (blockQ 0 (seqQ (exL Try.prog E_spec_l05Pursue (cr (cr (cr (cr (cr (bodyC Try.f79)))))) 112 112 []) (retK Try.prog Try.f79 K))) (.exit 0) [.slice list_a list_n list_e, ud, ud, ud, .pointer (some ⟨b1, 0, none⟩), ud, ud, .pointer (some ⟨b2, 0, none⟩), ud, .int .i64 (list_n : Int), ud, ud, ud, ud, ud, ud, ud, ud, ud, ud, ud, ud, ud, ud, ud, ud, ud, ud, ud, ud, ud, ud, ud, ud, ud, ud, ud, ud, ud, ud, ud, ud, ud, ud, ud, ud, ud, ud, ud, ud, ud, ud, ud, ud, ud, ud, ud, ud, ud, ud, ud, ud, ud, ud, ud, ud, ud, ud, ud, ud, ud, ud, ud, ud, ud, ud, ud, ud, ud, ud, ud, ud, ud, ud, ud, ud, ud, ud, ud, ud, ud, ud, ud, ud, ud, ud, ud, ud, ud, ud, ud, ud, ud, ud, ud, ud] H =
  (T_spec_l05Of (list_n : Int) b2 H fun (a2 : Option Addr) (r6 : Nat) (r7 : Nat) (H13 : AHeap) => Al [] H13 fun b9 H14 => loopK (exL Try.prog E_spec_l05Pursue (cl (cl (cr (cl (cr (cr (cr (cr (cr (cr (cr (bodyC Try.f79)))))))))))) 29014219670751100193144977 112 [(6, 131216)]) [.slice list_a list_n list_e, ud, ud, ud, .pointer (some ⟨b1, 0, none⟩), ud, ud, .pointer (some ⟨b2, 0, none⟩), ud, ud, ud, ud, ud, ud, ud, ud, .slice a2 r6 r7, .slice (some ⟨b9, 0, none⟩) 0 1, ud, ud, ud, ud, ud, ud, ud, ud, ud, ud, ud, ud, ud, ud, ud, ud, ud, ud, ud, ud, ud, ud, ud, ud, ud, ud, ud, ud, ud, ud, ud, ud, ud, ud, ud, ud, ud, ud, ud, ud, ud, ud, ud, ud, ud, ud, ud, ud, ud, ud, ud, ud, ud, ud, ud, ud, ud, ud, ud, ud, ud, ud, ud, ud, ud, .int .i64 (list_n : Int), .int .i64 0, ud, ud, ud, ud, ud, ud, ud, ud, ud, ud, ud, ud, ud, ud, ud, ud, ud, ud, ud, ud, ud] H14 (blockQ 6 (seqQ (exL Try.prog E_spec_l05Pursue (cr (cr (cr (cr (cr (cr (cr (cr (bodyC Try.f79))))))))) 112 112 []) (retK Try.prog Try.f79 K)))) := by kernel_rfl
theorem spec_l05Pursue_x1_ret (b1 : Nat) (t5_a : Option Addr) (t5_n : Nat) (t5_e : Nat) (t6 : Bool) (H : AHeap) (K : Value → AHeap → Prop)  {I : Nat → List Value → AHeap → Prop} {μ : Nat} : loopQ I μ (blockQ 0 (seqQ (exL Try.prog E_spec_l05Pursue (cr (cr (cr (cr (cr (bodyC Try.f79)))))) 112 112 []) (retK Try.prog Try.f79 K))) .ret [ud, ud, ud, ud, .pointer (some ⟨b1, 0, none⟩), .slice t5_a t5_n t5_e, .bool t6, ud, ud, ud, ud, ud, ud, ud, ud, ud, ud, ud, ud, ud, ud, ud, ud, ud, ud, ud, ud, ud, ud, ud, ud, ud, ud, ud, ud, ud, ud, ud, ud, ud, ud, ud, ud, ud, ud, ud, ud, ud, ud, ud, ud, ud, ud, ud, ud, ud, ud, ud, ud, ud, ud, ud, ud, ud, ud, ud, ud, ud, ud, ud, ud, ud, ud, ud, ud, ud, ud, ud, ud, ud, ud, ud, ud, ud, ud, ud, ud, ud, ud, ud, ud, ud, ud, ud, ud, ud, ud, ud, ud, ud, ud, ud, ud, ud, ud, ud] H =
  (∃ c10 : Int, ∃ c11 : Nat, ∃ c12 : Nat,  rdN H b1 0 3 = some [.int .i64 c10, .float .f32 c11, .float .f32 c12] ∧ K (.tuple #[.agg #[.int .i64 c10, .float .f32 c11, .float .f32 c12], .slice t5_a t5_n t5_e, .bool t6]) H) := by kernel_rfl
abbrev spec_l05Pursue_P2 (b1 : Nat) (b2 : Nat) (list_a : Option Addr) (list_e : Nat) (list_n : Nat) (scales_a : Option Addr) (scales_e : Nat) (scales_n : Nat) (t24 : Int) (vsome_8 : Bool) (i : Int)  : List Value := [.slice list_a list_n list_e, .slice scales_a scales_n scales_e, ud, ud, .pointer (some ⟨b1, 0, none⟩), ud, ud, .pointer (some ⟨b2, 0, none⟩), .bool vsome_8, .int .i64 (list_n : Int), .int .i64 t24, .int .i64 i, ud, ud, ud, ud, ud, ud, ud, ud, ud, ud, ud, .int .i64 (scales_n : Int), .int .i64 t24, ud, ud, ud, ud, ud, ud, ud, ud, ud, ud, ud, ud, ud, ud, ud, ud, ud, ud, ud, ud, ud, ud, ud, ud, ud, ud, ud, ud, ud, ud, ud, ud, ud, ud, ud, ud, ud, ud, ud, ud, ud, ud, ud, ud, ud, ud, ud, ud, ud, ud, ud, ud, ud, ud, ud, ud, ud, ud, ud, ud, ud, ud, ud, ud, ud, ud, ud, ud, ud, ud, ud, ud, ud, ud, ud, ud, ud, ud, ud, ud, ud]
theorem spec_l05Pursue_r2 (b1 : Nat) (b2 : Nat) (list_a : Option Addr) (list_e : Nat) (list_n : Nat) (scales_a : Option Addr) (scales_e : Nat) (scales_n : Nat) (t24 : Int) (vsome_8 : Bool) (i : Int)  (H : AHeap) (R : Post) : exL Try.prog E_spec_l05Pursue (cl (cl (cr (cr (cl (cl (cr (cr (cl (cl (cr (cl (cr (cr (cr (cr (bodyC Try.f79))))))))))))))))) 25169811 112 [(2, 25166739), (1, 25166739), (0, 657)] (spec_l05Pursue_P2 b1 b2 list_a list_e list_n scales_a scales_e scales_n t24 vsome_8 i) H R =
  (Br (decide ((i : Int) < (list_n : Int))) ((0 : Int) ≤ t24 ∧ t24 < (scales_n : Int) ∧ ∃ b3 f1, (scales_a : Option Addr) = some ⟨b3, f1, none⟩ ∧ ∃ x1 : Nat,  rdC H b3 (f1 + (t24 : Int).toNat * 1) = some (.float .f32 x1) ∧ Al [.int .i64 0, .float .f32 0, .float .f32 0] H fun b4 H4 => isOwn H4 b4 ∧ (∃ l, rdN H4 b4 0 3 = some l) ∧ Lt (setN H4 b4 0 [.int .i64 i, .float .f32 x1, .float .f32 1065353216]) fun H5 => T_spec_l05Of (list_n : Int) b4 H5 fun (a1 : Option Addr) (r1 : Nat) (r2 : Nat) (H6 : AHeap) => loopK (exL Try.prog E_spec_l05Pursue (cl (cl (cr (cl (cr (cr (cr (cl (cl (cr (cl (cl (cr (cr (cl (cl (cr (cr (cl (cl (cr (cl (cr (cr (cr (cr (bodyC Try.f79))))))))))))))))))))))))))) 6597094961043 112 [(4, 25186195), (3, 25169811), (2, 25166739), (1, 25166739), (0, 657)]) [.slice list_a list_n list_e, .slice scales_a scales_n scales_e, ud, ud, .pointer (some ⟨b1, 0, none⟩), ud, ud, .pointer (some ⟨b2, 0, none⟩), .bool vsome_8, .int .i64 (list_n : Int), .int .i64 t24, .int .i64 i, ud, .slice a1 r1 r2, .float .f32 0, ud, ud, ud, ud, ud, ud, ud, ud, .int .i64 (scales_n : Int), .int .i64 t24, ud, ud, ud, ud, ud, ud, ud, ud, ud, ud, ud, ud, ud, ud, ud, ud, .int .i64 (r1 : Int), .int .i64 0, ud, ud, ud, ud, ud, ud, ud, ud, ud, ud, ud, ud, ud, ud, ud, ud, ud, ud, ud, ud, ud, ud, ud, ud, ud, ud, ud, ud, ud, ud, ud, ud, ud, ud, ud, ud, ud, ud, ud, ud, ud, ud, ud, ud, ud, ud, ud, ud, ud, ud, ud, ud, ud, ud, ud, ud, ud, ud, ud, ud, ud, ud, ud] H6 (blockQ 4 (seqQ (exL Try.prog E_spec_l05Pursue (cr (cr (cr (cr (cl (cl (cr (cl (cl (cr (cr (cl (cl (cr (cr (cl (cl (cr (cl (cr (cr (cr (cr (bodyC Try.f79)))))))))))))))))))))))) 25169811 112 [(3, 25169811), (2, 25166739), (1, 25166739), (0, 657)]) (blockQ 3 (seqQ (exL Try.prog E_spec_l05Pursue (cr (cr (cl (cl (cr (cr (cl (cl (cr (cr (cl (cl (cr (cl (cr (cr (cr (cr (bodyC Try.f79))))))))))))))))))) 25169811 112 [(2, 25166739), (1, 25166739), (0, 657)]) (R)))))) (R (.exit 2) [.slice list_a list_n list_e, .slice scales_a scales_n scales_e, ud, ud, .pointer (some ⟨b1, 0, none⟩), ud, ud, .pointer (some ⟨b2, 0, none⟩), .bool vsome_8, .int .i64 (list_n : Int), ud, ud, ud, ud, ud, ud, ud, ud, ud, ud, ud, ud, ud, .int .i64 (scales_n : Int), .int .i64 t24, ud, ud, ud, ud, ud, ud, ud, ud, ud, ud, ud, ud, ud, ud, ud, ud, ud, ud, ud, ud, ud, ud, ud, ud, ud, ud, ud, ud, ud, ud, ud, ud, ud, ud, ud, ud, ud, ud, ud, ud, ud, ud, ud, ud, ud, ud, ud, ud, ud, ud, ud, ud, ud, ud, ud, ud, ud, ud, ud, ud, ud, ud, ud, ud, ud, ud, ud, ud, ud, ud, ud, ud, ud, ud, ud, ud, ud, ud, ud, ud, ud] H)) := by kernel_rfl
def spec_l05Pursue_I2 (b1 : Nat) (b2 : Nat) (list_a : Option Addr) (list_e : Nat) (list_n : Nat) (scales_a : Option Addr) (scales_e : Nat) (scales_n : Nat) (t24 : Int) (Inv : Nat → Bool → Int → AHeap → Prop) : Nat → List Value → AHeap → Prop := fun μ tm H => ∃ (vsome_8 : Bool), ∃ (i : Int), tm = (spec_l05Pursue_P2 b1 b2 list_a list_e list_n scales_a scales_e scales_n t24 vsome_8 i) ∧ Inv μ vsome_8 i H
theorem spec_l05Pursue_L2 (b1 : Nat) (b2 : Nat) (list_a : Option Addr) (list_e : Nat) (list_n : Nat) (scales_a : Option Addr) (scales_e : Nat) (scales_n : Nat) (t24 : Int) {Q : Post} (Inv : Nat → Bool → Int → AHeap → Prop) (ν : Nat) (vsome_8 : Bool) (i : Int)  (H : AHeap) (h0 : Inv ν vsome_8 i H)
    (hs : ∀ (μ : Nat) (vsome_8 : Bool) (i : Int)  (H : AHeap), Inv μ vsome_8 i H → exL Try.prog E_spec_l05Pursue (cl (cl (cr (cr (cl (cl (cr (cr (cl (cl (cr (cl (cr (cr (cr (cr (bodyC Try.f79))))))))))))))))) 25169811 112 [(2, 25166739), (1, 25166739), (0, 657)] (spec_l05Pursue_P2 b1 b2 list_a list_e list_n scales_a scales_e scales_n t24 vsome_8 i) H (loopQ (spec_l05Pursue_I2 b1 b2 list_a list_e list_n scales_a scales_e scales_n t24 Inv) μ Q)) : loopK (exL Try.prog E_spec_l05Pursue (cl (cl (cr (cr (cl (cl (cr (cr (cl (cl (cr (cl (cr (cr (cr (cr (bodyC Try.f79))))))))))))))))) 25169811 112 [(2, 25166739), (1, 25166739), (0, 657)]) (spec_l05Pursue_P2 b1 b2 list_a list_e list_n scales_a scales_e scales_n t24 vsome_8 i) H Q :=
  ⟨spec_l05Pursue_I2 b1 b2 list_a list_e list_n scales_a scales_e scales_n t24 Inv, ν, ⟨vsome_8, i, rfl, h0⟩, fun μ tm H h => by obtain ⟨vsome_8, i, rfl, hI⟩ := h; exact hs μ vsome_8 i  H hI⟩
theorem spec_l05Pursue_n2 {b1 : Nat} {b2 : Nat} {list_a : Option Addr} {list_e : Nat} {list_n : Nat} {scales_a : Option Addr} {scales_e : Nat} {scales_n : Nat} {t24 : Int} {Q : Post} {Inv : Nat → Bool → Int → AHeap → Prop} {μ : Nat} (μ' : Nat) {vsome_8 : Bool} {i : Int}  {H : AHeap} (hm : μ' < μ) (hI : Inv μ' vsome_8 i H) : loopQ (spec_l05Pursue_I2 b1 b2 list_a list_e list_n scales_a scales_e scales_n t24 Inv) μ Q .normal (spec_l05Pursue_P2 b1 b2 list_a list_e list_n scales_a scales_e scales_n t24 vsome_8 i) H := ⟨μ', hm, vsome_8, i, rfl, hI⟩
theorem spec_l05Pursue_x2_2 (b1 : Nat) (b2 : Nat) (list_a : Option Addr) (list_e : Nat) (list_n : Nat) (scales_a : Option Addr) (scales_e : Nat) (scales_n : Nat) (t24 : Int) (vsome_8 : Bool) (H : AHeap)  (R : Post) {I : Nat → List Value → AHeap → Prop} {μ : Nat} : loopQ I μ (blockQ 2 (blockQ 1 (seqQ (exL Try.prog E_spec_l05Pursue (cr (cr (cr (cl (cl (cr (cl (cr (cr (cr (cr (bodyC Try.f79)))))))))))) 25166739 112 [(0, 657)]) (R)))) (.exit 2) [.slice list_a list_n list_e, .slice scales_a scales_n scales_e, ud, ud, .pointer (some ⟨b1, 0, none⟩), ud, ud, .pointer (some ⟨b2, 0, none⟩), .bool vsome_8, .int .i64 (list_n : Int), ud, ud, ud, ud, ud, ud, ud, ud, ud, ud, ud, ud, ud, .int .i64 (scales_n : Int), .int .i64 t24, ud, ud, ud, ud, ud, ud, ud, ud, ud, ud, ud, ud, ud, ud, ud, ud, ud, ud, ud, ud, ud, ud, ud, ud, ud, ud, ud, ud, ud, ud, ud, ud, ud, ud, ud, ud, ud, ud, ud, ud, ud, ud, ud, ud, ud, ud, ud, ud, ud, ud, ud, ud, ud, ud, ud, ud, ud, ud, ud, ud, ud, ud, ud, ud, ud, ud, ud, ud, ud, ud, ud, ud, ud, ud, ud, ud, ud, ud, ud, ud, ud] H =
  (R .normal [.slice list_a list_n list_e, .slice scales_a scales_n scales_e, ud, ud, .pointer (some ⟨b1, 0, none⟩), ud, ud, .pointer (some ⟨b2, 0, none⟩), .bool vsome_8, .int .i64 (list_n : Int), ud, ud, ud, ud, ud, ud, ud, ud, ud, ud, ud, ud, ud, .int .i64 (scales_n : Int), .int .i64 (IntKind.wrap .i64 (t24 + 1)), ud, ud, ud, ud, ud, ud, ud, ud, ud, ud, ud, ud, ud, ud, ud, ud, ud, ud, ud, ud, ud, ud, ud, ud, ud, ud, ud, ud, ud, ud, ud, ud, ud, ud, ud, ud, ud, ud, ud, ud, ud, ud, ud, ud, ud, ud, ud, ud, ud, ud, ud, ud, ud, ud, ud, ud, ud, ud, ud, ud, ud, ud, ud, ud, ud, ud, ud, ud, ud, ud, ud, ud, ud, ud, ud, ud, ud, ud, ud, ud, ud] H) := by kernel_rfl
theorem spec_l05Pursue_x2_ret (b1 : Nat) (t5_a : Option Addr) (t5_n : Nat) (t5_e : Nat) (t6_6 : Bool) (H : AHeap)  (R : Post) {I : Nat → List Value → AHeap → Prop} {μ : Nat} : loopQ I μ (blockQ 2 (blockQ 1 (seqQ (exL Try.prog E_spec_l05Pursue (cr (cr (cr (cl (cl (cr (cl (cr (cr (cr (cr (bodyC Try.f79)))))))))))) 25166739 112 [(0, 657)]) (R)))) .ret [ud, ud, ud, ud, .pointer (some ⟨b1, 0, none⟩), .slice t5_a t5_n t5_e, .bool t6_6, ud, ud, ud, ud, ud, ud, ud, ud, ud, ud, ud, ud, ud, ud, ud, ud, ud, ud, ud, ud, ud, ud, ud, ud, ud, ud, ud, ud, ud, ud, ud, ud, ud, ud, ud, ud, ud, ud, ud, ud, ud, ud, ud, ud, ud, ud, ud, ud, ud, ud, ud, ud, ud, ud, ud, ud, ud, ud, ud, ud, ud, ud, ud, ud, ud, ud, ud, ud, ud, ud, ud, ud, ud, ud, ud, ud, ud, ud, ud, ud, ud, ud, ud, ud, ud, ud, ud, ud, ud, ud, ud, ud, ud, ud, ud, ud, ud, ud, ud] H =
  (R .ret [ud, ud, ud, ud, .pointer (some ⟨b1, 0, none⟩), .slice t5_a t5_n t5_e, .bool t6_6, ud, ud, ud, ud, ud, ud, ud, ud, ud, ud, ud, ud, ud, ud, ud, ud, ud, ud, ud, ud, ud, ud, ud, ud, ud, ud, ud, ud, ud, ud, ud, ud, ud, ud, ud, ud, ud, ud, ud, ud, ud, ud, ud, ud, ud, ud, ud, ud, ud, ud, ud, ud, ud, ud, ud, ud, ud, ud, ud, ud, ud, ud, ud, ud, ud, ud, ud, ud, ud, ud, ud, ud, ud, ud, ud, ud, ud, ud, ud, ud, ud, ud, ud, ud, ud, ud, ud, ud, ud, ud, ud, ud, ud, ud, ud, ud, ud, ud, ud] H) := by kernel_rfl
abbrev spec_l05Pursue_P3 (a1 : Option Addr) (b1 : Nat) (b2 : Nat) (i : Int) (list_a : Option Addr) (list_e : Nat) (list_n : Nat) (r1 : Nat) (r2 : Nat) (scales_a : Option Addr) (scales_e : Nat) (scales_n : Nat) (t24 : Int) (vsome_8 : Bool) (q : Nat) (t42 : Int)  : List Value := [.slice list_a list_n list_e, .slice scales_a scales_n scales_e, ud, ud, .pointer (some ⟨b1, 0, none⟩), ud, ud, .pointer (some ⟨b2, 0, none⟩), .bool vsome_8, .int .i64 (list_n : Int), .int .i64 t24, .int .i64 i, ud, .slice a1 r1 r2, .float .f32 q, ud, ud, ud, ud, ud, ud, ud, ud, .int .i64 (scales_n : Int), .int .i64 t24, ud, ud, ud, ud, ud, ud, ud, ud, ud, ud, ud, ud, ud, ud, ud, ud, .int .i64 (r1 : Int), .int .i64 t42, ud, ud, ud, ud, ud, ud, ud, ud, ud, ud, ud, ud, ud, ud, ud, ud, ud, ud, ud, ud, ud, ud, ud, ud, ud, ud, ud, ud, ud, ud, ud, ud, ud, ud, ud, ud, ud, ud, ud, ud, ud, ud, ud, ud, ud, ud, ud, ud, ud, ud, ud, ud, ud, ud, ud, ud, ud, ud, ud, ud, ud, ud, ud]
theorem spec_l05Pursue_r3 (a1 : Option Addr) (b1 : Nat) (b2 : Nat) (i : Int) (list_a : Option Addr) (list_e : Nat) (list_n : Nat) (r1 : Nat) (r2 : Nat) (scales_a : Option Addr) (scales_e : Nat) (scales_n : Nat) (t24 : Int) (vsome_8 : Bool) (q : Nat) (t42 : Int)  (H : AHeap) (R : Post) : exL Try.prog E_spec_l05Pursue (cl (cl (cr (cl (cr (cr (cr (cl (cl (cr (cl (cl (cr (cr (cl (cl (cr (cr (cl (cl (cr (cl (cr (cr (cr (cr (bodyC Try.f79))))))))))))))))))))))))))) 6597094961043 112 [(4, 25186195), (3, 25169811), (2, 25166739), (1, 25166739), (0, 657)] (spec_l05Pursue_P3 a1 b1 b2 i list_a list_e list_n r1 r2 scales_a scales_e scales_n t24 vsome_8 q t42) H R =
  (Br (decide ((t42 : Int) < (r1 : Int))) ((0 : Int) ≤ t42 ∧ t42 < (r1 : Int) ∧ ∃ b5 f2, (a1 : Option Addr) = some ⟨b5, f2, none⟩ ∧ ∃ x2 : Nat,  rdC H b5 (f2 + (t42 : Int).toNat * 1) = some (.float .f32 x2) ∧ (0 : Int) ≤ t42 ∧ t42 < (list_n : Int) ∧ ∃ b6 f3, (list_a : Option Addr) = some ⟨b6, f3, none⟩ ∧ ∃ x3 : Nat,  rdC H b6 (f3 + (t42 : Int).toNat * 1) = some (.float .f32 x3) ∧ R .normal [.slice list_a list_n list_e, .slice scales_a scales_n scales_e, ud, ud, .pointer (some ⟨b1, 0, none⟩), ud, ud, .pointer (some ⟨b2, 0, none⟩), .bool vsome_8, .int .i64 (list_n : Int), .int .i64 t24, .int .i64 i, ud, .slice a1 r1 r2, .float .f32 (fadd .f32 q (fmul .f32 x2 x3)), ud, ud, ud, ud, ud, ud, ud, ud, .int .i64 (scales_n : Int), .int .i64 t24, ud, ud, ud, ud, ud, ud, ud, ud, ud, ud, ud, ud, ud, ud, ud, ud, .int .i64 (r1 : Int), .int .i64 (IntKind.wrap .i64 (t42 + 1)), ud, ud, ud, ud, ud, ud, ud, ud, ud, ud, ud, ud, ud, ud, ud, ud, ud, ud, ud, ud, ud, ud, ud, ud, ud, ud, ud, ud, ud, ud, ud, ud, ud, ud, ud, ud, ud, ud, ud, ud, ud, ud, ud, ud, ud, ud, ud, ud, ud, ud, ud, ud, ud, ud, ud, ud, ud, ud, ud, ud, ud, ud, ud] H) (R (.exit 4) [.slice list_a list_n list_e, .slice scales_a scales_n scales_e, ud, ud, .pointer (some ⟨b1, 0, none⟩), ud, ud, .pointer (some ⟨b2, 0, none⟩), .bool vsome_8, .int .i64 (list_n : Int), .int .i64 t24, .int .i64 i, ud, ud, .float .f32 q, ud, ud, ud, ud, ud, ud, ud, ud, .int .i64 (scales_n : Int), .int .i64 t24, ud, ud, ud, ud, ud, ud, ud, ud, ud, ud, ud, ud, ud, ud, ud, ud, ud, ud, ud, ud, ud, ud, ud, ud, ud, ud, ud, ud, ud, ud, ud, ud, ud, ud, ud, ud, ud, ud, ud, ud, ud, ud, ud, ud, ud, ud, ud, ud, ud, ud, ud, ud, ud, ud, ud, ud, ud, ud, ud, ud, ud, ud, ud, ud, ud, ud, ud, ud, ud, ud, ud, ud, ud, ud, ud, ud, ud, ud, ud, ud, ud] H)) := by kernel_rfl
def spec_l05Pursue_I3 (a1 : Option Addr) (b1 : Nat) (b2 : Nat) (i : Int) (list_a : Option Addr) (list_e : Nat) (list_n : Nat) (r1 : Nat) (r2 : Nat) (scales_a : Option Addr) (scales_e : Nat) (scales_n : Nat) (t24 : Int) (vsome_8 : Bool) (Inv : Nat → Nat → Int → AHeap → Prop) : Nat → List Value → AHeap → Prop := fun μ tm H => ∃ (q : Nat), ∃ (t42 : Int), tm = (spec_l05Pursue_P3 a1 b1 b2 i list_a list_e list_n r1 r2 scales_a scales_e scales_n t24 vsome_8 q t42) ∧ Inv μ q t42 H
theorem spec_l05Pursue_L3 (a1 : Option Addr) (b1 : Nat) (b2 : Nat) (i : Int) (list_a : Option Addr) (list_e : Nat) (list_n : Nat) (r1 : Nat) (r2 : Nat) (scales_a : Option Addr) (scales_e : Nat) (scales_n : Nat) (t24 : Int) (vsome_8 : Bool) {Q : Post} (Inv : Nat → Nat → Int → AHeap → Prop) (ν : Nat) (q : Nat) (t42 : Int)  (H : AHeap) (h0 : Inv ν q t42 H)
    (hs : ∀ (μ : Nat) (q : Nat) (t42 : Int)  (H : AHeap), Inv μ q t42 H → exL Try.prog E_spec_l05Pursue (cl (cl (cr (cl (cr (cr (cr (cl (cl (cr (cl (cl (cr (cr (cl (cl (cr (cr (cl (cl (cr (cl (cr (cr (cr (cr (bodyC Try.f79))))))))))))))))))))))))))) 6597094961043 112 [(4, 25186195), (3, 25169811), (2, 25166739), (1, 25166739), (0, 657)] (spec_l05Pursue_P3 a1 b1 b2 i list_a list_e list_n r1 r2 scales_a scales_e scales_n t24 vsome_8 q t42) H (loopQ (spec_l05Pursue_I3 a1 b1 b2 i list_a list_e list_n r1 r2 scales_a scales_e scales_n t24 vsome_8 Inv) μ Q)) : loopK (exL Try.prog E_spec_l05Pursue (cl (cl (cr (cl (cr (cr (cr (cl (cl (cr (cl (cl (cr (cr (cl (cl (cr (cr (cl (cl (cr (cl (cr (cr (cr (cr (bodyC Try.f79))))))))))))))))))))))))))) 6597094961043 112 [(4, 25186195), (3, 25169811), (2, 25166739), (1, 25166739), (0, 657)]) (spec_l05Pursue_P3 a1 b1 b2 i list_a list_e list_n r1 r2 scales_a scales_e scales_n t24 vsome_8 q t42) H Q :=
  ⟨spec_l05Pursue_I3 a1 b1 b2 i list_a list_e list_n r1 r2 scales_a scales_e scales_n t24 vsome_8 Inv, ν, ⟨q, t42, rfl, h0⟩, fun μ tm H h => by obtain ⟨q, t42, rfl, hI⟩ := h; exact hs μ q t42  H hI⟩
theorem spec_l05Pursue_n3 {a1 : Option Addr} {b1 : Nat} {b2 : Nat} {i : Int} {list_a : Option Addr} {list_e : Nat} {list_n : Nat} {r1 : Nat} {r2 : Nat} {scales_a : Option Addr} {scales_e : Nat} {scales_n : Nat} {t24 : Int} {vsome_8 : Bool} {Q : Post} {Inv : Nat → Nat → Int → AHeap → Prop} {μ : Nat} (μ' : Nat) {q : Nat} {t42 : Int}  {H : AHeap} (hm : μ' < μ) (hI : Inv μ' q t42 H) : loopQ (spec_l05Pursue_I3 a1 b1 b2 i list_a list_e list_n r1 r2 scales_a scales_e scales_n t24 vsome_8 Inv) μ Q .normal (spec_l05Pursue_P3 a1 b1 b2 i list_a list_e list_n r1 r2 scales_a scales_e scales_n t24 vsome_8 q t42) H := ⟨μ', hm, q, t42, rfl, hI⟩
theorem spec_l05Pursue_x3_4 (b1 : Nat) (b2 : Nat) (i : Int) (list_a : Option Addr) (list_e : Nat) (list_n : Nat) (scales_a : Option Addr) (scales_e : Nat) (scales_n : Nat) (t24 : Int) (vsome_8 : Bool) (q : Nat) (H : AHeap)  (R : Post) {I : Nat → List Value → AHeap → Prop} {μ : Nat} : loopQ I μ (blockQ 4 (seqQ (exL Try.prog E_spec_l05Pursue (cr (cr (cr (cr (cl (cl (cr (cl (cl (cr (cr (cl (cl (cr (cr (cl (cl (cr (cl (cr (cr (cr (cr (bodyC Try.f79)))))))))))))))))))))))) 25169811 112 [(3, 25169811), (2, 25166739), (1, 25166739), (0, 657)]) (blockQ 3 (seqQ (exL Try.prog E_spec_l05Pursue (cr (cr (cl (cl (cr (cr (cl (cl (cr (cr (cl (cl (cr (cl (cr (cr (cr (cr (bodyC Try.f79))))))))))))))))))) 25169811 112 [(2, 25166739), (1, 25166739), (0, 657)]) (R))))) (.exit 4) [.slice list_a list_n list_e, .slice scales_a scales_n scales_e, ud, ud, .pointer (some ⟨b1, 0, none⟩), ud, ud, .pointer (some ⟨b2, 0, none⟩), .bool vsome_8, .int .i64 (list_n : Int), .int .i64 t24, .int .i64 i, ud, ud, .float .f32 q, ud, ud, ud, ud, ud, ud, ud, ud, .int .i64 (scales_n : Int), .int .i64 t24, ud, ud, ud, ud, ud, ud, ud, ud, ud, ud, ud, ud, ud, ud, ud, ud, ud, ud, ud, ud, ud, ud, ud, ud, ud, ud, ud, ud, ud, ud, ud, ud, ud, ud, ud, ud, ud, ud, ud, ud, ud, ud, ud, ud, ud, ud, ud, ud, ud, ud, ud, ud, ud, ud, ud, ud, ud, ud, ud, ud, ud, ud, ud, ud, ud, ud, ud, ud, ud, ud, ud, ud, ud, ud, ud, ud, ud, ud, ud, ud, ud] H =
  (T_spec_l01Finite q H fun (r3 : Bool) (H7 : AHeap) => Br (!r3) (isOwn H7 b1 ∧ (∃ l, rdN H7 b1 0 3 = some l) ∧ Lt (setN H7 b1 0 [.int .i64 0, .float .f32 0, .float .f32 0]) fun H8 => R .ret [ud, ud, ud, ud, .pointer (some ⟨b1, 0, none⟩), .slice none 0 0, .bool false, ud, ud, ud, ud, ud, ud, ud, ud, ud, ud, ud, ud, ud, ud, ud, ud, ud, ud, ud, ud, ud, ud, ud, ud, ud, ud, ud, ud, ud, ud, ud, ud, ud, ud, ud, ud, ud, ud, ud, ud, ud, ud, ud, ud, ud, ud, ud, ud, ud, ud, ud, ud, ud, ud, ud, ud, ud, ud, ud, ud, ud, ud, ud, ud, ud, ud, ud, ud, ud, ud, ud, ud, ud, ud, ud, ud, ud, ud, ud, ud, ud, ud, ud, ud, ud, ud, ud, ud, ud, ud, ud, ud, ud, ud, ud, ud, ud, ud, ud] H8) (Br (!vsome_8) ((0 : Int) ≤ t24 ∧ t24 < (scales_n : Int) ∧ ∃ b7 f4, (scales_a : Option Addr) = some ⟨b7, f4, none⟩ ∧ ∃ x4 : Nat,  rdC H7 b7 (f4 + (t24 : Int).toNat * 1) = some (.float .f32 x4) ∧ isOwn H7 b2 ∧ (∃ l, rdN H7 b2 0 3 = some l) ∧ Lt (setN H7 b2 0 [.int .i64 i, .float .f32 x4, .float .f32 q]) fun H9 => R .normal [.slice list_a list_n list_e, .slice scales_a scales_n scales_e, ud, ud, .pointer (some ⟨b1, 0, none⟩), ud, ud, .pointer (some ⟨b2, 0, none⟩), .bool true, .int .i64 (list_n : Int), .int .i64 t24, .int .i64 (IntKind.wrap .i64 (i + 1)), ud, ud, ud, ud, ud, ud, ud, ud, ud, ud, ud, .int .i64 (scales_n : Int), .int .i64 t24, ud, ud, ud, ud, ud, ud, ud, ud, ud, ud, ud, ud, ud, ud, ud, ud, ud, ud, ud, ud, ud, ud, ud, ud, ud, ud, ud, ud, ud, ud, ud, ud, ud, ud, ud, ud, ud, ud, ud, ud, ud, ud, ud, ud, ud, ud, ud, ud, ud, ud, ud, ud, ud, ud, ud, ud, ud, ud, ud, ud, ud, ud, ud, ud, ud, ud, ud, ud, ud, ud, ud, ud, ud, ud, ud, ud, ud, ud, ud, ud, ud] H9) (T_spec_l03Size q H7 fun (r4 : Nat) (H10 : AHeap) => ∃ x5 : Nat,  rdC H10 b2 2 = some (.float .f32 x5) ∧ T_spec_l03Size x5 H10 fun (r5 : Nat) (H11 : AHeap) => Br (flt .f32 r5 r4) ((0 : Int) ≤ t24 ∧ t24 < (scales_n : Int) ∧ ∃ b8 f5, (scales_a : Option Addr) = some ⟨b8, f5, none⟩ ∧ ∃ x6 : Nat,  rdC H11 b8 (f5 + (t24 : Int).toNat * 1) = some (.float .f32 x6) ∧ isOwn H11 b2 ∧ (∃ l, rdN H11 b2 0 3 = some l) ∧ Lt (setN H11 b2 0 [.int .i64 i, .float .f32 x6, .float .f32 q]) fun H12 => R .normal [.slice list_a list_n list_e, .slice scales_a scales_n scales_e, ud, ud, .pointer (some ⟨b1, 0, none⟩), ud, ud, .pointer (some ⟨b2, 0, none⟩), .bool true, .int .i64 (list_n : Int), .int .i64 t24, .int .i64 (IntKind.wrap .i64 (i + 1)), ud, ud, ud, ud, ud, ud, ud, ud, ud, ud, ud, .int .i64 (scales_n : Int), .int .i64 t24, ud, ud, ud, ud, ud, ud, ud, ud, ud, ud, ud, ud, ud, ud, ud, ud, ud, ud, ud, ud, ud, ud, ud, ud, ud, ud, ud, ud, ud, ud, ud, ud, ud, ud, ud, ud, ud, ud, ud, ud, ud, ud, ud, ud, ud, ud, ud, ud, ud, ud, ud, ud, ud, ud, ud, ud, ud, ud, ud, ud, ud, ud, ud, ud, ud, ud, ud, ud, ud, ud, ud, ud, ud, ud, ud, ud, ud, ud, ud, ud, ud] H12) (R .normal [.slice list_a list_n list_e, .slice scales_a scales_n scales_e, ud, ud, .pointer (some ⟨b1, 0, none⟩), ud, ud, .pointer (some ⟨b2, 0, none⟩), .bool vsome_8, .int .i64 (list_n : Int), .int .i64 t24, .int .i64 (IntKind.wrap .i64 (i + 1)), ud, ud, ud, ud, ud, ud, ud, ud, ud, ud, ud, .int .i64 (scales_n : Int), .int .i64 t24, ud, ud, ud, ud, ud, ud, ud, ud, ud, ud, ud, ud, ud, ud, ud, ud, ud, ud, ud, ud, ud, ud, ud, ud, ud, ud, ud, ud, ud, ud, ud, ud, ud, ud, ud, ud, ud, ud, ud, ud, ud, ud, ud, ud, ud, ud, ud, ud, ud, ud, ud, ud, ud, ud, ud, ud, ud, ud, ud, ud, ud, ud, ud, ud, ud, ud, ud, ud, ud, ud, ud, ud, ud, ud, ud, ud, ud, ud, ud, ud, ud] H11)))) := by kernel_rfl
abbrev spec_l05Pursue_P4 (a2 : Option Addr) (b1 : Nat) (b2 : Nat) (list_a : Option Addr) (list_e : Nat) (list_n : Nat) (r6 : Nat) (r7 : Nat) (left_a : Option Addr) (left_n : Nat) (left_e : Nat) (t84 : Int)  : List Value := [.slice list_a list_n list_e, ud, ud, ud, .pointer (some ⟨b1, 0, none⟩), ud, ud, .pointer (some ⟨b2, 0, none⟩), ud, ud, ud, ud, ud, ud, ud, ud, .slice a2 r6 r7, .slice left_a left_n left_e, ud, ud, ud, ud, ud, ud, ud, ud, ud, ud, ud, ud, ud, ud, ud, ud, ud, ud, ud, ud, ud, ud, ud, ud, ud, ud, ud, ud, ud, ud, ud, ud, ud, ud, ud, ud, ud, ud, ud, ud, ud, ud, ud, ud, ud, ud, ud, ud, ud, ud, ud, ud, ud, ud, ud, ud, ud, ud, ud, ud, ud, ud, ud, ud, ud, .int .i64 (list_n : Int), .int .i64 t84, ud, ud, ud, ud, ud, ud, ud, ud, ud, ud, ud, ud, ud, ud, ud, ud, ud, ud, ud, ud, ud]
theorem spec_l05Pursue_r4 (a2 : Option Addr) (b1 : Nat) (b2 : Nat) (list_a : Option Addr) (list_e : Nat) (list_n : Nat) (r6 : Nat) (r7 : Nat) (left_a : Option Addr) (left_n : Nat) (left_e : Nat) (t84 : Int)  (H : AHeap) (R : Post) : exL Try.prog E_spec_l05Pursue (cl (cl (cr (cl (cr (cr (cr (cr (cr (cr (cr (bodyC Try.f79)))))))))))) 29014219670751100193144977 112 [(6, 131216)] (spec_l05Pursue_P4 a2 b1 b2 list_a list_e list_n r6 r7 left_a left_n left_e t84) H R =
  (Br (decide ((t84 : Int) < (list_n : Int))) ((0 : Int) ≤ t84 ∧ t84 < (list_n : Int) ∧ ∃ b10 f6, (list_a : Option Addr) = some ⟨b10, f6, none⟩ ∧ ∃ x7 : Nat,  rdC H b10 (f6 + (t84 : Int).toNat * 1) = some (.float .f32 x7) ∧ (0 : Int) ≤ t84 ∧ t84 < (r6 : Int) ∧ ∃ b11 f7, (a2 : Option Addr) = some ⟨b11, f7, none⟩ ∧ ∃ x8 : Nat,  rdC H b11 (f7 + (t84 : Int).toNat * 1) = some (.float .f32 x8) ∧ Al [.float .f32 (fsub .f32 x7 x8)] H fun b12 H15 => ∃ o1 w1 : List Value, ownB H15 left_a left_n left_e 1 = some o1 ∧ rdS H15 (some ⟨b12, 0, none⟩) (1 * 1) = some w1 ∧ ((left_a : Option Addr) = none → 0 < (1 : Nat)) ∧ (left_n : Nat) + 1 < most ∧ Ap H15 (killB H15 left_a ++ [some ⟨o1 ++ w1, true⟩]) fun b13 H16 => R .normal [.slice list_a list_n list_e, ud, ud, ud, .pointer (some ⟨b1, 0, none⟩), ud, ud, .pointer (some ⟨b2, 0, none⟩), ud, ud, ud, ud, ud, ud, ud, ud, .slice a2 r6 r7, .slice (some ⟨b13, 0, none⟩) (left_n + 1) 1, ud, ud, ud, ud, ud, ud, ud, ud, ud, ud, ud, ud, ud, ud, ud, ud, ud, ud, ud, ud, ud, ud, ud, ud, ud, ud, ud, ud, ud, ud, ud, ud, ud, ud, ud, ud, ud, ud, ud, ud, ud, ud, ud, ud, ud, ud, ud, ud, ud, ud, ud, ud, ud, ud, ud, ud, ud, ud, ud, ud, ud, ud, ud, ud, ud, .int .i64 (list_n : Int), .int .i64 (IntKind.wrap .i64 (t84 + 1)), ud, ud, ud, ud, ud, ud, ud, ud, ud, ud, ud, ud, ud, ud, ud, ud, ud, ud, ud, ud, ud] H16) (R (.exit 6) [ud, ud, ud, ud, .pointer (some ⟨b1, 0, none⟩), ud, ud, .pointer (some ⟨b2, 0, none⟩), ud, ud, ud, ud, ud, ud, ud, ud, ud, .slice left_a left_n left_e, ud, ud, ud, ud, ud, ud, ud, ud, ud, ud, ud, ud, ud, ud, ud, ud, ud, ud, ud, ud, ud, ud, ud, ud, ud, ud, ud, ud, ud, ud, ud, ud, ud, ud, ud, ud, ud, ud, ud, ud, ud, ud, ud, ud, ud, ud, ud, ud, ud, ud, ud, ud, ud, ud, ud, ud, ud, ud, ud, ud, ud, ud, ud, ud, ud, ud, ud, ud, ud, ud, ud, ud, ud, ud, ud, ud, ud, ud, ud, ud, ud, ud, ud, ud, ud, ud, ud, ud] H)) := by kernel_rfl
def spec_l05Pursue_I4 (a2 : Option Addr) (b1 : Nat) (b2 : Nat) (list_a : Option Addr) (list_e : Nat) (list_n : Nat) (r6 : Nat) (r7 : Nat) (Inv : Nat → (Option Addr) → Nat → Nat → Int → AHeap → Prop) : Nat → List Value → AHeap → Prop := fun μ tm H => ∃ (left_a : Option Addr), ∃ (left_n : Nat), ∃ (left_e : Nat), ∃ (t84 : Int), tm = (spec_l05Pursue_P4 a2 b1 b2 list_a list_e list_n r6 r7 left_a left_n left_e t84) ∧ Inv μ left_a left_n left_e t84 H
theorem spec_l05Pursue_L4 (a2 : Option Addr) (b1 : Nat) (b2 : Nat) (list_a : Option Addr) (list_e : Nat) (list_n : Nat) (r6 : Nat) (r7 : Nat) {Q : Post} (Inv : Nat → (Option Addr) → Nat → Nat → Int → AHeap → Prop) (ν : Nat) (left_a : Option Addr) (left_n : Nat) (left_e : Nat) (t84 : Int)  (H : AHeap) (h0 : Inv ν left_a left_n left_e t84 H)
    (hs : ∀ (μ : Nat) (left_a : Option Addr) (left_n : Nat) (left_e : Nat) (t84 : Int)  (H : AHeap), Inv μ left_a left_n left_e t84 H → exL Try.prog E_spec_l05Pursue (cl (cl (cr (cl (cr (cr (cr (cr (cr (cr (cr (bodyC Try.f79)))))))))))) 29014219670751100193144977 112 [(6, 131216)] (spec_l05Pursue_P4 a2 b1 b2 list_a list_e list_n r6 r7 left_a left_n left_e t84) H (loopQ (spec_l05Pursue_I4 a2 b1 b2 list_a list_e list_n r6 r7 Inv) μ Q)) : loopK (exL Try.prog E_spec_l05Pursue (cl (cl (cr (cl (cr (cr (cr (cr (cr (cr (cr (bodyC Try.f79)))))))))))) 29014219670751100193144977 112 [(6, 131216)]) (spec_l05Pursue_P4 a2 b1 b2 list_a list_e list_n r6 r7 left_a left_n left_e t84) H Q :=
  ⟨spec_l05Pursue_I4 a2 b1 b2 list_a list_e list_n r6 r7 Inv, ν, ⟨left_a, left_n, left_e, t84, rfl, h0⟩, fun μ tm H h => by obtain ⟨left_a, left_n, left_e, t84, rfl, hI⟩ := h; exact hs μ left_a left_n left_e t84  H hI⟩
theorem spec_l05Pursue_n4 {a2 : Option Addr} {b1 : Nat} {b2 : Nat} {list_a : Option Addr} {list_e : Nat} {list_n : Nat} {r6 : Nat} {r7 : Nat} {Q : Post} {Inv : Nat → (Option Addr) → Nat → Nat → Int → AHeap → Prop} {μ : Nat} (μ' : Nat) {left_a : Option Addr} {left_n : Nat} {left_e : Nat} {t84 : Int}  {H : AHeap} (hm : μ' < μ) (hI : Inv μ' left_a left_n left_e t84 H) : loopQ (spec_l05Pursue_I4 a2 b1 b2 list_a list_e list_n r6 r7 Inv) μ Q .normal (spec_l05Pursue_P4 a2 b1 b2 list_a list_e list_n r6 r7 left_a left_n left_e t84) H := ⟨μ', hm, left_a, left_n, left_e, t84, rfl, hI⟩
theorem spec_l05Pursue_x4_6 (b1 : Nat) (b2 : Nat) (left_a : Option Addr) (left_n : Nat) (left_e : Nat) (H : AHeap) (K : Value → AHeap → Prop)  {I : Nat → List Value → AHeap → Prop} {μ : Nat} : loopQ I μ (blockQ 6 (seqQ (exL Try.prog E_spec_l05Pursue (cr (cr (cr (cr (cr (cr (cr (cr (bodyC Try.f79))))))))) 112 112 []) (retK Try.prog Try.f79 K))) (.exit 6) [ud, ud, ud, ud, .pointer (some ⟨b1, 0, none⟩), ud, ud, .pointer (some ⟨b2, 0, none⟩), ud, ud, ud, ud, ud, ud, ud, ud, ud, .slice left_a left_n left_e, ud, ud, ud, ud, ud, ud, ud, ud, ud, ud, ud, ud, ud, ud, ud, ud, ud, ud, ud, ud, ud, ud, ud, ud, ud, ud, ud, ud, ud, ud, ud, ud, ud, ud, ud, ud, ud, ud, ud, ud, ud, ud, ud, ud, ud, ud, ud, ud, ud, ud, ud, ud, ud, ud, ud, ud, ud, ud, ud, ud, ud, ud, ud, ud, ud, ud, ud, ud, ud, ud, ud, ud, ud, ud, ud, ud, ud, ud, ud, ud, ud, ud, ud, ud, ud, ud, ud, ud] H =
  (T_spec_l02Finite left_a left_n left_e H fun (r8 : Bool) (H17 : AHeap) => Br (!r8) (isOwn H17 b1 ∧ (∃ l, rdN H17 b1 0 3 = some l) ∧ Lt (setN H17 b1 0 [.int .i64 0, .float .f32 0, .float .f32 0]) fun H18 => ∃ c1 : Int, ∃ c2 : Nat, ∃ c3 : Nat,  rdN H18 b1 0 3 = some [.int .i64 c1, .float .f32 c2, .float .f32 c3] ∧ K (.tuple #[.agg #[.int .i64 c1, .float .f32 c2, .float .f32 c3], .slice none 0 0, .bool false]) H18) (∃ c4 : Int, ∃ c5 : Nat, ∃ c6 : Nat,  rdN H17 b2 0 3 = some [.int .i64 c4, .float .f32 c5, .float .f32 c6] ∧ isOwn H17 b1 ∧ (∃ l, rdN H17 b1 0 3 = some l) ∧ Lt (setN H17 b1 0 [.int .i64 c4, .float .f32 c5, .float .f32 c6]) fun H19 => ∃ c7 : Int, ∃ c8 : Nat, ∃ c9 : Nat,  rdN H19 b1 0 3 = some [.int .i64 c7, .float .f32 c8, .float .f32 c9] ∧ K (.tuple #[.agg #[.int .i64 c7, .float .f32 c8, .float .f32 c9], .slice left_a left_n left_e, .bool true]) H19)) := by kernel_rfl
theorem E_spec_l05Pursue_ok : ∀ g, FnOk Try.prog g (E_spec_l05Pursue g) := FnOk.envOf (by
  intro x hx
  simp only [List.mem_cons, List.not_mem_nil, or_false] at hx
  rcases hx with rfl | rfl | rfl | rfl
  · exact spec_l05Of_ok
  · exact spec_l01Finite_ok
  · exact spec_l03Size_ok
  · exact spec_l02Finite_ok)
theorem o27 {P : Prop} (h : P := by first | omega | (simp; done) | (simp; omega) | (first | exact Or.inl ⟨rfl, rfl⟩ | exact PI.into (by assumption) (fun h => by omega))) : P := h
theorem o22 {P : Prop} (h : P := by first | omega | (simp; done) | (simp; omega) | (first | exact PI.into (by assumption) (fun h => ⟨h, rfl⟩) | exact Or.inr ⟨rfl, by omega, by omega, scale_at (by assumption) (by omega) (by omega)⟩ | exact PI.keep (by assumption) (by assumption))) : P := h
theorem o36 {P : Prop} (h : P := by first | omega | (simp; done) | (simp; omega) | (assumption)) : P := h
theorem o24 {P : Prop} (h : P := by first | omega | (assumption) | (simp only [List.length_append, List.length_cons, List.length_nil, List.length_set]; done) | (simp only [List.length_append, List.length_cons, List.length_nil, List.length_set]; omega)) : P := h
theorem o13 {P : Prop} (h : P := by first | exact OwnS.nil _ _ _ _ | exact OwnT.nil _ _ _) : P := h
theorem o7 {P : Prop} (h : P := by first | omega | (first | exact PI.into (by assumption) (fun h => ⟨h, rfl⟩) | exact Or.inr ⟨rfl, by omega, by omega, scale_at (by assumption) (by omega) (by omega)⟩ | exact PI.keep (by assumption) (by assumption)) | (simp only [List.length_append, List.length_cons, List.length_nil, List.length_set]; done) | (simp only [List.length_append, List.length_cons, List.length_nil, List.length_set]; omega)) : P := h
theorem o17 {P : Prop} (h : P := by first | omega | (first | exact Or.inl ⟨rfl, rfl⟩ | exact PI.into (by assumption) (fun h => by omega)) | (simp only [List.length_append, List.length_cons, List.length_nil, List.length_set]; done) | (simp only [List.length_append, List.length_cons, List.length_nil, List.length_set]; omega)) : P := h
set_option maxHeartbeats 1000000 in
theorem spec_l05Pursue_main (list_a : Option Addr) (list_n : Nat) (list_e : Nat) (scales_a : Option Addr) (scales_n : Nat) (scales_e : Nat) (H : AHeap) (K : Value → AHeap → Prop) (h : T_spec_l05Pursue list_a list_n list_e scales_a scales_n scales_e H fun (r1_Place : Int) (r1_Scale : Nat) (r1_Size : Nat) (r2_a : Option Addr) (r2_n : Nat) (r2_e : Nat) (r3 : Bool) (H' : AHeap) => K (.tuple #[.agg #[.int .i64 r1_Place, .float .f32 r1_Scale, .float .f32 r1_Size], .slice r2_a r2_n r2_e, .bool r3]) H') : bodyL Try.prog E_spec_l05Pursue Try.f79 [.slice list_a list_n list_e, .slice scales_a scales_n scales_e] H K := by
  rw [spec_l05Pursue_vc]
  obtain ⟨l_list, l_scales, i_list, i_scales, bd_284, bd_285, pr0, pr1, pr2, pr3, hk⟩ := h
  obtain rfl := i_list.eqn
  obtain rfl := i_scales.eqn
  have e : (p_spec_l05Pursue l_list l_scales) = _ := rfl
  have e := e.trans (p_spec_l05Pursue_eq l_list l_scales)
  have g0 := Grow.refl H
  refine Al.intro (fun b_1 H_1 hb_2 hl_3 g_4 o_5 => ?_)
  have l_7 := g_4.1
  have g_8 := g0.trans g_4
  have l_9 := g_8.1
  have w_283 := o_5.lt
  refine Al.intro (fun b_10 H_2 hb_11 hl_12 g_13 o_14 => ?_)
  have l_16 := g_13.1
  have g_17 := g_8.trans g_13
  have l_18 := g_17.1
  have o_19 := o_5.grow g_13
  have w_20 := o_19.lt
  have w_282 := o_14.lt
  refine Lt.setN (n := 3) o_14 (Nat.le_of_ble_eq_true rfl) rfl (fun H_3 hl_21 o_23 k_22 => ?_)
  have o_23 : Own H_3 b_10 [.int .i64 0, .float .f32 0, .float .f32 0] := o_23
  have l_24 := k_22.1
  have g_25 := g_17.keep (b := b_10) o3 k_22
  have l_26 := g_25.1
  have o_27 := o_19.keep o3 k_22
  have w_28 := o_27.lt
  have w_281 := o_23.lt
  refine spec_l05Pursue_L1 _ _ _ _ _ _ _ _ (fun (μ : Nat) (vsome : Bool) (t24 : Int) (H_4 : AHeap) => ∃ (t6 : Bool), ∃ (q1_1 : Int), ∃ (q1_2 : Nat), ∃ (q1_3 : Nat), ∃ (q1_4 : Int), ∃ (q1_5 : Nat), ∃ (q1_6 : Nat), Own H_4 b_1 [.int .i64 q1_1, .float .f32 q1_2, .float .f32 q1_3] ∧ Own H_4 b_10 [.int .i64 q1_4, .float .f32 q1_5, .float .f32 q1_6] ∧ (b_10 ≠ b_1) ∧ Grow H H_4 ∧ (0 : Int) ≤ t24 ∧ t24 ≤ (l_scales.length : Int) ∧ PI (t24 = 0) vsome q1_4 l_list.length q1_5 ∧ (l_scales.length : Int) - t24 ≤ (μ : Int) ∧ p_spec_l05Pursue l_list l_scales = p_spec_l05Pursue_l1 l_list l_scales (μ + 1) t6 vsome t24 q1_1 q1_2 q1_3 q1_4 q1_5 q1_6) (Int.toNat ((l_scales.length : Int) - (0 : Int))) _ _ H_3 ?_ ?_
  · exact ⟨_, _, _, _, _, _, _, o_27, o_23, o3, g_25, o27, o27, o27, o3, e⟩
  · intro μ vsome t24  H_4 hI
    obtain ⟨t6, q1_1, q1_2, q1_3, q1_4, q1_5, q1_6, o_29, o_30, n_31, g_32, v_33, v_34, v_35, hμ, e⟩ := hI
    rw [spec_l05Pursue_r1]
    have e := e.trans (p_spec_l05Pursue_l1_s l_list l_scales μ t6 vsome t24 q1_1 q1_2 q1_3 q1_4 q1_5 q1_6)
    have w_36 := o_29.lt
    have w_37 := o_30.lt
    have l_38 := g_32.1
    refine Br.intro (fun c_39 => ?_) (fun c_39 => ?_)
    · have e := e.trans (cond_t c_39)
      have c_39' := of_decide_eq_true c_39
      refine spec_l05Pursue_L2 _ _ _ _ _ _ _ _ _ (fun (μ2 : Nat) (vsome_8 : Bool) (i : Int) (H_5 : AHeap) => ∃ (t6_6 : Bool), ∃ (q2_1 : Int), ∃ (q2_2 : Nat), ∃ (q2_3 : Nat), ∃ (q2_4 : Int), ∃ (q2_5 : Nat), ∃ (q2_6 : Nat), Own H_5 b_1 [.int .i64 q2_1, .float .f32 q2_2, .float .f32 q2_3] ∧ Own H_5 b_10 [.int .i64 q2_4, .float .f32 q2_5, .float .f32 q2_6] ∧ (b_10 ≠ b_1) ∧ Grow H H_5 ∧ (0 : Int) ≤ i ∧ i ≤ (l_list.length : Int) ∧ PI (t24 = 0 ∧ i = 0) vsome_8 q2_4 l_list.length q2_5 ∧ (l_list.length : Int) - i ≤ (μ2 : Int) ∧ p_spec_l05Pursue l_list l_scales = p_spec_l05Pursue_l2 l_list l_scales t6 vsome t24 q1_1 q1_2 q1_3 q1_4 q1_5 q1_6 (fun (t6_6 : Bool) (vsome_8 : Bool) (i : Int) (q2_1 : Int) (q2_2 : Nat) (q2_3 : Nat) (q2_4 : Int) (q2_5 : Nat) (q2_6 : Nat) => (p_spec_l05Pursue_l1 l_list l_scales μ t6_6 vsome_8 (t24 + 1) q2_1 q2_2 q2_3 q2_4 q2_5 q2_6)) (μ2 + 1) t6_6 vsome_8 i q2_1 q2_2 q2_3 q2_4 q2_5 q2_6) (Int.toNat ((l_list.length : Int) - (0 : Int))) _ _ H_4 ?_ ?_
      · exact ⟨_, _, _, _, _, _, _, o_29, o_30, o3, g_32, o22, o22, o22, o3, e⟩
      · intro μ2 vsome_8 i  H_5 hI
        obtain ⟨t6_6, q2_1, q2_2, q2_3, q2_4, q2_5, q2_6, o_40, o_41, n_42, g_43, v_44, v_45, v_46, hμ, e⟩ := hI
        rw [spec_l05Pursue_r2]
        have e := e.trans (p_spec_l05Pursue_l2_s l_list l_scales t6 vsome t24 q1_1 q1_2 q1_3 q1_4 q1_5 q1_6 (fun (t6_6 : Bool) (vsome_8 : Bool) (i : Int) (q2_1 : Int) (q2_2 : Nat) (q2_3 : Nat) (q2_4 : Int) (q2_5 : Nat) (q2_6 : Nat) => (p_spec_l05Pursue_l1 l_list l_scales μ t6_6 vsome_8 (t24 + 1) q2_1 q2_2 q2_3 q2_4 q2_5 q2_6)) μ2 t6_6 vsome_8 i q2_1 q2_2 q2_3 q2_4 q2_5 q2_6)
        have w_47 := o_40.lt
        have w_48 := o_41.lt
        have l_49 := g_43.1
        refine Br.intro (fun c_50 => ?_) (fun c_50 => ?_)
        · have e := e.trans (cond_t c_50)
          have c_50' := of_decide_eq_true c_50
          obtain ⟨b_51, f_52, q_53⟩ := ((i_scales.grow g_43)).pos o0
          refine ⟨by omega, by omega, b_51, f_52, q_53, ?_⟩
          refine ⟨((l_scales).getD (t24 : Int).toNat 0), (i_scales).rd g_43 q_53 o3 _, ?_⟩
          refine Al.intro (fun b_54 H_6 hb_55 hl_56 g_57 o_58 => ?_)
          have l_60 := g_57.1
          have g_61 := g_43.trans g_57
          have l_62 := g_61.1
          have o_63 := o_40.grow g_57
          have w_64 := o_63.lt
          have o_65 := o_41.grow g_57
          have w_66 := o_65.lt
          have w_164 := o_58.lt
          refine Lt.setN (n := 3) o_58 (Nat.le_of_ble_eq_true rfl) rfl (fun H_7 hl_67 o_69 k_68 => ?_)
          have o_69 : Own H_7 b_54 [.int .i64 i, .float .f32 (((l_scales).getD (t24 : Int).toNat 0)), .float .f32 1065353216] := o_69
          have l_70 := k_68.1
          have g_71 := g_61.keep (b := b_54) o3 k_68
          have l_72 := g_71.1
          have o_73 := o_63.keep o3 k_68
          have w_74 := o_73.lt
          have o_75 := o_65.keep o3 k_68
          have w_76 := o_75.lt
          have w_163 := o_69.lt
          refine T_spec_l05Of_i ⟨i, ((l_scales).getD (t24 : Int).toNat 0), 1065353216, ((o_69.rdN (Nat.le_of_ble_eq_true rfl)).trans rfl), (by first | assumption | omega | (simp; omega) | (first | exact (atom_in (by assumption)).2.1 | (have := atom_in (by assumption); omega)) | (first | exact scale_at (by assumption) (by omega) (by omega) | (have := PI.fin (by assumption) (by omega); omega) | exact (PI.fin (by assumption) (by omega)).2.2)), (by first | assumption | omega | (simp; omega) | (first | exact (atom_in (by assumption)).2.1 | (have := atom_in (by assumption); omega)) | (first | exact scale_at (by assumption) (by omega) (by omega) | (have := PI.fin (by assumption) (by omega); omega) | exact (PI.fin (by assumption) (by omega)).2.2)), (by first | assumption | omega | (simp; omega) | (first | exact (atom_in (by assumption)).2.1 | (have := atom_in (by assumption); omega)) | (first | exact scale_at (by assumption) (by omega) (by omega) | (have := PI.fin (by assumption) (by omega); omega) | exact (PI.fin (by assumption) (by omega)).2.2)), (by first | assumption | omega | (simp; omega) | (first | exact (atom_in (by assumption)).2.1 | (have := atom_in (by assumption); omega)) | (first | exact scale_at (by assumption) (by omega) (by omega) | (have := PI.fin (by assumption) (by omega); omega) | exact (PI.fin (by assumption) (by omega)).2.2)), (by first | assumption | omega | (simp; omega) | (first | exact (atom_in (by assumption)).2.1 | (have := atom_in (by assumption); omega)) | (first | exact scale_at (by assumption) (by omega) (by omega) | (have := PI.fin (by assumption) (by omega); omega) | exact (PI.fin (by assumption) (by omega)).2.2)), fun a_77 n_78 e_79 H_8 g_82 r_80 => ?_⟩
          have z_81 := spec_l05Of_full (l_list.length : Int) i (((l_scales).getD (t24 : Int).toNat 0)) 1065353216 o37
          have l_83 := g_82.1
          have g_84 := g_71.trans g_82
          have l_85 := g_84.1
          have o_86 := o_73.grow g_82
          have w_87 := o_86.lt
          have o_88 := o_75.grow g_82
          have w_89 := o_88.lt
          have o_90 := o_69.grow g_82
          have w_91 := o_90.lt
          obtain rfl := r_80.isL.eqn
          have u_92 := r_80.up
          have u_93 := r_80.lo
          refine spec_l05Pursue_L3 _ _ _ _ _ _ _ _ _ _ _ _ _ _ (fun (μ3 : Nat) (q : Nat) (t42 : Int) (H_9 : AHeap) => ∃ (q3_1 : Int), ∃ (q3_2 : Nat), ∃ (q3_3 : Nat), ∃ (q3_4 : Int), ∃ (q3_5 : Nat), ∃ (q3_6 : Nat), Own H_9 b_1 [.int .i64 q3_1, .float .f32 q3_2, .float .f32 q3_3] ∧ Own H_9 b_10 [.int .i64 q3_4, .float .f32 q3_5, .float .f32 q3_6] ∧ Own H_9 b_54 ([.int .i64 i, .float .f32 (((l_scales).getD (t24 : Int).toNat 0)), .float .f32 1065353216]) ∧ OwnS fF H_9 H_7.length a_77 (((p_spec_l05Of (l_list.length : Int) i (((l_scales).getD (t24 : Int).toNat 0)) 1065353216)).length) e_79 ((p_spec_l05Of (l_list.length : Int) i (((l_scales).getD (t24 : Int).toNat 0)) 1065353216)) ∧ (b_10 ≠ b_1) ∧ (b_54 ≠ b_1) ∧ (b_54 ≠ b_10) ∧ H_8.length ≤ H_9.length ∧ Grow H H_9 ∧ (0 : Int) ≤ t42 ∧ t42 ≤ (((p_spec_l05Of (l_list.length : Int) i (((l_scales).getD (t24 : Int).toNat 0)) 1065353216)).length : Int) ∧ PI (t24 = 0 ∧ i = 0) vsome_8 q3_4 l_list.length q3_5 ∧ (((p_spec_l05Of (l_list.length : Int) i (((l_scales).getD (t24 : Int).toNat 0)) 1065353216)).length : Int) - t42 ≤ (μ3 : Int) ∧ p_spec_l05Pursue l_list l_scales = p_spec_l05Pursue_l3 l_list l_scales t6 vsome t24 q1_1 q1_2 q1_3 q1_4 q1_5 q1_6 t6_6 vsome_8 i q2_1 q2_2 q2_3 q2_4 q2_5 q2_6 (fun (q : Nat) (t42 : Int) (q3_1 : Int) (q3_2 : Nat) (q3_3 : Nat) (q3_4 : Int) (q3_5 : Nat) (q3_6 : Nat) => (bif !(p_spec_l01Finite q) then ((0 : Int), 0, 0, [], false) else (bif !vsome_8 then (p_spec_l05Pursue_l2 l_list l_scales t6 vsome t24 q1_1 q1_2 q1_3 q1_4 q1_5 q1_6 (fun (t6_6 : Bool) (vsome_8 : Bool) (i : Int) (q2_1 : Int) (q2_2 : Nat) (q2_3 : Nat) (q2_4 : Int) (q2_5 : Nat) (q2_6 : Nat) => (p_spec_l05Pursue_l1 l_list l_scales μ t6_6 vsome_8 (t24 + 1) q2_1 q2_2 q2_3 q2_4 q2_5 q2_6)) μ2 t6_6 true (i + 1) q3_1 q3_2 q3_3 i (((l_scales).getD (t24 : Int).toNat 0)) q) else (bif flt .f32 (p_spec_l03Size q3_6) (p_spec_l03Size q) then (p_spec_l05Pursue_l2 l_list l_scales t6 vsome t24 q1_1 q1_2 q1_3 q1_4 q1_5 q1_6 (fun (t6_6 : Bool) (vsome_8 : Bool) (i : Int) (q2_1 : Int) (q2_2 : Nat) (q2_3 : Nat) (q2_4 : Int) (q2_5 : Nat) (q2_6 : Nat) => (p_spec_l05Pursue_l1 l_list l_scales μ t6_6 vsome_8 (t24 + 1) q2_1 q2_2 q2_3 q2_4 q2_5 q2_6)) μ2 t6_6 true (i + 1) q3_1 q3_2 q3_3 i (((l_scales).getD (t24 : Int).toNat 0)) q) else (p_spec_l05Pursue_l2 l_list l_scales t6 vsome t24 q1_1 q1_2 q1_3 q1_4 q1_5 q1_6 (fun (t6_6 : Bool) (vsome_8 : Bool) (i : Int) (q2_1 : Int) (q2_2 : Nat) (q2_3 : Nat) (q2_4 : Int) (q2_5 : Nat) (q2_6 : Nat) => (p_spec_l05Pursue_l1 l_list l_scales μ t6_6 vsome_8 (t24 + 1) q2_1 q2_2 q2_3 q2_4 q2_5 q2_6)) μ2 t6_6 vsome_8 (i + 1) q3_1 q3_2 q3_3 q3_4 q3_5 q3_6))))) (μ3 + 1) q t42 q3_1 q3_2 q3_3 q3_4 q3_5 q3_6) (Int.toNat ((((p_spec_l05Of (l_list.length : Int) i (((l_scales).getD (t24 : Int).toNat 0)) 1065353216)).length : Int) - (0 : Int))) _ _ H_8 ?_ ?_
          · exact ⟨_, _, _, _, _, _, o_86, o_88, o_90, r_80, o3, o3, o3, o3, g_84, o36, o36, o36, o3, e⟩
          · intro μ3 q t42  H_9 hI
            obtain ⟨q3_1, q3_2, q3_3, q3_4, q3_5, q3_6, o_95, o_96, o_97, r_98, n_99, n_100, n_101, n_102, g_103, v_104, v_105, v_106, hμ, e⟩ := hI
            rw [spec_l05Pursue_r3]
            have e := e.trans (p_spec_l05Pursue_l3_s l_list l_scales t6 vsome t24 q1_1 q1_2 q1_3 q1_4 q1_5 q1_6 t6_6 vsome_8 i q2_1 q2_2 q2_3 q2_4 q2_5 q2_6 (fun (q : Nat) (t42 : Int) (q3_1 : Int) (q3_2 : Nat) (q3_3 : Nat) (q3_4 : Int) (q3_5 : Nat) (q3_6 : Nat) => (bif !(p_spec_l01Finite q) then ((0 : Int), 0, 0, [], false) else (bif !vsome_8 then (p_spec_l05Pursue_l2 l_list l_scales t6 vsome t24 q1_1 q1_2 q1_3 q1_4 q1_5 q1_6 (fun (t6_6 : Bool) (vsome_8 : Bool) (i : Int) (q2_1 : Int) (q2_2 : Nat) (q2_3 : Nat) (q2_4 : Int) (q2_5 : Nat) (q2_6 : Nat) => (p_spec_l05Pursue_l1 l_list l_scales μ t6_6 vsome_8 (t24 + 1) q2_1 q2_2 q2_3 q2_4 q2_5 q2_6)) μ2 t6_6 true (i + 1) q3_1 q3_2 q3_3 i (((l_scales).getD (t24 : Int).toNat 0)) q) else (bif flt .f32 (p_spec_l03Size q3_6) (p_spec_l03Size q) then (p_spec_l05Pursue_l2 l_list l_scales t6 vsome t24 q1_1 q1_2 q1_3 q1_4 q1_5 q1_6 (fun (t6_6 : Bool) (vsome_8 : Bool) (i : Int) (q2_1 : Int) (q2_2 : Nat) (q2_3 : Nat) (q2_4 : Int) (q2_5 : Nat) (q2_6 : Nat) => (p_spec_l05Pursue_l1 l_list l_scales μ t6_6 vsome_8 (t24 + 1) q2_1 q2_2 q2_3 q2_4 q2_5 q2_6)) μ2 t6_6 true (i + 1) q3_1 q3_2 q3_3 i (((l_scales).getD (t24 : Int).toNat 0)) q) else (p_spec_l05Pursue_l2 l_list l_scales t6 vsome t24 q1_1 q1_2 q1_3 q1_4 q1_5 q1_6 (fun (t6_6 : Bool) (vsome_8 : Bool) (i : Int) (q2_1 : Int) (q2_2 : Nat) (q2_3 : Nat) (q2_4 : Int) (q2_5 : Nat) (q2_6 : Nat) => (p_spec_l05Pursue_l1 l_list l_scales μ t6_6 vsome_8 (t24 + 1) q2_1 q2_2 q2_3 q2_4 q2_5 q2_6)) μ2 t6_6 vsome_8 (i + 1) q3_1 q3_2 q3_3 q3_4 q3_5 q3_6))))) μ3 q t42 q3_1 q3_2 q3_3 q3_4 q3_5 q3_6)
            have w_107 := o_95.lt
            have w_108 := o_96.lt
            have w_109 := o_97.lt
            have l_110 := g_103.1
            refine Br.intro (fun c_111 => ?_) (fun c_111 => ?_)
            · have e := e.trans (cond_t c_111)
              have c_111' := of_decide_eq_true c_111
              obtain ⟨b_112, f_113, q_114⟩ := (r_98.isL).pos o0
              refine ⟨by omega, by omega, b_112, f_113, q_114, ?_⟩
              refine ⟨(((p_spec_l05Of (l_list.length : Int) i (((l_scales).getD (t24 : Int).toNat 0)) 1065353216)).getD (t42 : Int).toNat 0), (r_98.isL).rd (Grow.refl _) q_114 o3 _, ?_⟩
              obtain ⟨b_115, f_116, q_117⟩ := ((i_list.grow g_103)).pos o0
              refine ⟨by omega, by omega, b_115, f_116, q_117, ?_⟩
              refine ⟨((l_list).getD (t42 : Int).toNat 0), (i_list).rd g_103 q_117 o3 _, ?_⟩
              rw [show IntKind.wrap .i64 (t42 + 1) = (t42 + 1) from wrap64 o3 o3]
              refine spec_l05Pursue_n3 (μ3 - 1) o12 ⟨_, _, _, _, _, _, o_95, o_96, o_97, r_98, o3, o3, o3, o3, g_103, o24, o24, o24, o12, (by rw [show μ3 - 1 + 1 = μ3 from by first | omega]; exact e)⟩
            · have e := e.trans (cond_f c_111)
              have c_111' := of_decide_eq_false c_111
              rw [spec_l05Pursue_x3_4]
              refine T_spec_l01Finite_i ?_
              refine Br.intro (fun c_118 => ?_) (fun c_118 => ?_)
              · have e := e.trans (cond_t c_118)
                have c_118n := nf_of_t c_118
                refine Lt.setN (n := 3) o_95 (Nat.le_of_ble_eq_true rfl) rfl (fun H_10 hl_119 o_121 k_120 => ?_)
                have o_121 : Own H_10 b_1 [.int .i64 0, .float .f32 0, .float .f32 0] := o_121
                have l_122 := k_120.1
                have g_123 := g_103.keep (b := b_1) o3 k_120
                have l_124 := g_123.1
                have o_125 := o_96.keep o3 k_120
                have w_126 := o_125.lt
                have o_127 := o_97.keep o3 k_120
                have w_128 := o_127.lt
                have r_129 := r_98.keep u_92 o3 k_120
                have w_130 := o_121.lt
                rw [spec_l05Pursue_x2_ret]
                rw [spec_l05Pursue_x1_ret]
                refine ⟨0, 0, 0, (o_121.rdN (Nat.le_of_ble_eq_true rfl)).trans rfl, ?_⟩
                rw [e] at hk
                exact hk _ _ _ H_10 g_123 o13
              · have e := e.trans (cond_f c_118)
                have c_118n := nt_of_f c_118
                refine Br.intro (fun c_131 => ?_) (fun c_131 => ?_)
                · have e := e.trans (cond_t c_131)
                  have c_131n := nf_of_t c_131
                  obtain ⟨b_132, f_133, q_134⟩ := ((i_scales.grow g_103)).pos o0
                  refine ⟨by omega, by omega, b_132, f_133, q_134, ?_⟩
                  refine ⟨((l_scales).getD (t24 : Int).toNat 0), (i_scales).rd g_103 q_134 o3 _, ?_⟩
                  refine Lt.setN (n := 3) o_96 (Nat.le_of_ble_eq_true rfl) rfl (fun H_11 hl_135 o_137 k_136 => ?_)
                  have o_137 : Own H_11 b_10 [.int .i64 i, .float .f32 (((l_scales).getD (t24 : Int).toNat 0)), .float .f32 q] := o_137
                  have l_138 := k_136.1
                  have g_139 := g_103.keep (b := b_10) o3 k_136
                  have l_140 := g_139.1
                  have o_141 := o_95.keep o3 k_136
                  have w_142 := o_141.lt
                  have o_143 := o_97.keep o3 k_136
                  have w_144 := o_143.lt
                  have r_145 := r_98.keep u_92 o3 k_136
                  have w_146 := o_137.lt
                  rw [show IntKind.wrap .i64 (i + 1) = (i + 1) from wrap64 o3 o3]
                  refine spec_l05Pursue_n2 (μ2 - 1) o12 ⟨_, _, _, _, _, _, _, o_141, o_137, o3, g_139, o7, o7, o7, o12, (by rw [show μ2 - 1 + 1 = μ2 from by first | omega]; exact e)⟩
                · have e := e.trans (cond_f c_131)
                  have c_131n := nt_of_f c_131
                  refine T_spec_l03Size_i ?_
                  refine ⟨q3_6, (o_96.rdC _).trans rfl, ?_⟩
                  refine T_spec_l03Size_i ?_
                  refine Br.intro (fun c_147 => ?_) (fun c_147 => ?_)
                  · have e := e.trans (cond_t c_147)
                    obtain ⟨b_148, f_149, q_150⟩ := ((i_scales.grow g_103)).pos o0
                    refine ⟨by omega, by omega, b_148, f_149, q_150, ?_⟩
                    refine ⟨((l_scales).getD (t24 : Int).toNat 0), (i_scales).rd g_103 q_150 o3 _, ?_⟩
                    refine Lt.setN (n := 3) o_96 (Nat.le_of_ble_eq_true rfl) rfl (fun H_12 hl_151 o_153 k_152 => ?_)
                    have o_153 : Own H_12 b_10 [.int .i64 i, .float .f32 (((l_scales).getD (t24 : Int).toNat 0)), .float .f32 q] := o_153
                    have l_154 := k_152.1
                    have g_155 := g_103.keep (b := b_10) o3 k_152
                    have l_156 := g_155.1
                    have o_157 := o_95.keep o3 k_152
                    have w_158 := o_157.lt
                    have o_159 := o_97.keep o3 k_152
                    have w_160 := o_159.lt
                    have r_161 := r_98.keep u_92 o3 k_152
                    have w_162 := o_153.lt
                    rw [show IntKind.wrap .i64 (i + 1) = (i + 1) from wrap64 o3 o3]
                    refine spec_l05Pursue_n2 (μ2 - 1) o12 ⟨_, _, _, _, _, _, _, o_157, o_153, o3, g_155, o7, o7, o7, o12, (by rw [show μ2 - 1 + 1 = μ2 from by first | omega]; exact e)⟩
                  · have e := e.trans (cond_f c_147)
                    rw [show IntKind.wrap .i64 (i + 1) = (i + 1) from wrap64 o3 o3]
                    refine spec_l05Pursue_n2 (μ2 - 1) o12 ⟨_, _, _, _, _, _, _, o_95, o_96, o3, g_103, o7, o7, o7, o12, (by rw [show μ2 - 1 + 1 = μ2 from by first | omega]; exact e)⟩
        · have e := e.trans (cond_f c_50)
          have c_50' := of_decide_eq_false c_50
          rw [spec_l05Pursue_x2_2]
          rw [show IntKind.wrap .i64 (t24 + 1) = (t24 + 1) from wrap64 o3 o3]
          refine spec_l05Pursue_n1 (μ - 1) o12 ⟨_, _, _, _, _, _, _, o_40, o_41, o3, g_43, o17, o17, o17, o12, (by rw [show μ - 1 + 1 = μ from by first | omega]; exact e)⟩
    · have e := e.trans (cond_f c_39)
      have c_39' := of_decide_eq_false c_39
      rw [spec_l05Pursue_x1_0]
      refine T_spec_l05Of_i ⟨q1_4, q1_5, q1_6, ((o_30.rdN (Nat.le_of_ble_eq_true rfl)).trans rfl), (by first | assumption | omega | (simp; omega) | (first | exact (atom_in (by assumption)).2.1 | (have := atom_in (by assumption); omega)) | (first | exact scale_at (by assumption) (by omega) (by omega) | (have := PI.fin (by assumption) (by omega); omega) | exact (PI.fin (by assumption) (by omega)).2.2)), (by first | assumption | omega | (simp; omega) | (first | exact (atom_in (by assumption)).2.1 | (have := atom_in (by assumption); omega)) | (first | exact scale_at (by assumption) (by omega) (by omega) | (have := PI.fin (by assumption) (by omega); omega) | exact (PI.fin (by assumption) (by omega)).2.2)), (by first | assumption | omega | (simp; omega) | (first | exact (atom_in (by assumption)).2.1 | (have := atom_in (by assumption); omega)) | (first | exact scale_at (by assumption) (by omega) (by omega) | (have := PI.fin (by assumption) (by omega); omega) | exact (PI.fin (by assumption) (by omega)).2.2)), (by first | assumption | omega | (simp; omega) | (first | exact (atom_in (by assumption)).2.1 | (have := atom_in (by assumption); omega)) | (first | exact scale_at (by assumption) (by omega) (by omega) | (have := PI.fin (by assumption) (by omega); omega) | exact (PI.fin (by assumption) (by omega)).2.2)), (by first | assumption | omega | (simp; omega) | (first | exact (atom_in (by assumption)).2.1 | (have := atom_in (by assumption); omega)) | (first | exact scale_at (by assumption) (by omega) (by omega) | (have := PI.fin (by assumption) (by omega); omega) | exact (PI.fin (by assumption) (by omega)).2.2)), fun a_165 n_166 e_167 H_13 g_170 r_168 => ?_⟩
      have z_169 := spec_l05Of_full (l_list.length : Int) q1_4 q1_5 q1_6 o37
      have l_171 := g_170.1
      have g_172 := g_32.trans g_170
      have l_173 := g_172.1
      have o_174 := o_29.grow g_170
      have w_175 := o_174.lt
      have o_176 := o_30.grow g_170
      have w_177 := o_176.lt
      obtain rfl := r_168.isL.eqn
      have u_178 := r_168.up
      have u_179 := r_168.lo
      refine Al.intro (fun b_181 H_14 hb_182 hl_183 g_184 o_185 => ?_)
      have o_185 : Own H_14 b_181 ((([] : List Nat)).map fF) := o_185
      have l_187 := g_184.1
      have g_188 := g_172.trans g_184
      have l_189 := g_188.1
      have o_190 := o_174.grow g_184
      have w_191 := o_190.lt
      have o_192 := o_176.grow g_184
      have w_193 := o_192.lt
      have r_194 := r_168.grow g_184
      have w_280 := o_185.lt
      refine spec_l05Pursue_L4 _ _ _ _ _ _ _ _ (fun (μ4 : Nat) (left_a : Option Addr) (left_n : Nat) (left_e : Nat) (t84 : Int) (H_15 : AHeap) => ∃ (l_left : List Nat), ∃ (b_195 : Nat), ∃ (q4_1 : Int), ∃ (q4_2 : Nat), ∃ (q4_3 : Nat), left_a = some ⟨b_195, 0, none⟩ ∧ left_n = l_left.length ∧ left_e = 1 ∧ Own H_15 b_195 (l_left.map fF) ∧ Own H_15 b_1 [.int .i64 q4_1, .float .f32 q4_2, .float .f32 q4_3] ∧ Own H_15 b_10 ([.int .i64 q1_4, .float .f32 q1_5, .float .f32 q1_6]) ∧ OwnS fF H_15 H_4.length a_165 (((p_spec_l05Of (l_list.length : Int) q1_4 q1_5 q1_6)).length) e_167 ((p_spec_l05Of (l_list.length : Int) q1_4 q1_5 q1_6)) ∧ (b_10 ≠ b_1) ∧ (b_195 ≠ b_1) ∧ (b_195 ≠ b_10) ∧ H_13.length ≤ H_15.length ∧ (b_195 < H_4.length ∨ H_13.length ≤ b_195) ∧ Grow H H_15 ∧ H.length ≤ b_195 ∧ (0 : Int) ≤ t84 ∧ t84 ≤ (l_list.length : Int) ∧ (l_left.length : Int) ≤ t84 - (0 : Int) + 0 ∧ (l_list.length : Int) - t84 ≤ (μ4 : Int) ∧ p_spec_l05Pursue l_list l_scales = p_spec_l05Pursue_l4 l_list l_scales t6 vsome t24 q1_1 q1_2 q1_3 q1_4 q1_5 q1_6 (fun (l_left : List Nat) (t84 : Int) (q4_1 : Int) (q4_2 : Nat) (q4_3 : Nat) => (bif !(p_spec_l02Finite l_left) then ((0 : Int), 0, 0, [], false) else (q1_4, q1_5, q1_6, l_left, true))) (μ4 + 1) l_left t84 q4_1 q4_2 q4_3) (Int.toNat ((l_list.length : Int) - (0 : Int))) _ _ _ _ H_14 ?_ ?_
      · exact ⟨_, _, _, _, _, rfl, o8, rfl, o_185, o_190, o_192, r_194, o3, o3, o3, o3, o3, g_188, o3, o6, o6, o6, o3, e⟩
      · intro μ4 left_a left_n left_e t84  H_15 hI
        obtain ⟨l_left, b_195, q4_1, q4_2, q4_3, rfl, rfl, rfl, o_196, o_197, o_198, r_199, n_200, n_201, n_202, n_203, n_204, g_205, l_206, v_207, v_208, v_209, hμ, e⟩ := hI
        rw [spec_l05Pursue_r4]
        have e := e.trans (p_spec_l05Pursue_l4_s l_list l_scales t6 vsome t24 q1_1 q1_2 q1_3 q1_4 q1_5 q1_6 (fun (l_left : List Nat) (t84 : Int) (q4_1 : Int) (q4_2 : Nat) (q4_3 : Nat) => (bif !(p_spec_l02Finite l_left) then ((0 : Int), 0, 0, [], false) else (q1_4, q1_5, q1_6, l_left, true))) μ4 l_left t84 q4_1 q4_2 q4_3)
        have w_210 := o_197.lt
        have w_211 := o_198.lt
        have w_212 := o_196.lt
        have l_213 := g_205.1
        refine Br.intro (fun c_214 => ?_) (fun c_214 => ?_)
        · have e := e.trans (cond_t c_214)
          have c_214' := of_decide_eq_true c_214
          obtain ⟨b_215, f_216, q_217⟩ := ((i_list.grow g_205)).pos o0
          refine ⟨by omega, by omega, b_215, f_216, q_217, ?_⟩
          refine ⟨((l_list).getD (t84 : Int).toNat 0), (i_list).rd g_205 q_217 o3 _, ?_⟩
          obtain ⟨b_218, f_219, q_220⟩ := (r_199.isL).pos o0
          refine ⟨by omega, by omega, b_218, f_219, q_220, ?_⟩
          refine ⟨(((p_spec_l05Of (l_list.length : Int) q1_4 q1_5 q1_6)).getD (t84 : Int).toNat 0), (r_199.isL).rd (Grow.refl _) q_220 o3 _, ?_⟩
          refine Al.intro (fun b_221 H_16 hb_222 hl_223 g_224 o_225 => ?_)
          have o_225 : Own H_16 b_221 (([(fsub .f32 (((l_list).getD (t84 : Int).toNat 0)) ((((p_spec_l05Of (l_list.length : Int) q1_4 q1_5 q1_6)).getD (t84 : Int).toNat 0)))]).map fF) := o_225
          have l_227 := g_224.1
          have g_228 := g_205.trans g_224
          have l_229 := g_228.1
          have o_230 := o_197.grow g_224
          have w_231 := o_230.lt
          have o_232 := o_198.grow g_224
          have w_233 := o_232.lt
          have o_234 := o_196.grow g_224
          have w_235 := o_234.lt
          have r_236 := r_199.grow g_224
          have w_254 := o_225.lt
          refine ⟨_, _, o_234.ownB o10 rfl, (isl_rdS (o_225.isL o8)), (fun h => by cases h), o28, ?_⟩
          refine Ap.app o_234 rfl rfl (fun b_241 H_17 q_252 hl_237 o_238 k_239 => ?_)
          have o_238 := map_snoc o_238
          have l_242 := k_239.1
          have g_243 := g_228.keep (b := b_195) o3 k_239
          have l_244 := g_243.1
          have o_245 := o_230.keep o3 k_239
          have w_246 := o_245.lt
          have o_247 := o_232.keep o3 k_239
          have w_248 := o_247.lt
          have o_249 := o_225.keep o3 k_239
          have w_250 := o_249.lt
          have r_251 := r_236.keep u_178 o3 k_239
          have w_253 := o_238.lt
          rw [show IntKind.wrap .i64 (t84 + 1) = (t84 + 1) from wrap64 o3 o3]
          refine spec_l05Pursue_n4 (μ4 - 1) o12 ⟨_, _, _, _, _, rfl, o9, rfl, o_238, o_245, o_247, r_251, o3, o3, o3, o3, o3, g_243, o3, o1, o1, o1, o12, (by rw [show μ4 - 1 + 1 = μ4 from by first | omega]; exact e)⟩
        · have e := e.trans (cond_f c_214)
          have c_214' := of_decide_eq_false c_214
          rw [spec_l05Pursue_x4_6]
          refine T_spec_l02Finite_i ⟨_, (o_196.isL o8), o0, ?_⟩
          refine Br.intro (fun c_255 => ?_) (fun c_255 => ?_)
          · have e := e.trans (cond_t c_255)
            have c_255n := nf_of_t c_255
            refine Lt.setN (n := 3) o_197 (Nat.le_of_ble_eq_true rfl) rfl (fun H_18 hl_256 o_258 k_257 => ?_)
            have o_258 : Own H_18 b_1 [.int .i64 0, .float .f32 0, .float .f32 0] := o_258
            have l_259 := k_257.1
            have g_260 := g_205.keep (b := b_1) o3 k_257
            have l_261 := g_260.1
            have o_262 := o_198.keep o3 k_257
            have w_263 := o_262.lt
            have o_264 := o_196.keep o3 k_257
            have w_265 := o_264.lt
            have r_266 := r_199.keep u_178 o3 k_257
            have w_267 := o_258.lt
            refine ⟨0, 0, 0, (o_258.rdN (Nat.le_of_ble_eq_true rfl)).trans rfl, ?_⟩
            rw [e] at hk
            exact hk _ _ _ H_18 g_260 o13
          · have e := e.trans (cond_f c_255)
            have c_255n := nt_of_f c_255
            refine ⟨q1_4, q1_5, q1_6, (o_198.rdN (Nat.le_of_ble_eq_true rfl)).trans rfl, ?_⟩
            refine Lt.setN (n := 3) o_197 (Nat.le_of_ble_eq_true rfl) rfl (fun H_19 hl_268 o_270 k_269 => ?_)
            have o_270 : Own H_19 b_1 [.int .i64 q1_4, .float .f32 q1_5, .float .f32 q1_6] := o_270
            have l_271 := k_269.1
            have g_272 := g_205.keep (b := b_1) o3 k_269
            have l_273 := g_272.1
            have o_274 := o_198.keep o3 k_269
            have w_275 := o_274.lt
            have o_276 := o_196.keep o3 k_269
            have w_277 := o_276.lt
            have r_278 := r_199.keep u_178 o3 k_269
            have w_279 := o_270.lt
            refine ⟨q1_4, q1_5, q1_6, (o_270.rdN (Nat.le_of_ble_eq_true rfl)).trans rfl, ?_⟩
            rw [e] at hk
            exact hk _ _ _ H_19 g_272 (o_276.ownS o8 o3)
theorem spec_l05Pursue_ok : FnOk Try.prog 79 S_spec_l05Pursue := by
  refine FnOk.body mix_ok E_spec_l05Pursue_ok Try.func79 rfl (by kernel_rfl) (by kernel_rfl) ?_ ?_ ?_ ?_ ?_
  · intro args H K K' h hk
    simp only [S_spec_l05Pursue] at *
    unfold F_spec_l05Pursue at *
    split at hk
    · obtain ⟨l_list, l_scales, i_list, i_scales, bd_284, bd_285, pr0, pr1, pr2, pr3, k⟩ := hk
      exact ⟨l_list, l_scales, i_list, i_scales, bd_284, bd_285, pr0, pr1, pr2, pr3, (fun r2_a r2_n r2_e H' gg ow0 => h _ _ (k r2_a r2_n r2_e H' gg ow0))⟩
    · exact hk.elim
  · intro hq; cases hq
  · intro args H K hk
    simp only [S_spec_l05Pursue] at *
    unfold F_spec_l05Pursue at *
    split at hk
    · obtain ⟨l_list, l_scales, i_list, i_scales, bd_284, bd_285, pr0, pr1, pr2, pr3, k⟩ := hk
      exact liveS fun a n e H1 g o => ⟨_, _, k a n e H1 g o⟩
    · exact hk.elim
  · intro _ args H K hk
    simp only [S_spec_l05Pursue] at *
    unfold F_spec_l05Pursue at *
    split at hk
    · obtain ⟨l_list, l_scales, i_list, i_scales, bd_284, bd_285, pr0, pr1, pr2, pr3, k⟩ := hk
      exact ⟨l_list, l_scales, i_list, i_scales, bd_284, bd_285, pr0, pr1, pr2, pr3, (fun r2_a r2_n r2_e H' gg ow0 => ⟨gg, k r2_a r2_n r2_e H' gg ow0⟩)⟩
    · exact hk.elim
  · have mm := @spec_l05Pursue_main
    have ml := fun (args : List Value) (H : AHeap) (K : Value → AHeap → Prop) => bodyL_body (P := Try.prog) (env := E_spec_l05Pursue ) (fn := Try.f79) (args := args) (H := H) (K := K) E_spec_l05Pursue_ok 
    revert mm ml
    generalize bodyK Try.prog E_spec_l05Pursue Try.f79 = Q
    generalize bodyL Try.prog E_spec_l05Pursue Try.f79 = QL
    intro mm ml args H K hk
    simp only [S_spec_l05Pursue] at *
    unfold F_spec_l05Pursue at *
    split at hk
    · exact ml _ H K (mm _ _ _ _ _ _ H K hk)
    · exact hk.elim

def p_spec_Pursue_l1 (l_list : List Nat) (l_scales : List Nat) (count : Int) : Nat → Int → Bool → (List Nat) → (List (Int × Nat × Nat)) → (List (Int × Nat × Nat)) × (List Nat) × Bool
  | 0, _, _, _, _ => ([], [], false)
  | μ + 1, count_2, t8, l_left, l_atoms => (bif decide ((0 : Int) < count_2) then (bif !((p_spec_l05Pursue l_left l_scales).2.2.2.2) then ([], [], false) else (p_spec_Pursue_l1 l_list l_scales count μ (count_2 - 1) t8 ((p_spec_l05Pursue l_left l_scales).2.2.2.1) ((l_atoms ++ [(((p_spec_l05Pursue l_left l_scales).1 : Int), ((p_spec_l05Pursue l_left l_scales).2.1), ((p_spec_l05Pursue l_left l_scales).2.2.1))])))) else (l_atoms, l_left, true))
def p_spec_Pursue_l1_s := fun l_list l_scales count μ count_2 t8 l_left l_atoms => @p_spec_Pursue_l1.eq_2 l_list l_scales count count_2 t8 l_left l_atoms μ
def p_spec_Pursue (l_list : List Nat) (l_scales : List Nat) (count : Int) : (List (Int × Nat × Nat)) × (List Nat) × Bool := (bif !(p_spec_l03Long l_list) then ([], [], false) else (bif !(p_spec_l05Scales l_scales) then ([], [], false) else (bif !((p_spec_l00In count (0 : Int) (16 : Int))) then ([], [], false) else (p_spec_Pursue_l1 l_list l_scales count (Int.toNat (count - 0) + 1) count false ((([] : List Nat) ++ l_list)) (([] : List (Int × Nat × Nat)))))))
def p_spec_Pursue_eq := @p_spec_Pursue.eq_1
def T_spec_Pursue (list_a : Option Addr) (list_n : Nat) (list_e : Nat) (scales_a : Option Addr) (scales_n : Nat) (scales_e : Nat) (count : Int) (H : AHeap) (K : (Option Addr) → Nat → Nat → (Option Addr) → Nat → Nat → Bool → AHeap → Prop) : Prop := ∃ (l_list : List Nat), ∃ (l_scales : List Nat), IsL fF H list_a list_n l_list ∧ IsL fF H scales_a scales_n l_scales ∧ l_list.length < 1073741824 ∧ l_scales.length < 1073741824 ∧ ((∀ (r1_a : Option Addr) (r1_n r1_e : Nat), ∀ (r2_a : Option Addr) (r2_n r2_e : Nat), ∀ H' : AHeap, Grow H H' → OwnT fA H' H.length r1_a r1_n r1_e ((p_spec_Pursue l_list l_scales count).1) → OwnS fF H' H.length r2_a r2_n r2_e ((p_spec_Pursue l_list l_scales count).2.1) → SepA r1_a r2_a → K r1_a r1_n r1_e r2_a r2_n r2_e ((p_spec_Pursue l_list l_scales count).2.2) H'))
theorem T_spec_Pursue_i {list_a : Option Addr} {list_n : Nat} {list_e : Nat} {scales_a : Option Addr} {scales_n : Nat} {scales_e : Nat} {count : Int} {H : AHeap} {K : (Option Addr) → Nat → Nat → (Option Addr) → Nat → Nat → Bool → AHeap → Prop} (h : ∃ (l_list : List Nat), ∃ (l_scales : List Nat), IsL fF H list_a list_n l_list ∧ IsL fF H scales_a scales_n l_scales ∧ l_list.length < 1073741824 ∧ l_scales.length < 1073741824 ∧ ((∀ (r1_a : Option Addr) (r1_n r1_e : Nat), ∀ (r2_a : Option Addr) (r2_n r2_e : Nat), ∀ H' : AHeap, Grow H H' → OwnT fA H' H.length r1_a r1_n r1_e ((p_spec_Pursue l_list l_scales count).1) → OwnS fF H' H.length r2_a r2_n r2_e ((p_spec_Pursue l_list l_scales count).2.1) → SepA r1_a r2_a → K r1_a r1_n r1_e r2_a r2_n r2_e ((p_spec_Pursue l_list l_scales count).2.2) H'))) : T_spec_Pursue list_a list_n list_e scales_a scales_n scales_e count H K := h
def PRs (N : Nat) (r : (List (Int × Nat × Nat)) × (List Nat) × Bool) : Prop := r.1.length ≤ 16 ∧ r.2.1.length ≤ N
theorem spec_Pursue_l1_len (l sc : List Nat) (c : Int) (N : Nat) : ∀ (μ : Nat) (k : Int) (t : Bool) (r : List Nat) (a : List (Int × Nat × Nat)), (a.length : Int) + k ≤ 16 → r.length ≤ N → (a.length : Int) ≤ 16 → PRs N (p_spec_Pursue_l1 l sc c μ k t r a) := by
  intro μ
  induction μ with
  | zero => intro k t r a h1 h2 h3; exact ⟨Nat.zero_le _, Nat.zero_le _⟩
  | succ μ ih =>
    intro k t r a h1 h2 h3
    rw [p_spec_Pursue_l1_s]
    refine cnb (P := PRs N) (fun hk => ?_) (fun _ => ⟨by show a.length ≤ 16; omega, h2⟩)
    have hk := of_decide_eq_true hk
    refine cnb (P := PRs N) (fun _ => ⟨Nat.zero_le _, Nat.zero_le _⟩) (fun _ => ?_)
    exact ih _ _ _ _ o25 (Nat.le_trans (spec_l05Pursue_len _ _) h2) o25
theorem spec_Pursue_len (l sc : List Nat) (c : Int) : (p_spec_Pursue l sc c).1.length ≤ 16 ∧ (p_spec_Pursue l sc c).2.1.length ≤ l.length := by
  have z : PRs l.length ([], [], false) := ⟨Nat.zero_le _, Nat.zero_le _⟩
  rw [p_spec_Pursue_eq]
  refine cnb (P := PRs l.length) (fun _ => z) (fun _ => cnb (P := PRs l.length) (fun _ => z) (fun _ => cnb (P := PRs l.length) (fun _ => z) (fun hc => ?_)))
  have hc : 0 ≤ c ∧ c ≤ 16 := by
    have hc := nt_of_f hc
    unfold p_spec_l00In at hc
    simp at hc; omega
  exact spec_Pursue_l1_len l sc c _ _ _ _ _ _ o38 (by simp) (by rw [List.length_nil]; decide)
/-! spec_Pursue: function 47 -/
def E_spec_Pursue : Env := envOf [(72, S_spec_l03Long), (78, S_spec_l05Scales), (50, S_spec_l00In), (79, S_spec_l05Pursue)]
def F_spec_Pursue : List Value → AHeap → (Value → AHeap → Prop) → Prop
  | [.slice list_a list_n list_e, .slice scales_a scales_n scales_e, .int .i64 count], H, K => T_spec_Pursue list_a list_n list_e scales_a scales_n scales_e count H fun (r1_a : Option Addr) (r1_n : Nat) (r1_e : Nat) (r2_a : Option Addr) (r2_n : Nat) (r2_e : Nat) (r3 : Bool) (H' : AHeap) => K (.tuple #[.slice r1_a r1_n r1_e, .slice r2_a r2_n r2_e, .bool r3]) H'
  | _, _, _ => False
def S_spec_Pursue : FSpec := { F := F_spec_Pursue, quiet := false, tame := true }
theorem spec_Pursue_vc (list_a : Option Addr) (list_n : Nat) (list_e : Nat) (scales_a : Option Addr) (scales_n : Nat) (scales_e : Nat) (count : Int) (H : AHeap) (K : Value → AHeap → Prop) : bodyL Try.prog E_spec_Pursue Try.f47 [.slice list_a list_n list_e, .slice scales_a scales_n scales_e, .int .i64 count] H K =
  (T_spec_l03Long list_a list_n list_e H fun (r1 : Bool) (H1 : AHeap) => Br (!r1) (K (.tuple #[.slice none 0 0, .slice none 0 0, .bool false]) H1) (T_spec_l05Scales scales_a scales_n scales_e H1 fun (r2 : Bool) (H2 : AHeap) => Br (!r2) (K (.tuple #[.slice none 0 0, .slice none 0 0, .bool false]) H2) (T_spec_l00In count 0 16 H2 fun (r3 : Bool) (H3 : AHeap) => Br (!r3) (K (.tuple #[.slice none 0 0, .slice none 0 0, .bool false]) H3) (Al [] H3 fun b1 H4 => ∃ o1 w1 : List Value, ownB H4 (some ⟨b1, 0, none⟩) 0 1 1 = some o1 ∧ rdS H4 list_a (list_n * 1) = some w1 ∧ ((some ⟨b1, 0, none⟩ : Option Addr) = none → 0 < (list_n : Nat)) ∧ (0 : Nat) + list_n < most ∧ Ap H4 (killB H4 (some ⟨b1, 0, none⟩) ++ [some ⟨o1 ++ w1, true⟩]) fun b2 H5 => Al [] H5 fun b3 H6 => loopK (exL Try.prog E_spec_Pursue (cl (cl (cl (cr (cr (cr (cr (bodyC Try.f47)))))))) 1542 448 [(0, 1536)]) [ud, .slice scales_a scales_n scales_e, .int .i64 count, ud, ud, ud, ud, ud, ud, .slice (some ⟨b2, 0, none⟩) (0 + list_n) 1, .slice (some ⟨b3, 0, none⟩) 0 3, ud, ud, ud, ud, ud, ud, ud, ud, ud, ud, ud, ud, ud, ud, ud, ud, ud, ud, ud, ud, ud, ud, ud, ud, ud, ud, ud, ud, ud, ud, ud, ud, ud, ud, ud, ud, ud, ud, ud, ud] H6 (blockQ 0 (seqQ (exL Try.prog E_spec_Pursue (cr (cr (cr (cr (cr (bodyC Try.f47)))))) 448 448 []) (retK Try.prog Try.f47 K))))))) := by kernel_rfl
abbrev spec_Pursue_P1 (scales_a : Option Addr) (scales_e : Nat) (scales_n : Nat) (count_2 : Int) (left_a : Option Addr) (left_n : Nat) (left_e : Nat) (atoms_a : Option Addr) (atoms_n : Nat) (atoms_e : Nat)  : List Value := [ud, .slice scales_a scales_n scales_e, .int .i64 count_2, ud, ud, ud, ud, ud, ud, .slice left_a left_n left_e, .slice atoms_a atoms_n atoms_e, ud, ud, ud, ud, ud, ud, ud, ud, ud, ud, ud, ud, ud, ud, ud, ud, ud, ud, ud, ud, ud, ud, ud, ud, ud, ud, ud, ud, ud, ud, ud, ud, ud, ud, ud, ud, ud, ud, ud, ud]
theorem spec_Pursue_r1 (scales_a : Option Addr) (scales_e : Nat) (scales_n : Nat) (count_2 : Int) (left_a : Option Addr) (left_n : Nat) (left_e : Nat) (atoms_a : Option Addr) (atoms_n : Nat) (atoms_e : Nat)  (H : AHeap) (R : Post) : exL Try.prog E_spec_Pursue (cl (cl (cl (cr (cr (cr (cr (bodyC Try.f47)))))))) 1542 448 [(0, 1536)] (spec_Pursue_P1 scales_a scales_e scales_n count_2 left_a left_n left_e atoms_a atoms_n atoms_e) H R =
  (Br (decide ((0 : Int) < count_2)) (T_spec_l05Pursue left_a left_n left_e scales_a scales_n scales_e H fun (r4 : Int) (r5 : Nat) (r6 : Nat) (a1 : Option Addr) (r7 : Nat) (r8 : Nat) (r9 : Bool) (H7 : AHeap) => Al [.int .i64 0, .float .f32 0, .float .f32 0] H7 fun b4 H8 => isOwn H8 b4 ∧ (∃ l, rdN H8 b4 0 3 = some l) ∧ Lt (setN H8 b4 0 [.int .i64 r4, .float .f32 r5, .float .f32 r6]) fun H9 => Br (!r9) (R .ret [ud, ud, ud, ud, ud, ud, .slice none 0 0, .slice none 0 0, .bool false, ud, ud, ud, ud, ud, ud, ud, ud, ud, ud, ud, ud, ud, ud, ud, ud, ud, ud, ud, ud, ud, ud, ud, ud, ud, ud, ud, ud, ud, ud, ud, ud, ud, ud, ud, ud, ud, ud, ud, ud, ud, ud] H9) (∃ c1 : Int, ∃ c2 : Nat, ∃ c3 : Nat,  rdN H9 b4 0 3 = some [.int .i64 c1, .float .f32 c2, .float .f32 c3] ∧ Al [.int .i64 c1, .float .f32 c2, .float .f32 c3] H9 fun b5 H10 => ∃ o2 w2 : List Value, ownB H10 atoms_a atoms_n atoms_e 3 = some o2 ∧ rdS H10 (some ⟨b5, 0, none⟩) (1 * 3) = some w2 ∧ ((atoms_a : Option Addr) = none → 0 < (1 : Nat)) ∧ (atoms_n : Nat) + 1 < most ∧ Ap H10 (killB H10 atoms_a ++ [some ⟨o2 ++ w2, true⟩]) fun b6 H11 => R .normal [ud, .slice scales_a scales_n scales_e, .int .i64 (IntKind.wrap .i64 (count_2 - 1)), ud, ud, ud, ud, ud, ud, .slice a1 r7 r8, .slice (some ⟨b6, 0, none⟩) (atoms_n + 1) 3, ud, ud, ud, ud, ud, ud, ud, ud, ud, ud, ud, ud, ud, ud, ud, ud, ud, ud, ud, ud, ud, ud, ud, ud, ud, ud, ud, ud, ud, ud, ud, ud, ud, ud, ud, ud, ud, ud, ud, ud] H11)) (R (.exit 0) [ud, ud, ud, ud, ud, ud, ud, ud, ud, .slice left_a left_n left_e, .slice atoms_a atoms_n atoms_e, ud, ud, ud, ud, ud, ud, ud, ud, ud, ud, ud, ud, ud, ud, ud, ud, ud, ud, ud, ud, ud, ud, ud, ud, ud, ud, ud, ud, ud, ud, ud, ud, ud, ud, ud, ud, ud, ud, ud, ud] H)) := by kernel_rfl
def spec_Pursue_I1 (scales_a : Option Addr) (scales_e : Nat) (scales_n : Nat) (Inv : Nat → Int → (Option Addr) → Nat → Nat → (Option Addr) → Nat → Nat → AHeap → Prop) : Nat → List Value → AHeap → Prop := fun μ tm H => ∃ (count_2 : Int), ∃ (left_a : Option Addr), ∃ (left_n : Nat), ∃ (left_e : Nat), ∃ (atoms_a : Option Addr), ∃ (atoms_n : Nat), ∃ (atoms_e : Nat), tm = (spec_Pursue_P1 scales_a scales_e scales_n count_2 left_a left_n left_e atoms_a atoms_n atoms_e) ∧ Inv μ count_2 left_a left_n left_e atoms_a atoms_n atoms_e H
theorem spec_Pursue_L1 (scales_a : Option Addr) (scales_e : Nat) (scales_n : Nat) {Q : Post} (Inv : Nat → Int → (Option Addr) → Nat → Nat → (Option Addr) → Nat → Nat → AHeap → Prop) (ν : Nat) (count_2 : Int) (left_a : Option Addr) (left_n : Nat) (left_e : Nat) (atoms_a : Option Addr) (atoms_n : Nat) (atoms_e : Nat)  (H : AHeap) (h0 : Inv ν count_2 left_a left_n left_e atoms_a atoms_n atoms_e H)
    (hs : ∀ (μ : Nat) (count_2 : Int) (left_a : Option Addr) (left_n : Nat) (left_e : Nat) (atoms_a : Option Addr) (atoms_n : Nat) (atoms_e : Nat)  (H : AHeap), Inv μ count_2 left_a left_n left_e atoms_a atoms_n atoms_e H → exL Try.prog E_spec_Pursue (cl (cl (cl (cr (cr (cr (cr (bodyC Try.f47)))))))) 1542 448 [(0, 1536)] (spec_Pursue_P1 scales_a scales_e scales_n count_2 left_a left_n left_e atoms_a atoms_n atoms_e) H (loopQ (spec_Pursue_I1 scales_a scales_e scales_n Inv) μ Q)) : loopK (exL Try.prog E_spec_Pursue (cl (cl (cl (cr (cr (cr (cr (bodyC Try.f47)))))))) 1542 448 [(0, 1536)]) (spec_Pursue_P1 scales_a scales_e scales_n count_2 left_a left_n left_e atoms_a atoms_n atoms_e) H Q :=
  ⟨spec_Pursue_I1 scales_a scales_e scales_n Inv, ν, ⟨count_2, left_a, left_n, left_e, atoms_a, atoms_n, atoms_e, rfl, h0⟩, fun μ tm H h => by obtain ⟨count_2, left_a, left_n, left_e, atoms_a, atoms_n, atoms_e, rfl, hI⟩ := h; exact hs μ count_2 left_a left_n left_e atoms_a atoms_n atoms_e  H hI⟩
theorem spec_Pursue_n1 {scales_a : Option Addr} {scales_e : Nat} {scales_n : Nat} {Q : Post} {Inv : Nat → Int → (Option Addr) → Nat → Nat → (Option Addr) → Nat → Nat → AHeap → Prop} {μ : Nat} (μ' : Nat) {count_2 : Int} {left_a : Option Addr} {left_n : Nat} {left_e : Nat} {atoms_a : Option Addr} {atoms_n : Nat} {atoms_e : Nat}  {H : AHeap} (hm : μ' < μ) (hI : Inv μ' count_2 left_a left_n left_e atoms_a atoms_n atoms_e H) : loopQ (spec_Pursue_I1 scales_a scales_e scales_n Inv) μ Q .normal (spec_Pursue_P1 scales_a scales_e scales_n count_2 left_a left_n left_e atoms_a atoms_n atoms_e) H := ⟨μ', hm, count_2, left_a, left_n, left_e, atoms_a, atoms_n, atoms_e, rfl, hI⟩
theorem spec_Pursue_x1_0 (left_a : Option Addr) (left_n : Nat) (left_e : Nat) (atoms_a : Option Addr) (atoms_n : Nat) (atoms_e : Nat) (H : AHeap) (K : Value → AHeap → Prop)  {I : Nat → List Value → AHeap → Prop} {μ : Nat} : loopQ I μ (blockQ 0 (seqQ (exL Try.prog E_spec_Pursue (cr (cr (cr (cr (cr (bodyC Try.f47)))))) 448 448 []) (retK Try.prog Try.f47 K))) (.exit 0) [ud, ud, ud, ud, ud, ud, ud, ud, ud, .slice left_a left_n left_e, .slice atoms_a atoms_n atoms_e, ud, ud, ud, ud, ud, ud, ud, ud, ud, ud, ud, ud, ud, ud, ud, ud, ud, ud, ud, ud, ud, ud, ud, ud, ud, ud, ud, ud, ud, ud, ud, ud, ud, ud, ud, ud, ud, ud, ud, ud] H =
  (K (.tuple #[.slice atoms_a atoms_n atoms_e, .slice left_a left_n left_e, .bool true]) H) := by kernel_rfl
theorem spec_Pursue_x1_ret (t6_a : Option Addr) (t6_n : Nat) (t6_e : Nat) (t7_a : Option Addr) (t7_n : Nat) (t7_e : Nat) (t8 : Bool) (H : AHeap) (K : Value → AHeap → Prop)  {I : Nat → List Value → AHeap → Prop} {μ : Nat} : loopQ I μ (blockQ 0 (seqQ (exL Try.prog E_spec_Pursue (cr (cr (cr (cr (cr (bodyC Try.f47)))))) 448 448 []) (retK Try.prog Try.f47 K))) .ret [ud, ud, ud, ud, ud, ud, .slice t6_a t6_n t6_e, .slice t7_a t7_n t7_e, .bool t8, ud, ud, ud, ud, ud, ud, ud, ud, ud, ud, ud, ud, ud, ud, ud, ud, ud, ud, ud, ud, ud, ud, ud, ud, ud, ud, ud, ud, ud, ud, ud, ud, ud, ud, ud, ud, ud, ud, ud, ud, ud, ud] H =
  (K (.tuple #[.slice t6_a t6_n t6_e, .slice t7_a t7_n t7_e, .bool t8]) H) := by kernel_rfl
theorem E_spec_Pursue_ok : ∀ g, FnOk Try.prog g (E_spec_Pursue g) := FnOk.envOf (by
  intro x hx
  simp only [List.mem_cons, List.not_mem_nil, or_false] at hx
  rcases hx with rfl | rfl | rfl | rfl
  · exact spec_l03Long_ok
  · exact spec_l05Scales_ok
  · exact spec_l00In_ok
  · exact spec_l05Pursue_ok)
theorem o16 {P : Prop} (h : P := by first | assumption | omega | (simp; omega) | (first | exact (scales_all (by assumption)).1 | exact (scales_all (by assumption)).2.1 | (have := scales_all (by assumption); omega)) | (first | exact (scales_all (by assumption)).1 | (have := scales_all (by assumption); omega))) : P := h
theorem o31 {P : Prop} (h : P := by first | exact flat_lenA _ | (rw [flat_lenA]; omega) | (rw [flat_lenA]; simp only [List.length_cons, List.length_nil, List.length_append]; omega)) : P := h
set_option maxHeartbeats 1000000 in
theorem spec_Pursue_main (list_a : Option Addr) (list_n : Nat) (list_e : Nat) (scales_a : Option Addr) (scales_n : Nat) (scales_e : Nat) (count : Int) (H : AHeap) (K : Value → AHeap → Prop) (h : T_spec_Pursue list_a list_n list_e scales_a scales_n scales_e count H fun (r1_a : Option Addr) (r1_n : Nat) (r1_e : Nat) (r2_a : Option Addr) (r2_n : Nat) (r2_e : Nat) (r3 : Bool) (H' : AHeap) => K (.tuple #[.slice r1_a r1_n r1_e, .slice r2_a r2_n r2_e, .bool r3]) H') : bodyL Try.prog E_spec_Pursue Try.f47 [.slice list_a list_n list_e, .slice scales_a scales_n scales_e, .int .i64 count] H K := by
  rw [spec_Pursue_vc]
  obtain ⟨l_list, l_scales, i_list, i_scales, bd_125, bd_126, hk⟩ := h
  obtain rfl := i_list.eqn
  obtain rfl := i_scales.eqn
  have e : (p_spec_Pursue l_list l_scales count) = _ := rfl
  have e := e.trans (p_spec_Pursue_eq l_list l_scales count)
  have g0 := Grow.refl H
  refine T_spec_l03Long_i ⟨_, (i_list.grow g0), o0, ?_⟩
  refine Br.intro (fun c_1 => ?_) (fun c_1 => ?_)
  · have e := e.trans (cond_t c_1)
    have c_1n := nf_of_t c_1
    rw [e] at hk
    exact hk _ _ _ _ _ _ H g0 o13 o13 (fun x y hx hy => by cases hx)
  · have e := e.trans (cond_f c_1)
    have c_1n := nt_of_f c_1
    have c_1n' := spec_l03Long_t c_1n
    refine T_spec_l05Scales_i ⟨_, (i_scales.grow g0), o0, ?_⟩
    refine Br.intro (fun c_2 => ?_) (fun c_2 => ?_)
    · have e := e.trans (cond_t c_2)
      have c_2n := nf_of_t c_2
      rw [e] at hk
      exact hk _ _ _ _ _ _ H g0 o13 o13 (fun x y hx hy => by cases hx)
    · have e := e.trans (cond_f c_2)
      have c_2n := nt_of_f c_2
      refine T_spec_l00In_i ?_
      refine Br.intro (fun c_3 => ?_) (fun c_3 => ?_)
      · have e := e.trans (cond_t c_3)
        have c_3n := nf_of_t c_3
        rw [e] at hk
        exact hk _ _ _ _ _ _ H g0 o13 o13 (fun x y hx hy => by cases hx)
      · have e := e.trans (cond_f c_3)
        have c_3n := nt_of_f c_3
        have c_3n' := spec_l00In_t c_3n
        refine Al.intro (fun b_4 H_1 hb_5 hl_6 g_7 o_8 => ?_)
        have o_8 : Own H_1 b_4 ((([] : List Nat)).map fF) := o_8
        have l_10 := g_7.1
        have g_11 := g0.trans g_7
        have l_12 := g_11.1
        have w_124 := o_8.lt
        refine ⟨_, _, o_8.ownB o10 rfl, (isl_rdS (i_list.grow g_11)), (fun h => by cases h), o28, ?_⟩
        refine Ap.app o_8 rfl rfl (fun b_17 H_2 q_122 hl_13 o_14 k_15 => ?_)
        have o_14 := map_snoc o_14
        have l_18 := k_15.1
        have g_19 := g_11.keep (b := b_4) o3 k_15
        have l_20 := g_19.1
        have w_123 := o_14.lt
        refine Al.intro (fun b_21 H_3 hb_22 hl_23 g_24 o_25 => ?_)
        have o_25 : Own H_3 b_21 ((([] : List (Int × Nat × Nat))).flatMap fA) := o_25
        have l_27 := g_24.1
        have g_28 := g_19.trans g_24
        have l_29 := g_28.1
        have o_30 := o_14.grow g_24
        have w_31 := o_30.lt
        have w_121 := o_25.lt
        refine spec_Pursue_L1 _ _ _ (fun (μ : Nat) (count_2 : Int) (left_a : Option Addr) (left_n : Nat) (left_e : Nat) (atoms_a : Option Addr) (atoms_n : Nat) (atoms_e : Nat) (H_4 : AHeap) => ∃ (t8 : Bool), ∃ (l_left : List Nat), ∃ (l_atoms : List (Int × Nat × Nat)), ∃ (b_36 : Nat), left_n = l_left.length ∧ OwnS fF H_4 b_17 left_a l_left.length left_e l_left ∧ atoms_a = some ⟨b_36, 0, none⟩ ∧ atoms_n = l_atoms.length ∧ atoms_e = 3 ∧ Own H_4 b_36 (l_atoms.flatMap fA) ∧ b_17 ≤ H_4.length ∧ (∀ y, left_a = some y → y.block ≠ b_36) ∧ Grow H H_4 ∧ H.length ≤ b_36 ∧ (count_2 ≤ count ∨ 0 ≤ count_2) ∧ l_left.length = l_list.length ∧ (l_atoms.length : Int) + count_2 ≤ count ∧ count_2 - 0 ≤ (μ : Int) ∧ p_spec_Pursue l_list l_scales count = p_spec_Pursue_l1 l_list l_scales count (μ + 1) count_2 t8 l_left l_atoms) (Int.toNat (count - 0)) _ _ _ _ _ _ _ H_3 ?_ ?_
        · exact ⟨_, _, _, _, o9, (o_30.ownS o9 (Nat.le_refl _)), rfl, o8, rfl, o_25, o3, (fun y hy => by cases hy; intro hh; dsimp only at hh; omega), g_28, o3, (by first | omega | (simp; done) | (simp; omega) | (have hz := spec_l05Pursue_full (by assumption); omega)), (by first | omega | (simp; done) | (simp; omega) | (have hz := spec_l05Pursue_full (by assumption); omega)), (by first | omega | (simp; done) | (simp; omega) | (have hz := spec_l05Pursue_full (by assumption); omega)), o3, e⟩
        · intro μ count_2 left_a left_n left_e atoms_a atoms_n atoms_e  H_4 hI
          obtain ⟨t8, l_left, l_atoms, b_36, rfl, r_33, rfl, rfl, rfl, o_37, n_38, n_39, g_40, l_41, v_42, v_43, v_44, hμ, e⟩ := hI
          rw [spec_Pursue_r1]
          have e := e.trans (p_spec_Pursue_l1_s l_list l_scales count μ count_2 t8 l_left l_atoms)
          have u_34 := r_33.up
          have u_35 := r_33.lo
          have w_45 := o_37.lt
          have l_46 := g_40.1
          refine Br.intro (fun c_47 => ?_) (fun c_47 => ?_)
          · have e := e.trans (cond_t c_47)
            have c_47' := of_decide_eq_true c_47
            refine T_spec_l05Pursue_i ⟨_, _, r_33.isL, (i_scales.grow g_40), o0, o0, o16, o16, o16, o16, fun a_48 n_49 e_50 H_5 g_53 r_51 => ?_⟩
            have z_52 := spec_l05Pursue_len l_left l_scales
            have l_54 := g_53.1
            have g_55 := g_40.trans g_53
            have l_56 := g_55.1
            have o_57 := o_37.grow g_53
            have w_58 := o_57.lt
            have r_59 := r_33.grow g_53
            obtain rfl := r_51.isL.eqn
            have u_60 := r_51.up
            have u_61 := r_51.lo
            refine Al.intro (fun b_63 H_6 hb_64 hl_65 g_66 o_67 => ?_)
            have l_69 := g_66.1
            have g_70 := g_55.trans g_66
            have l_71 := g_70.1
            have o_72 := o_57.grow g_66
            have w_73 := o_72.lt
            have r_74 := r_59.grow g_66
            have r_75 := r_51.grow g_66
            have w_120 := o_67.lt
            refine Lt.setN (n := 3) o_67 (Nat.le_of_ble_eq_true rfl) rfl (fun H_7 hl_76 o_78 k_77 => ?_)
            have o_78 : Own H_7 b_63 [.int .i64 ((p_spec_l05Pursue l_left l_scales).1), .float .f32 ((p_spec_l05Pursue l_left l_scales).2.1), .float .f32 ((p_spec_l05Pursue l_left l_scales).2.2.1)] := o_78
            have l_79 := k_77.1
            have g_80 := g_70.keep (b := b_63) o3 k_77
            have l_81 := g_80.1
            have o_82 := o_72.keep o3 k_77
            have w_83 := o_82.lt
            have r_84 := r_74.keep u_34 o3 k_77
            have r_85 := r_75.keep u_60 o3 k_77
            have w_119 := o_78.lt
            refine Br.intro (fun c_86 => ?_) (fun c_86 => ?_)
            · have e := e.trans (cond_t c_86)
              have c_86n := nf_of_t c_86
              rw [spec_Pursue_x1_ret]
              rw [e] at hk
              exact hk _ _ _ _ _ _ H_7 g_80 o13 o13 (fun x y hx hy => by cases hx)
            · have e := e.trans (cond_f c_86)
              have c_86n := nt_of_f c_86
              refine ⟨(p_spec_l05Pursue l_left l_scales).1, (p_spec_l05Pursue l_left l_scales).2.1, (p_spec_l05Pursue l_left l_scales).2.2.1, (o_78.rdN (Nat.le_of_ble_eq_true rfl)).trans rfl, ?_⟩
              refine Al.intro (fun b_87 H_8 hb_88 hl_89 g_90 o_91 => ?_)
              have o_91 : Own H_8 b_87 (([(((p_spec_l05Pursue l_left l_scales).1 : Int), ((p_spec_l05Pursue l_left l_scales).2.1), ((p_spec_l05Pursue l_left l_scales).2.2.1))]).flatMap fA) := o_91
              have l_93 := g_90.1
              have g_94 := g_80.trans g_90
              have l_95 := g_94.1
              have o_96 := o_82.grow g_90
              have w_97 := o_96.lt
              have o_98 := o_78.grow g_90
              have w_99 := o_98.lt
              have r_100 := r_84.grow g_90
              have r_101 := r_85.grow g_90
              have w_118 := o_91.lt
              refine ⟨_, _, o_96.ownB o31 rfl, isT_rdS (o_91.isT o8), (fun h => by cases h), o28, ?_⟩
              refine Ap.app o_96 rfl rfl (fun b_106 H_9 q_116 hl_102 o_103 k_104 => ?_)
              have o_103 := flat_snoc o_103
              have l_107 := k_104.1
              have g_108 := g_94.keep (b := b_36) o3 k_104
              have l_109 := g_108.1
              have o_110 := o_98.keep o3 k_104
              have w_111 := o_110.lt
              have o_112 := o_91.keep o3 k_104
              have w_113 := o_112.lt
              have r_114 := r_100.keepA (fun x y hx hy => by cases hx; intro hh; exact n_39 y hy hh.symm) (OwnS.keep1 k_104)
              have r_115 := r_101.keep u_60 o3 k_104
              have w_117 := o_103.lt
              rw [show IntKind.wrap .i64 (count_2 - 1) = (count_2 - 1) from wrap64 o3 o3]
              refine spec_Pursue_n1 (μ - 1) o12 ⟨_, _, _, _, rfl, (r_115.weak o3), rfl, o9, rfl, o_103, o3, (by first | assumption | (intro y hy; have := u_60 y hy; have := u_61 y hy; omega)), g_108, o3, (by first | omega | (have hz := spec_l05Pursue_full (by assumption); omega) | (simp only [List.length_append, List.length_cons, List.length_nil, List.length_set]; done) | (simp only [List.length_append, List.length_cons, List.length_nil, List.length_set]; omega)), (by first | omega | (have hz := spec_l05Pursue_full (by assumption); omega) | (simp only [List.length_append, List.length_cons, List.length_nil, List.length_set]; done) | (simp only [List.length_append, List.length_cons, List.length_nil, List.length_set]; omega)), (by first | omega | (have hz := spec_l05Pursue_full (by assumption); omega) | (simp only [List.length_append, List.length_cons, List.length_nil, List.length_set]; done) | (simp only [List.length_append, List.length_cons, List.length_nil, List.length_set]; omega)), o12, (by rw [show μ - 1 + 1 = μ from by first | omega]; exact e)⟩
          · have e := e.trans (cond_f c_47)
            have c_47' := of_decide_eq_false c_47
            rw [spec_Pursue_x1_0]
            rw [e] at hk
            exact hk _ _ _ _ _ _ H_4 g_40 (o_37.ownT o8 o3) (r_33.weak o3) (fun x y hx hy => by cases hx; intro hh; exact n_39 y hy hh.symm)
theorem spec_Pursue_ok : FnOk Try.prog 47 S_spec_Pursue := by
  refine FnOk.body mix_ok E_spec_Pursue_ok Try.func47 rfl (by kernel_rfl) (by kernel_rfl) ?_ ?_ ?_ ?_ ?_
  · intro args H K K' h hk
    simp only [S_spec_Pursue] at *
    unfold F_spec_Pursue at *
    split at hk
    · obtain ⟨l_list, l_scales, i_list, i_scales, bd_125, bd_126, k⟩ := hk
      exact ⟨l_list, l_scales, i_list, i_scales, bd_125, bd_126, (fun r1_a r1_n r1_e r2_a r2_n r2_e H' gg ow0 ow1 sp0_1 => h _ _ (k r1_a r1_n r1_e r2_a r2_n r2_e H' gg ow0 ow1 sp0_1))⟩
    · exact hk.elim
  · intro hq; cases hq
  · intro args H K hk
    simp only [S_spec_Pursue] at *
    unfold F_spec_Pursue at *
    split at hk
    · obtain ⟨l_list, l_scales, i_list, i_scales, bd_125, bd_126, k⟩ := hk
      exact liveTS fun a n e a2 n2 e2 H1 g o o2 sp => ⟨_, _, k a n e a2 n2 e2 H1 g o o2 sp⟩
    · exact hk.elim
  · intro _ args H K hk
    simp only [S_spec_Pursue] at *
    unfold F_spec_Pursue at *
    split at hk
    · obtain ⟨l_list, l_scales, i_list, i_scales, bd_125, bd_126, k⟩ := hk
      exact ⟨l_list, l_scales, i_list, i_scales, bd_125, bd_126, (fun r1_a r1_n r1_e r2_a r2_n r2_e H' gg ow0 ow1 sp0_1 => ⟨gg, k r1_a r1_n r1_e r2_a r2_n r2_e H' gg ow0 ow1 sp0_1⟩)⟩
    · exact hk.elim
  · have mm := @spec_Pursue_main
    have ml := fun (args : List Value) (H : AHeap) (K : Value → AHeap → Prop) => bodyL_body (P := Try.prog) (env := E_spec_Pursue ) (fn := Try.f47) (args := args) (H := H) (K := K) E_spec_Pursue_ok 
    revert mm ml
    generalize bodyK Try.prog E_spec_Pursue Try.f47 = Q
    generalize bodyL Try.prog E_spec_Pursue Try.f47 = QL
    intro mm ml args H K hk
    simp only [S_spec_Pursue] at *
    unfold F_spec_Pursue at *
    split at hk
    · exact ml _ H K (mm _ _ _ _ _ _ _ H K hk)
    · exact hk.elim
def p_impl_within (n : Int) (low : Int) (high : Int) : Bool := (bif decide ((low : Int) ≤ n) then decide ((n : Int) ≤ high) else false)
def p_impl_within_eq := @p_impl_within.eq_1
def T_impl_within (n : Int) (low : Int) (high : Int) (H : AHeap) (K : Bool → AHeap → Prop) : Prop := K (p_impl_within n low high) H
theorem impl_within_t {n a b : Int} (h : p_impl_within n a b = true) : a ≤ n ∧ n ≤ b := by
  unfold p_impl_within at h
  by_cases h1 : a ≤ n
  · rw [decide_eq_true h1, cond_true] at h; exact ⟨h1, of_decide_eq_true h⟩
  · rw [decide_eq_false h1] at h; cases h
theorem T_impl_within_i {n : Int} {low : Int} {high : Int} {H : AHeap} {K : Bool → AHeap → Prop} (h : K (p_impl_within n low high) H) : T_impl_within n low high H K := h
/-! impl_within: function 54 -/
def E_impl_within : Env := envOf []
def F_impl_within : List Value → AHeap → (Value → AHeap → Prop) → Prop
  | [.int .i64 n, .int .i64 low, .int .i64 high], H, K => T_impl_within n low high H fun (r1 : Bool) (H' : AHeap) => K (.bool r1) H'
  | _, _, _ => False
def S_impl_within : FSpec := { F := F_impl_within, quiet := true, tame := false }
theorem impl_within_vc (n : Int) (low : Int) (high : Int) (H : AHeap) (K : Value → AHeap → Prop) : bodyL Try.prog E_impl_within Try.f54 [.int .i64 n, .int .i64 low, .int .i64 high] H K =
  (Br (decide ((low : Int) ≤ n)) (K (.bool (decide ((n : Int) ≤ high))) H) (K (.bool false) H)) := by kernel_rfl
theorem E_impl_within_ok : ∀ g, FnOk Try.prog g (E_impl_within g) := FnOk.envOf (by
  intro x hx; cases hx)
set_option maxHeartbeats 1000000 in
theorem impl_within_main (n : Int) (low : Int) (high : Int) (H : AHeap) (K : Value → AHeap → Prop) (h : T_impl_within n low high H fun (r1 : Bool) (H' : AHeap) => K (.bool r1) H') : bodyL Try.prog E_impl_within Try.f54 [.int .i64 n, .int .i64 low, .int .i64 high] H K := by
  rw [impl_within_vc]
  unfold T_impl_within p_impl_within at h
  repeat' (first | exact h | (exfalso; simp_all; done) | (refine ⟨by decide, ?_⟩) | (refine Br.intro (fun hb => ?_) (fun hb => ?_) <;> (try simp only [hb, cond_true, cond_false, Bool.not_true, Bool.not_false] at h)))
theorem impl_within_ok : FnOk Try.prog 54 S_impl_within := by
  refine FnOk.body mix_ok E_impl_within_ok Try.func54 rfl (by kernel_rfl) (by kernel_rfl) ?_ ?_ ?_ ?_ ?_
  · intro args H K K' h hk
    simp only [S_impl_within] at *
    unfold F_impl_within at *
    split at hk
    · have k := hk
      exact h _ _ k
    · exact hk.elim
  · intro _ args H K hk
    simp only [S_impl_within] at *
    unfold F_impl_within at *
    split at hk
    · have k := hk
      exact ⟨_, k, fun K' k' => k'⟩
    · exact hk.elim
  · intro args H K hk
    simp only [S_impl_within] at *
    unfold F_impl_within at *
    split at hk
    · have k := hk
      exact ⟨_, _, k⟩
    · exact hk.elim
  · intro hq; cases hq
  · have mm := @impl_within_main
    have ml := fun (args : List Value) (H : AHeap) (K : Value → AHeap → Prop) => bodyL_body (P := Try.prog) (env := E_impl_within ) (fn := Try.f54) (args := args) (H := H) (K := K) E_impl_within_ok 
    revert mm ml
    generalize bodyK Try.prog E_impl_within Try.f54 = Q
    generalize bodyL Try.prog E_impl_within Try.f54 = QL
    intro mm ml args H K hk
    simp only [S_impl_within] at *
    unfold F_impl_within at *
    split at hk
    · exact ml _ H K (mm _ _ _ H K hk)
    · exact hk.elim
def p_impl_IsFinite (x : Nat) : Bool := feq .f32 (fsub .f32 x x) 0
def p_impl_IsFinite_eq := @p_impl_IsFinite.eq_1
def T_impl_IsFinite (x : Nat) (H : AHeap) (K : Bool → AHeap → Prop) : Prop := K (p_impl_IsFinite x) H

theorem T_impl_IsFinite_i {x : Nat} {H : AHeap} {K : Bool → AHeap → Prop} (h : K (p_impl_IsFinite x) H) : T_impl_IsFinite x H K := h
/-! impl_IsFinite: function 56 -/
def E_impl_IsFinite : Env := envOf []
def F_impl_IsFinite : List Value → AHeap → (Value → AHeap → Prop) → Prop
  | [.float .f32 x], H, K => T_impl_IsFinite x H fun (r1 : Bool) (H' : AHeap) => K (.bool r1) H'
  | _, _, _ => False
def S_impl_IsFinite : FSpec := { F := F_impl_IsFinite, quiet := true, tame := false }
theorem impl_IsFinite_vc (x : Nat) (H : AHeap) (K : Value → AHeap → Prop) : bodyL Try.prog E_impl_IsFinite Try.f56 [.float .f32 x] H K =
  (K (.bool (feq .f32 (fsub .f32 x x) 0)) H) := by kernel_rfl
theorem E_impl_IsFinite_ok : ∀ g, FnOk Try.prog g (E_impl_IsFinite g) := FnOk.envOf (by
  intro x hx; cases hx)
set_option maxHeartbeats 1000000 in
theorem impl_IsFinite_main (x : Nat) (H : AHeap) (K : Value → AHeap → Prop) (h : T_impl_IsFinite x H fun (r1 : Bool) (H' : AHeap) => K (.bool r1) H') : bodyL Try.prog E_impl_IsFinite Try.f56 [.float .f32 x] H K := by
  rw [impl_IsFinite_vc]
  unfold T_impl_IsFinite p_impl_IsFinite at h
  repeat' (first | exact h | (exfalso; simp_all; done) | (refine ⟨by decide, ?_⟩) | (refine Br.intro (fun hb => ?_) (fun hb => ?_) <;> (try simp only [hb, cond_true, cond_false, Bool.not_true, Bool.not_false] at h)))
theorem impl_IsFinite_ok : FnOk Try.prog 56 S_impl_IsFinite := by
  refine FnOk.body mix_ok E_impl_IsFinite_ok Try.func56 rfl (by kernel_rfl) (by kernel_rfl) ?_ ?_ ?_ ?_ ?_
  · intro args H K K' h hk
    simp only [S_impl_IsFinite] at *
    unfold F_impl_IsFinite at *
    split at hk
    · have k := hk
      exact h _ _ k
    · exact hk.elim
  · intro _ args H K hk
    simp only [S_impl_IsFinite] at *
    unfold F_impl_IsFinite at *
    split at hk
    · have k := hk
      exact ⟨_, k, fun K' k' => k'⟩
    · exact hk.elim
  · intro args H K hk
    simp only [S_impl_IsFinite] at *
    unfold F_impl_IsFinite at *
    split at hk
    · have k := hk
      exact ⟨_, _, k⟩
    · exact hk.elim
  · intro hq; cases hq
  · have mm := @impl_IsFinite_main
    have ml := fun (args : List Value) (H : AHeap) (K : Value → AHeap → Prop) => bodyL_body (P := Try.prog) (env := E_impl_IsFinite ) (fn := Try.f56) (args := args) (H := H) (K := K) E_impl_IsFinite_ok 
    revert mm ml
    generalize bodyK Try.prog E_impl_IsFinite Try.f56 = Q
    generalize bodyL Try.prog E_impl_IsFinite Try.f56 = QL
    intro mm ml args H K hk
    simp only [S_impl_IsFinite] at *
    unfold F_impl_IsFinite at *
    split at hk
    · exact ml _ H K (mm _ H K hk)
    · exact hk.elim

def p_impl_areFinite_l2 (l_lists : List (List Nat)) (t2 : Bool) (t9 : Int) (k2_2 : Bool → Int → Bool) : Nat → Bool → Int → Bool
  | 0, _, _ => false
  | μ2 + 1, t2_2, t15 => (bif decide ((t15 : Int) < ((((l_lists).getD (t9 : Int).toNat [])).length : Int)) then (bif !((p_impl_IsFinite (((((l_lists).getD (t9 : Int).toNat [])).getD (t15 : Int).toNat 0)))) then false else (p_impl_areFinite_l2 l_lists t2 t9 k2_2 μ2 t2_2 (t15 + 1))) else (k2_2 t2_2 t15))
def p_impl_areFinite_l2_s := fun l_lists t2 t9 k2_2 μ2 t2_2 t15 => @p_impl_areFinite_l2.eq_2 l_lists t2 t9 k2_2 t2_2 t15 μ2
def p_impl_areFinite_l1 (l_lists : List (List Nat)) : Nat → Bool → Int → Bool
  | 0, _, _ => false
  | μ + 1, t2, t9 => (bif decide ((t9 : Int) < (l_lists.length : Int)) then (p_impl_areFinite_l2 l_lists t2 t9 (fun (t2_2 : Bool) (t15 : Int) => (p_impl_areFinite_l1 l_lists μ t2_2 (t9 + 1))) (Int.toNat (((((l_lists).getD (t9 : Int).toNat [])).length : Int) - (0 : Int)) + 1) t2 (0 : Int)) else true)
def p_impl_areFinite_l1_s := fun l_lists μ t2 t9 => @p_impl_areFinite_l1.eq_2 l_lists t2 t9 μ
def p_impl_areFinite (l_lists : List (List Nat)) : Bool := (p_impl_areFinite_l1 l_lists (Int.toNat ((l_lists.length : Int) - (0 : Int)) + 1) false (0 : Int))
def p_impl_areFinite_eq := @p_impl_areFinite.eq_1
def T_impl_areFinite (lists_a : Option Addr) (lists_n : Nat) (lists_e : Nat) (H : AHeap) (K : Bool → AHeap → Prop) : Prop := ∃ (l_lists : List (List Nat)), IsLL fF H lists_a lists_n l_lists ∧ l_lists.length < 1073741824 ∧ (∀ y ∈ l_lists, y.length < 1073741824) ∧ K (p_impl_areFinite l_lists) H
theorem T_impl_areFinite_i {lists_a : Option Addr} {lists_n : Nat} {lists_e : Nat} {H : AHeap} {K : Bool → AHeap → Prop} (h : ∃ (l_lists : List (List Nat)), IsLL fF H lists_a lists_n l_lists ∧ l_lists.length < 1073741824 ∧ (∀ y ∈ l_lists, y.length < 1073741824) ∧ K (p_impl_areFinite l_lists) H) : T_impl_areFinite lists_a lists_n lists_e H K := h

/-! impl_areFinite: function 81 -/
def E_impl_areFinite : Env := envOf [(56, S_impl_IsFinite)]
def F_impl_areFinite : List Value → AHeap → (Value → AHeap → Prop) → Prop
  | [.slice lists_a lists_n lists_e], H, K => T_impl_areFinite lists_a lists_n lists_e H fun (r1 : Bool) (H' : AHeap) => K (.bool r1) H'
  | _, _, _ => False
def S_impl_areFinite : FSpec := { F := F_impl_areFinite, quiet := true, tame := false }
theorem impl_areFinite_vc (lists_a : Option Addr) (lists_n : Nat) (lists_e : Nat) (H : AHeap) (K : Value → AHeap → Prop) : bodyL Try.prog E_impl_areFinite Try.f81 [.slice lists_a lists_n lists_e] H K =
  (loopK (exL Try.prog E_impl_areFinite (cl (cl (cr (cl (cr (bodyC Try.f81)))))) 896 4 [(0, 0)]) [ud, ud, ud, ud, ud, ud, ud, .slice lists_a lists_n lists_e, .int .i64 (lists_n : Int), .int .i64 0, ud, ud, ud, ud, ud, ud, ud, ud, ud, ud, ud, ud, ud, ud] H (blockQ 0 (seqQ (exL Try.prog E_impl_areFinite (cr (cr (bodyC Try.f81))) 4 4 []) (retK Try.prog Try.f81 K)))) := by kernel_rfl
abbrev impl_areFinite_P1 (lists_a : Option Addr) (lists_e : Nat) (lists_n : Nat) (t9 : Int)  : List Value := [ud, ud, ud, ud, ud, ud, ud, .slice lists_a lists_n lists_e, .int .i64 (lists_n : Int), .int .i64 t9, ud, ud, ud, ud, ud, ud, ud, ud, ud, ud, ud, ud, ud, ud]
theorem impl_areFinite_r1 (lists_a : Option Addr) (lists_e : Nat) (lists_n : Nat) (t9 : Int)  (H : AHeap) (R : Post) : exL Try.prog E_impl_areFinite (cl (cl (cr (cl (cr (bodyC Try.f81)))))) 896 4 [(0, 0)] (impl_areFinite_P1 lists_a lists_e lists_n t9) H R =
  (Br (decide ((t9 : Int) < (lists_n : Int))) ((0 : Int) ≤ t9 ∧ t9 < (lists_n : Int) ∧ ∃ b1 f1, (lists_a : Option Addr) = some ⟨b1, f1, none⟩ ∧ ∃ x1_a : Option Addr, ∃ x1_n : Nat, ∃ x1_e : Nat,  rdC H b1 (f1 + (t9 : Int).toNat * 1) = some (.slice x1_a x1_n x1_e) ∧ loopK (exL Try.prog E_impl_areFinite (cl (cl (cr (cr (cl (cl (cr (cr (cl (cl (cr (cl (cr (bodyC Try.f81)))))))))))))) 58240 4 [(2, 896), (1, 896), (0, 0)]) [ud, ud, ud, ud, ud, ud, ud, .slice lists_a lists_n lists_e, .int .i64 (lists_n : Int), .int .i64 t9, ud, ud, ud, .slice x1_a x1_n x1_e, .int .i64 (x1_n : Int), .int .i64 0, ud, ud, ud, ud, ud, ud, ud, ud] H (blockQ 2 (blockQ 1 (seqQ (exL Try.prog E_impl_areFinite (cr (cr (cr (cl (cl (cr (cl (cr (bodyC Try.f81))))))))) 896 4 [(0, 0)]) (R))))) (R (.exit 0) [ud, ud, ud, ud, ud, ud, ud, ud, ud, ud, ud, ud, ud, ud, ud, ud, ud, ud, ud, ud, ud, ud, ud, ud] H)) := by kernel_rfl
def impl_areFinite_I1 (lists_a : Option Addr) (lists_e : Nat) (lists_n : Nat) (Inv : Nat → Int → AHeap → Prop) : Nat → List Value → AHeap → Prop := fun μ tm H => ∃ (t9 : Int), tm = (impl_areFinite_P1 lists_a lists_e lists_n t9) ∧ Inv μ t9 H
theorem impl_areFinite_L1 (lists_a : Option Addr) (lists_e : Nat) (lists_n : Nat) {Q : Post} (Inv : Nat → Int → AHeap → Prop) (ν : Nat) (t9 : Int)  (H : AHeap) (h0 : Inv ν t9 H)
    (hs : ∀ (μ : Nat) (t9 : Int)  (H : AHeap), Inv μ t9 H → exL Try.prog E_impl_areFinite (cl (cl (cr (cl (cr (bodyC Try.f81)))))) 896 4 [(0, 0)] (impl_areFinite_P1 lists_a lists_e lists_n t9) H (loopQ (impl_areFinite_I1 lists_a lists_e lists_n Inv) μ Q)) : loopK (exL Try.prog E_impl_areFinite (cl (cl (cr (cl (cr (bodyC Try.f81)))))) 896 4 [(0, 0)]) (impl_areFinite_P1 lists_a lists_e lists_n t9) H Q :=
  ⟨impl_areFinite_I1 lists_a lists_e lists_n Inv, ν, ⟨t9, rfl, h0⟩, fun μ tm H h => by obtain ⟨t9, rfl, hI⟩ := h; exact hs μ t9  H hI⟩
theorem impl_areFinite_n1 {lists_a : Option Addr} {lists_e : Nat} {lists_n : Nat} {Q : Post} {Inv : Nat → Int → AHeap → Prop} {μ : Nat} (μ' : Nat) {t9 : Int}  {H : AHeap} (hm : μ' < μ) (hI : Inv μ' t9 H) : loopQ (impl_areFinite_I1 lists_a lists_e lists_n Inv) μ Q .normal (impl_areFinite_P1 lists_a lists_e lists_n t9) H := ⟨μ', hm, t9, rfl, hI⟩
theorem impl_areFinite_x1_0  (H : AHeap) (K : Value → AHeap → Prop)  {I : Nat → List Value → AHeap → Prop} {μ : Nat} : loopQ I μ (blockQ 0 (seqQ (exL Try.prog E_impl_areFinite (cr (cr (bodyC Try.f81))) 4 4 []) (retK Try.prog Try.f81 K))) (.exit 0) [ud, ud, ud, ud, ud, ud, ud, ud, ud, ud, ud, ud, ud, ud, ud, ud, ud, ud, ud, ud, ud, ud, ud, ud] H =
  (K (.bool true) H) := by kernel_rfl
theorem impl_areFinite_x1_ret (t2 : Bool) (H : AHeap) (K : Value → AHeap → Prop)  {I : Nat → List Value → AHeap → Prop} {μ : Nat} : loopQ I μ (blockQ 0 (seqQ (exL Try.prog E_impl_areFinite (cr (cr (bodyC Try.f81))) 4 4 []) (retK Try.prog Try.f81 K))) .ret [ud, ud, .bool t2, ud, ud, ud, ud, ud, ud, ud, ud, ud, ud, ud, ud, ud, ud, ud, ud, ud, ud, ud, ud, ud] H =
  (K (.bool t2) H) := by kernel_rfl
abbrev impl_areFinite_P2 (lists_a : Option Addr) (lists_e : Nat) (lists_n : Nat) (t9 : Int) (x1_a : Option Addr) (x1_e : Nat) (x1_n : Nat) (t15 : Int)  : List Value := [ud, ud, ud, ud, ud, ud, ud, .slice lists_a lists_n lists_e, .int .i64 (lists_n : Int), .int .i64 t9, ud, ud, ud, .slice x1_a x1_n x1_e, .int .i64 (x1_n : Int), .int .i64 t15, ud, ud, ud, ud, ud, ud, ud, ud]
theorem impl_areFinite_r2 (lists_a : Option Addr) (lists_e : Nat) (lists_n : Nat) (t9 : Int) (x1_a : Option Addr) (x1_e : Nat) (x1_n : Nat) (t15 : Int)  (H : AHeap) (R : Post) : exL Try.prog E_impl_areFinite (cl (cl (cr (cr (cl (cl (cr (cr (cl (cl (cr (cl (cr (bodyC Try.f81)))))))))))))) 58240 4 [(2, 896), (1, 896), (0, 0)] (impl_areFinite_P2 lists_a lists_e lists_n t9 x1_a x1_e x1_n t15) H R =
  (Br (decide ((t15 : Int) < (x1_n : Int))) ((0 : Int) ≤ t15 ∧ t15 < (x1_n : Int) ∧ ∃ b2 f2, (x1_a : Option Addr) = some ⟨b2, f2, none⟩ ∧ ∃ x2 : Nat,  rdC H b2 (f2 + (t15 : Int).toNat * 1) = some (.float .f32 x2) ∧ T_impl_IsFinite x2 H fun (r1 : Bool) (H1 : AHeap) => Br (!r1) (R .ret [ud, ud, .bool false, ud, ud, ud, ud, ud, ud, ud, ud, ud, ud, ud, ud, ud, ud, ud, ud, ud, ud, ud, ud, ud] H1) (R .normal [ud, ud, ud, ud, ud, ud, ud, .slice lists_a lists_n lists_e, .int .i64 (lists_n : Int), .int .i64 t9, ud, ud, ud, .slice x1_a x1_n x1_e, .int .i64 (x1_n : Int), .int .i64 (IntKind.wrap .i64 (t15 + 1)), ud, ud, ud, ud, ud, ud, ud, ud] H1)) (R (.exit 2) [ud, ud, ud, ud, ud, ud, ud, .slice lists_a lists_n lists_e, .int .i64 (lists_n : Int), .int .i64 t9, ud, ud, ud, ud, ud, ud, ud, ud, ud, ud, ud, ud, ud, ud] H)) := by kernel_rfl
def impl_areFinite_I2 (lists_a : Option Addr) (lists_e : Nat) (lists_n : Nat) (t9 : Int) (x1_a : Option Addr) (x1_e : Nat) (x1_n : Nat) (Inv : Nat → Int → AHeap → Prop) : Nat → List Value → AHeap → Prop := fun μ tm H => ∃ (t15 : Int), tm = (impl_areFinite_P2 lists_a lists_e lists_n t9 x1_a x1_e x1_n t15) ∧ Inv μ t15 H
theorem impl_areFinite_L2 (lists_a : Option Addr) (lists_e : Nat) (lists_n : Nat) (t9 : Int) (x1_a : Option Addr) (x1_e : Nat) (x1_n : Nat) {Q : Post} (Inv : Nat → Int → AHeap → Prop) (ν : Nat) (t15 : Int)  (H : AHeap) (h0 : Inv ν t15 H)
    (hs : ∀ (μ : Nat) (t15 : Int)  (H : AHeap), Inv μ t15 H → exL Try.prog E_impl_areFinite (cl (cl (cr (cr (cl (cl (cr (cr (cl (cl (cr (cl (cr (bodyC Try.f81)))))))))))))) 58240 4 [(2, 896), (1, 896), (0, 0)] (impl_areFinite_P2 lists_a lists_e lists_n t9 x1_a x1_e x1_n t15) H (loopQ (impl_areFinite_I2 lists_a lists_e lists_n t9 x1_a x1_e x1_n Inv) μ Q)) : loopK (exL Try.prog E_impl_areFinite (cl (cl (cr (cr (cl (cl (cr (cr (cl (cl (cr (cl (cr (bodyC Try.f81)))))))))))))) 58240 4 [(2, 896), (1, 896), (0, 0)]) (impl_areFinite_P2 lists_a lists_e lists_n t9 x1_a x1_e x1_n t15) H Q :=
  ⟨impl_areFinite_I2 lists_a lists_e lists_n t9 x1_a x1_e x1_n Inv, ν, ⟨t15, rfl, h0⟩, fun μ tm H h => by obtain ⟨t15, rfl, hI⟩ := h; exact hs μ t15  H hI⟩
theorem impl_areFinite_n2 {lists_a : Option Addr} {lists_e : Nat} {lists_n : Nat} {t9 : Int} {x1_a : Option Addr} {x1_e : Nat} {x1_n : Nat} {Q : Post} {Inv : Nat → Int → AHeap → Prop} {μ : Nat} (μ' : Nat) {t15 : Int}  {H : AHeap} (hm : μ' < μ) (hI : Inv μ' t15 H) : loopQ (impl_areFinite_I2 lists_a lists_e lists_n t9 x1_a x1_e x1_n Inv) μ Q .normal (impl_areFinite_P2 lists_a lists_e lists_n t9 x1_a x1_e x1_n t15) H := ⟨μ', hm, t15, rfl, hI⟩
theorem impl_areFinite_x2_2 (lists_a : Option Addr) (lists_e : Nat) (lists_n : Nat) (t9 : Int) (H : AHeap)  (R : Post) {I : Nat → List Value → AHeap → Prop} {μ : Nat} : loopQ I μ (blockQ 2 (blockQ 1 (seqQ (exL Try.prog E_impl_areFinite (cr (cr (cr (cl (cl (cr (cl (cr (bodyC Try.f81))))))))) 896 4 [(0, 0)]) (R)))) (.exit 2) [ud, ud, ud, ud, ud, ud, ud, .slice lists_a lists_n lists_e, .int .i64 (lists_n : Int), .int .i64 t9, ud, ud, ud, ud, ud, ud, ud, ud, ud, ud, ud, ud, ud, ud] H =
  (R .normal [ud, ud, ud, ud, ud, ud, ud, .slice lists_a lists_n lists_e, .int .i64 (lists_n : Int), .int .i64 (IntKind.wrap .i64 (t9 + 1)), ud, ud, ud, ud, ud, ud, ud, ud, ud, ud, ud, ud, ud, ud] H) := by kernel_rfl
theorem impl_areFinite_x2_ret (t2_2 : Bool) (H : AHeap)  (R : Post) {I : Nat → List Value → AHeap → Prop} {μ : Nat} : loopQ I μ (blockQ 2 (blockQ 1 (seqQ (exL Try.prog E_impl_areFinite (cr (cr (cr (cl (cl (cr (cl (cr (bodyC Try.f81))))))))) 896 4 [(0, 0)]) (R)))) .ret [ud, ud, .bool t2_2, ud, ud, ud, ud, ud, ud, ud, ud, ud, ud, ud, ud, ud, ud, ud, ud, ud, ud, ud, ud, ud] H =
  (R .ret [ud, ud, .bool t2_2, ud, ud, ud, ud, ud, ud, ud, ud, ud, ud, ud, ud, ud, ud, ud, ud, ud, ud, ud, ud, ud] H) := by kernel_rfl
theorem E_impl_areFinite_ok : ∀ g, FnOk Try.prog g (E_impl_areFinite g) := FnOk.envOf (by
  intro x hx
  simp only [List.mem_cons, List.not_mem_nil, or_false] at hx
  subst hx; exact impl_IsFinite_ok)
set_option maxHeartbeats 1000000 in
theorem impl_areFinite_main (lists_a : Option Addr) (lists_n : Nat) (lists_e : Nat) (H : AHeap) (K : Value → AHeap → Prop) (h : T_impl_areFinite lists_a lists_n lists_e H fun (r1 : Bool) (H' : AHeap) => K (.bool r1) H') : bodyL Try.prog E_impl_areFinite Try.f81 [.slice lists_a lists_n lists_e] H K := by
  rw [impl_areFinite_vc]
  obtain ⟨l_lists, i_lists, bd_22, bb_l_lists, hk⟩ := h
  obtain rfl := i_lists.eqn
  have e : (p_impl_areFinite l_lists) = _ := rfl
  have e := e.trans (p_impl_areFinite_eq l_lists)
  have g0 := Grow.refl H
  refine impl_areFinite_L1 _ _ _ (fun (μ : Nat) (t9 : Int) (H_1 : AHeap) => ∃ (t2 : Bool), H = H_1 ∧ (0 : Int) ≤ t9 ∧ t9 ≤ (l_lists.length : Int) ∧ (l_lists.length : Int) - t9 ≤ (μ : Int) ∧ p_impl_areFinite l_lists = p_impl_areFinite_l1 l_lists (μ + 1) t2 t9) (Int.toNat ((l_lists.length : Int) - (0 : Int))) _ H ?_ ?_
  · exact ⟨_, rfl, o6, o6, o3, e⟩
  · intro μ t9  H_1 hI
    obtain ⟨t2, rfl, v_1, v_2, hμ, e⟩ := hI
    rw [impl_areFinite_r1]
    have e := e.trans (p_impl_areFinite_l1_s l_lists μ t2 t9)
    have l_3 := g0.1
    refine Br.intro (fun c_4 => ?_) (fun c_4 => ?_)
    · have e := e.trans (cond_t c_4)
      have c_4' := of_decide_eq_true c_4
      obtain ⟨b_5, f_6, q_7⟩ := ((i_lists.grow g0)).pos o0
      refine ⟨by omega, by omega, b_5, f_6, q_7, ?_⟩
      obtain ⟨a_8, n_9, e_10, r_11, i_12⟩ := (i_lists).rd (i := (t9 : Int).toNat) g0 q_7 o3
      obtain rfl := i_12.eqn
      refine ⟨a_8, _, e_10, r_11, ?_⟩
      have z_13 := getD_len bb_l_lists (t9 : Int).toNat
      refine impl_areFinite_L2 _ _ _ _ _ _ _ (fun (μ2 : Nat) (t15 : Int) (H_2 : AHeap) => ∃ (t2_2 : Bool), H = H_2 ∧ (0 : Int) ≤ t15 ∧ t15 ≤ ((((l_lists).getD (t9 : Int).toNat [])).length : Int) ∧ ((((l_lists).getD (t9 : Int).toNat [])).length : Int) - t15 ≤ (μ2 : Int) ∧ p_impl_areFinite l_lists = p_impl_areFinite_l2 l_lists t2 t9 (fun (t2_2 : Bool) (t15 : Int) => (p_impl_areFinite_l1 l_lists μ t2_2 (t9 + 1))) (μ2 + 1) t2_2 t15) (Int.toNat (((((l_lists).getD (t9 : Int).toNat [])).length : Int) - (0 : Int))) _ H ?_ ?_
      · exact ⟨_, rfl, o6, o6, o3, e⟩
      · intro μ2 t15  H_2 hI
        obtain ⟨t2_2, rfl, v_14, v_15, hμ, e⟩ := hI
        rw [impl_areFinite_r2]
        have e := e.trans (p_impl_areFinite_l2_s l_lists t2 t9 (fun (t2_2 : Bool) (t15 : Int) => (p_impl_areFinite_l1 l_lists μ t2_2 (t9 + 1))) μ2 t2_2 t15)
        have l_16 := g0.1
        refine Br.intro (fun c_17 => ?_) (fun c_17 => ?_)
        · have e := e.trans (cond_t c_17)
          have c_17' := of_decide_eq_true c_17
          obtain ⟨b_18, f_19, q_20⟩ := ((i_12.grow g0)).pos o0
          refine ⟨by omega, by omega, b_18, f_19, q_20, ?_⟩
          refine ⟨((((l_lists).getD (t9 : Int).toNat [])).getD (t15 : Int).toNat 0), (i_12).rd g0 q_20 o3 _, ?_⟩
          refine T_impl_IsFinite_i ?_
          refine Br.intro (fun c_21 => ?_) (fun c_21 => ?_)
          · have e := e.trans (cond_t c_21)
            have c_21n := nf_of_t c_21
            rw [impl_areFinite_x2_ret]
            rw [impl_areFinite_x1_ret]
            rw [e] at hk
            exact hk
          · have e := e.trans (cond_f c_21)
            have c_21n := nt_of_f c_21
            rw [show IntKind.wrap .i64 (t15 + 1) = (t15 + 1) from wrap64 o3 o3]
            refine impl_areFinite_n2 (μ2 - 1) o12 ⟨_, rfl, o1, o1, o12, (by rw [show μ2 - 1 + 1 = μ2 from by first | omega]; exact e)⟩
        · have e := e.trans (cond_f c_17)
          have c_17' := of_decide_eq_false c_17
          rw [impl_areFinite_x2_2]
          rw [show IntKind.wrap .i64 (t9 + 1) = (t9 + 1) from wrap64 o3 o3]
          refine impl_areFinite_n1 (μ - 1) o12 ⟨_, rfl, o1, o1, o12, (by rw [show μ - 1 + 1 = μ from by first | omega]; exact e)⟩
    · have e := e.trans (cond_f c_4)
      have c_4' := of_decide_eq_false c_4
      rw [impl_areFinite_x1_0]
      rw [e] at hk
      exact hk
theorem impl_areFinite_ok : FnOk Try.prog 81 S_impl_areFinite := by
  refine FnOk.body mix_ok E_impl_areFinite_ok Try.func81 rfl (by kernel_rfl) (by kernel_rfl) ?_ ?_ ?_ ?_ ?_
  · intro args H K K' h hk
    simp only [S_impl_areFinite] at *
    unfold F_impl_areFinite at *
    split at hk
    · obtain ⟨l_lists, i_lists, bd_22, bb_l_lists, k⟩ := hk
      exact ⟨l_lists, i_lists, bd_22, bb_l_lists, h _ _ k⟩
    · exact hk.elim
  · intro _ args H K hk
    simp only [S_impl_areFinite] at *
    unfold F_impl_areFinite at *
    split at hk
    · obtain ⟨l_lists, i_lists, bd_22, bb_l_lists, k⟩ := hk
      exact ⟨_, k, fun K' k' => ⟨l_lists, i_lists, bd_22, bb_l_lists, k'⟩⟩
    · exact hk.elim
  · intro args H K hk
    simp only [S_impl_areFinite] at *
    unfold F_impl_areFinite at *
    split at hk
    · obtain ⟨l_lists, i_lists, bd_22, bb_l_lists, k⟩ := hk
      exact ⟨_, _, k⟩
    · exact hk.elim
  · intro hq; cases hq
  · have mm := @impl_areFinite_main
    have ml := fun (args : List Value) (H : AHeap) (K : Value → AHeap → Prop) => bodyL_body (P := Try.prog) (env := E_impl_areFinite ) (fn := Try.f81) (args := args) (H := H) (K := K) E_impl_areFinite_ok 
    revert mm ml
    generalize bodyK Try.prog E_impl_areFinite Try.f81 = Q
    generalize bodyL Try.prog E_impl_areFinite Try.f81 = QL
    intro mm ml args H K hk
    simp only [S_impl_areFinite] at *
    unfold F_impl_areFinite at *
    split at hk
    · exact ml _ H K (mm _ _ _ H K hk)
    · exact hk.elim

def p_impl_isLong (l_list : List Nat) : Bool := (bif (p_impl_within (l_list.length : Int) (1 : Int) (128 : Int)) then (p_impl_areFinite ([l_list])) else false)
def p_impl_isLong_eq := @p_impl_isLong.eq_1
def T_impl_isLong (list_a : Option Addr) (list_n : Nat) (list_e : Nat) (H : AHeap) (K : Bool → AHeap → Prop) : Prop := ∃ (l_list : List Nat), IsL fF H list_a list_n l_list ∧ l_list.length < 1073741824 ∧ ((∀ H' : AHeap, Grow H H' → K (p_impl_isLong l_list) H'))
theorem T_impl_isLong_i {list_a : Option Addr} {list_n : Nat} {list_e : Nat} {H : AHeap} {K : Bool → AHeap → Prop} (h : ∃ (l_list : List Nat), IsL fF H list_a list_n l_list ∧ l_list.length < 1073741824 ∧ ((∀ H' : AHeap, Grow H H' → K (p_impl_isLong l_list) H'))) : T_impl_isLong list_a list_n list_e H K := h
theorem impl_isLong_t {l : List Nat} (h : p_impl_isLong l = true) : 1 ≤ (l.length : Int) ∧ (l.length : Int) ≤ 128 := by
  rw [p_impl_isLong_eq] at h
  cases h1 : p_impl_within (l.length : Int) 1 128
  · rw [h1] at h; cases h
  · exact impl_within_t h1
/-! impl_isLong: function 75 -/
def E_impl_isLong : Env := envOf [(54, S_impl_within), (81, S_impl_areFinite)]
def F_impl_isLong : List Value → AHeap → (Value → AHeap → Prop) → Prop
  | [.slice list_a list_n list_e], H, K => T_impl_isLong list_a list_n list_e H fun (r1 : Bool) (H' : AHeap) => K (.bool r1) H'
  | _, _, _ => False
def S_impl_isLong : FSpec := { F := F_impl_isLong, quiet := false, tame := true }
theorem impl_isLong_vc (list_a : Option Addr) (list_n : Nat) (list_e : Nat) (H : AHeap) (K : Value → AHeap → Prop) : bodyL Try.prog E_impl_isLong Try.f75 [.slice list_a list_n list_e] H K =
  (T_impl_within (list_n : Int) 1 128 H fun (r1 : Bool) (H1 : AHeap) => Br r1 (Al [.slice list_a list_n list_e] H1 fun b1 H2 => T_impl_areFinite (some ⟨b1, 0, none⟩) 1 1 H2 fun (r2 : Bool) (H3 : AHeap) => K (.bool r2) H3) (K (.bool false) H1)) := by kernel_rfl
theorem E_impl_isLong_ok : ∀ g, FnOk Try.prog g (E_impl_isLong g) := FnOk.envOf (by
  intro x hx
  simp only [List.mem_cons, List.not_mem_nil, or_false] at hx
  rcases hx with rfl | rfl
  · exact impl_within_ok
  · exact impl_areFinite_ok)
set_option maxHeartbeats 1000000 in
theorem impl_isLong_main (list_a : Option Addr) (list_n : Nat) (list_e : Nat) (H : AHeap) (K : Value → AHeap → Prop) (h : T_impl_isLong list_a list_n list_e H fun (r1 : Bool) (H' : AHeap) => K (.bool r1) H') : bodyL Try.prog E_impl_isLong Try.f75 [.slice list_a list_n list_e] H K := by
  rw [impl_isLong_vc]
  obtain ⟨l_list, i_list, bd_12, hk⟩ := h
  obtain rfl := i_list.eqn
  have e : (p_impl_isLong l_list) = _ := rfl
  have e := e.trans (p_impl_isLong_eq l_list)
  have g0 := Grow.refl H
  refine T_impl_within_i ?_
  refine Br.intro (fun c_1 => ?_) (fun c_1 => ?_)
  · have e := e.trans (cond_t c_1)
    have c_1' := impl_within_t c_1
    refine Al.intro (fun b_2 H_1 hb_3 hl_4 g_5 o_6 => ?_)
    have l_8 := g_5.1
    have g_9 := g0.trans g_5
    have l_10 := g_9.1
    have w_11 := o_6.lt
    refine T_impl_areFinite_i ⟨[l_list], ⟨_, o_6.rdAll rfl, LLc.cons (i_list.grow g_9) (LLc.nil _ _)⟩, o0, (by first | assumption | (intro y hy; simp only [List.mem_cons, List.not_mem_nil, or_false] at hy; first | omega | (subst hy; omega) | (rcases hy with rfl | rfl <;> omega) | (rcases hy with rfl | rfl | rfl <;> omega))), ?_⟩
    rw [e] at hk
    exact hk  H_1 g_9 
  · have e := e.trans (cond_f c_1)
    rw [e] at hk
    exact hk  H g0 
theorem impl_isLong_ok : FnOk Try.prog 75 S_impl_isLong := by
  refine FnOk.body mix_ok E_impl_isLong_ok Try.func75 rfl (by kernel_rfl) (by kernel_rfl) ?_ ?_ ?_ ?_ ?_
  · intro args H K K' h hk
    simp only [S_impl_isLong] at *
    unfold F_impl_isLong at *
    split at hk
    · obtain ⟨l_list, i_list, bd_12, k⟩ := hk
      exact ⟨l_list, i_list, bd_12, (fun  H' gg  => h _ _ (k  H' gg ))⟩
    · exact hk.elim
  · intro hq; cases hq
  · intro args H K hk
    simp only [S_impl_isLong] at *
    unfold F_impl_isLong at *
    split at hk
    · obtain ⟨l_list, i_list, bd_12, k⟩ := hk
      exact ⟨_, _, k H (Grow.refl H)⟩
    · exact hk.elim
  · intro _ args H K hk
    simp only [S_impl_isLong] at *
    unfold F_impl_isLong at *
    split at hk
    · obtain ⟨l_list, i_list, bd_12, k⟩ := hk
      exact ⟨l_list, i_list, bd_12, (fun  H' gg  => ⟨gg, k  H' gg ⟩)⟩
    · exact hk.elim
  · have mm := @impl_isLong_main
    have ml := fun (args : List Value) (H : AHeap) (K : Value → AHeap → Prop) => bodyL_body (P := Try.prog) (env := E_impl_isLong ) (fn := Try.f75) (args := args) (H := H) (K := K) E_impl_isLong_ok 
    revert mm ml
    generalize bodyK Try.prog E_impl_isLong Try.f75 = Q
    generalize bodyL Try.prog E_impl_isLong Try.f75 = QL
    intro mm ml args H K hk
    simp only [S_impl_isLong] at *
    unfold F_impl_isLong at *
    split at hk
    · exact ml _ H K (mm _ _ _ H K hk)
    · exact hk.elim
def p_impl_isScale (x : Nat) : Bool := (bif fle .f32 1056964608 x then fle .f32 x 1098907648 else false)
def p_impl_isScale_eq := @p_impl_isScale.eq_1
def T_impl_isScale (x : Nat) (H : AHeap) (K : Bool → AHeap → Prop) : Prop := K (p_impl_isScale x) H

theorem T_impl_isScale_i {x : Nat} {H : AHeap} {K : Bool → AHeap → Prop} (h : K (p_impl_isScale x) H) : T_impl_isScale x H K := h
/-! impl_isScale: function 55 -/
def E_impl_isScale : Env := envOf []
def F_impl_isScale : List Value → AHeap → (Value → AHeap → Prop) → Prop
  | [.float .f32 x], H, K => T_impl_isScale x H fun (r1 : Bool) (H' : AHeap) => K (.bool r1) H'
  | _, _, _ => False
def S_impl_isScale : FSpec := { F := F_impl_isScale, quiet := true, tame := false }
theorem impl_isScale_vc (x : Nat) (H : AHeap) (K : Value → AHeap → Prop) : bodyL Try.prog E_impl_isScale Try.f55 [.float .f32 x] H K =
  (Br (fle .f32 1056964608 x) (K (.bool (fle .f32 x 1098907648)) H) (K (.bool false) H)) := by kernel_rfl
theorem E_impl_isScale_ok : ∀ g, FnOk Try.prog g (E_impl_isScale g) := FnOk.envOf (by
  intro x hx; cases hx)
set_option maxHeartbeats 1000000 in
theorem impl_isScale_main (x : Nat) (H : AHeap) (K : Value → AHeap → Prop) (h : T_impl_isScale x H fun (r1 : Bool) (H' : AHeap) => K (.bool r1) H') : bodyL Try.prog E_impl_isScale Try.f55 [.float .f32 x] H K := by
  rw [impl_isScale_vc]
  unfold T_impl_isScale p_impl_isScale at h
  repeat' (first | exact h | (exfalso; simp_all; done) | (refine ⟨by decide, ?_⟩) | (refine Br.intro (fun hb => ?_) (fun hb => ?_) <;> (try simp only [hb, cond_true, cond_false, Bool.not_true, Bool.not_false] at h)))
theorem impl_isScale_ok : FnOk Try.prog 55 S_impl_isScale := by
  refine FnOk.body mix_ok E_impl_isScale_ok Try.func55 rfl (by kernel_rfl) (by kernel_rfl) ?_ ?_ ?_ ?_ ?_
  · intro args H K K' h hk
    simp only [S_impl_isScale] at *
    unfold F_impl_isScale at *
    split at hk
    · have k := hk
      exact h _ _ k
    · exact hk.elim
  · intro _ args H K hk
    simp only [S_impl_isScale] at *
    unfold F_impl_isScale at *
    split at hk
    · have k := hk
      exact ⟨_, k, fun K' k' => k'⟩
    · exact hk.elim
  · intro args H K hk
    simp only [S_impl_isScale] at *
    unfold F_impl_isScale at *
    split at hk
    · have k := hk
      exact ⟨_, _, k⟩
    · exact hk.elim
  · intro hq; cases hq
  · have mm := @impl_isScale_main
    have ml := fun (args : List Value) (H : AHeap) (K : Value → AHeap → Prop) => bodyL_body (P := Try.prog) (env := E_impl_isScale ) (fn := Try.f55) (args := args) (H := H) (K := K) E_impl_isScale_ok 
    revert mm ml
    generalize bodyK Try.prog E_impl_isScale Try.f55 = Q
    generalize bodyL Try.prog E_impl_isScale Try.f55 = QL
    intro mm ml args H K hk
    simp only [S_impl_isScale] at *
    unfold F_impl_isScale at *
    split at hk
    · exact ml _ H K (mm _ H K hk)
    · exact hk.elim

def p_impl_copyOf (l_list : List Nat) : (List Nat) := (([] : List Nat) ++ l_list)
def p_impl_copyOf_eq := @p_impl_copyOf.eq_1
def T_impl_copyOf (list_a : Option Addr) (list_n : Nat) (list_e : Nat) (H : AHeap) (K : (Option Addr) → Nat → Nat → AHeap → Prop) : Prop := ∃ (l_list : List Nat), IsL fF H list_a list_n l_list ∧ l_list.length < 1073741824 ∧ ((∀ (r1_a : Option Addr) (r1_n r1_e : Nat), ∀ H' : AHeap, Grow H H' → OwnS fF H' H.length r1_a r1_n r1_e (p_impl_copyOf l_list) → K r1_a r1_n r1_e H'))
theorem T_impl_copyOf_i {list_a : Option Addr} {list_n : Nat} {list_e : Nat} {H : AHeap} {K : (Option Addr) → Nat → Nat → AHeap → Prop} (h : ∃ (l_list : List Nat), IsL fF H list_a list_n l_list ∧ l_list.length < 1073741824 ∧ ((∀ (r1_a : Option Addr) (r1_n r1_e : Nat), ∀ H' : AHeap, Grow H H' → OwnS fF H' H.length r1_a r1_n r1_e (p_impl_copyOf l_list) → K r1_a r1_n r1_e H'))) : T_impl_copyOf list_a list_n list_e H K := h
theorem impl_copyOf_is (l : List Nat) : p_impl_copyOf l = l := by rw [p_impl_copyOf_eq]; rfl
theorem impl_copyOf_len (l : List Nat) : (p_impl_copyOf l).length = l.length := by rw [impl_copyOf_is]
/-! impl_copyOf: function 82 -/
def E_impl_copyOf : Env := envOf []
def F_impl_copyOf : List Value → AHeap → (Value → AHeap → Prop) → Prop
  | [.slice list_a list_n list_e], H, K => T_impl_copyOf list_a list_n list_e H fun (r1_a : Option Addr) (r1_n : Nat) (r1_e : Nat) (H' : AHeap) => K (.slice r1_a r1_n r1_e) H'
  | _, _, _ => False
def S_impl_copyOf : FSpec := { F := F_impl_copyOf, quiet := false, tame := true }
theorem impl_copyOf_vc (list_a : Option Addr) (list_n : Nat) (list_e : Nat) (H : AHeap) (K : Value → AHeap → Prop) : bodyL Try.prog E_impl_copyOf Try.f82 [.slice list_a list_n list_e] H K =
  (Al [] H fun b1 H1 => ∃ o1 w1 : List Value, ownB H1 (some ⟨b1, 0, none⟩) 0 1 1 = some o1 ∧ rdS H1 list_a (list_n * 1) = some w1 ∧ ((some ⟨b1, 0, none⟩ : Option Addr) = none → 0 < (list_n : Nat)) ∧ (0 : Nat) + list_n < most ∧ Ap H1 (killB H1 (some ⟨b1, 0, none⟩) ++ [some ⟨o1 ++ w1, true⟩]) fun b2 H2 => K (.slice (some ⟨b2, 0, none⟩) (0 + list_n) 1) H2) := by kernel_rfl
theorem E_impl_copyOf_ok : ∀ g, FnOk Try.prog g (E_impl_copyOf g) := FnOk.envOf (by
  intro x hx; cases hx)
set_option maxHeartbeats 1000000 in
theorem impl_copyOf_main (list_a : Option Addr) (list_n : Nat) (list_e : Nat) (H : AHeap) (K : Value → AHeap → Prop) (h : T_impl_copyOf list_a list_n list_e H fun (r1_a : Option Addr) (r1_n : Nat) (r1_e : Nat) (H' : AHeap) => K (.slice r1_a r1_n r1_e) H') : bodyL Try.prog E_impl_copyOf Try.f82 [.slice list_a list_n list_e] H K := by
  rw [impl_copyOf_vc]
  obtain ⟨l_list, i_list, bd_21, hk⟩ := h
  obtain rfl := i_list.eqn
  have e : (p_impl_copyOf l_list) = _ := rfl
  have e := e.trans (p_impl_copyOf_eq l_list)
  have g0 := Grow.refl H
  refine Al.intro (fun b_1 H_1 hb_2 hl_3 g_4 o_5 => ?_)
  have o_5 : Own H_1 b_1 ((([] : List Nat)).map fF) := o_5
  have l_7 := g_4.1
  have g_8 := g0.trans g_4
  have l_9 := g_8.1
  have w_20 := o_5.lt
  refine ⟨_, _, o_5.ownB o10 rfl, (isl_rdS (i_list.grow g_8)), (fun h => by cases h), o28, ?_⟩
  refine Ap.app o_5 rfl rfl (fun b_14 H_2 q_18 hl_10 o_11 k_12 => ?_)
  have o_11 := map_snoc o_11
  have l_15 := k_12.1
  have g_16 := g_8.keep (b := b_1) o3 k_12
  have l_17 := g_16.1
  have w_19 := o_11.lt
  rw [e] at hk
  exact hk _ _ _ H_2 g_16 (o_11.ownS o9 o3)
theorem impl_copyOf_ok : FnOk Try.prog 82 S_impl_copyOf := by
  refine FnOk.body mix_ok E_impl_copyOf_ok Try.func82 rfl (by kernel_rfl) (by kernel_rfl) ?_ ?_ ?_ ?_ ?_
  · intro args H K K' h hk
    simp only [S_impl_copyOf] at *
    unfold F_impl_copyOf at *
    split at hk
    · obtain ⟨l_list, i_list, bd_21, k⟩ := hk
      exact ⟨l_list, i_list, bd_21, (fun r1_a r1_n r1_e H' gg ow0 => h _ _ (k r1_a r1_n r1_e H' gg ow0))⟩
    · exact hk.elim
  · intro hq; cases hq
  · intro args H K hk
    simp only [S_impl_copyOf] at *
    unfold F_impl_copyOf at *
    split at hk
    · obtain ⟨l_list, i_list, bd_21, k⟩ := hk
      exact liveS fun a n e H1 g o => ⟨_, _, k a n e H1 g o⟩
    · exact hk.elim
  · intro _ args H K hk
    simp only [S_impl_copyOf] at *
    unfold F_impl_copyOf at *
    split at hk
    · obtain ⟨l_list, i_list, bd_21, k⟩ := hk
      exact ⟨l_list, i_list, bd_21, (fun r1_a r1_n r1_e H' gg ow0 => ⟨gg, k r1_a r1_n r1_e H' gg ow0⟩)⟩
    · exact hk.elim
  · have mm := @impl_copyOf_main
    have ml := fun (args : List Value) (H : AHeap) (K : Value → AHeap → Prop) => bodyL_body (P := Try.prog) (env := E_impl_copyOf ) (fn := Try.f82) (args := args) (H := H) (K := K) E_impl_copyOf_ok 
    revert mm ml
    generalize bodyK Try.prog E_impl_copyOf Try.f82 = Q
    generalize bodyL Try.prog E_impl_copyOf Try.f82 = QL
    intro mm ml args H K hk
    simp only [S_impl_copyOf] at *
    unfold F_impl_copyOf at *
    split at hk
    · exact ml _ H K (mm _ _ _ H K hk)
    · exact hk.elim

def p_impl_expWide_l2 (x : Nat) (p : Nat) (k : Nat) (k2_3 : Nat → Int → Nat) : Nat → Nat → Int → Nat
  | 0, _, _ => 0
  | μ2 + 1, p_4, t25 => (bif decide ((t25 : Int) < 8) then (p_impl_expWide_l2 x p k k2_3 μ2 (fmul .f64 p_4 p_4) (t25 + 1)) else (k2_3 p_4 t25))
def p_impl_expWide_l2_s := fun x p k k2_3 μ2 p_4 t25 => @p_impl_expWide_l2.eq_2 x p k k2_3 p_4 t25 μ2
def p_impl_expWide_l1 (x : Nat) : Nat → Nat → Nat → Nat
  | 0, _, _ => 0
  | μ + 1, p, k => (bif fle .f64 4607182418800017408 k then (p_impl_expWide_l1 x μ (fadd .f64 4607182418800017408 (fdiv .f64 (fmul .f64 (fdiv .f64 x 4643211215818981376) p) k)) (fsub .f64 k 4607182418800017408)) else (p_impl_expWide_l2 x p k (fun (p_4 : Nat) (t25 : Int) => p_4) (Int.toNat (8 - (0 : Int)) + 1) p (0 : Int)))
def p_impl_expWide_l1_s := fun x μ p k => @p_impl_expWide_l1.eq_2 x p k μ
def p_impl_expWide (x : Nat) : Nat := (bif flt .f64 4641240890982006784 x then (p_math_Inf (1 : Int)) else (bif flt .f64 x 13864612927836782592 then 0 else (p_impl_expWide_l1 x (Int.toNat (cnt 4622945017495814144) + 1) 4607182418800017408 4622945017495814144)))
def p_impl_expWide_eq := @p_impl_expWide.eq_1
def T_impl_expWide (x : Nat) (H : AHeap) (K : Nat → AHeap → Prop) : Prop := K (p_impl_expWide x) H
theorem T_impl_expWide_i {x : Nat} {H : AHeap} {K : Nat → AHeap → Prop} (h : K (p_impl_expWide x) H) : T_impl_expWide x H K := h
theorem impl_expWide_sq {y P K : Nat} {k : Int} : ∀ (μ p : Nat) (i : Int), Bd .f64 1074 p → (FloatKind.f64.format.read p).neg = false → Bd .f64 1074 (p_impl_expWide_l2 y P K (fun (p : Nat) (t : Int) => p) μ p i) ∧ (FloatKind.f64.format.read (p_impl_expWide_l2 y P K (fun (p : Nat) (t : Int) => p) μ p i)).neg = false := by
  intro μ
  induction μ with
  | zero => intro p i _ _; exact ⟨⟨fin_zero _, by show (sv .f64 0).natAbs ≤ _; rw [sv_zero]; exact Nat.zero_le _⟩, by show (FloatKind.f64.format.read 0).neg = false; rw [read_zero]; rfl⟩
  | succ μ ih =>
    intro p i hp hs
    rw [p_impl_expWide_l2_s]
    cases decide (i < (8 : Int))
    · exact ⟨hp, hs⟩
    · have := Bd.mul (T := 1022) hp hp (top64 o23) o35
      rw [fb64, hs] at this
      exact ih _ _ this.1 this.2
theorem impl_expWide_ser {y : Nat} (hy : Bd .f64 (8 + 1074) y) (hn : (FloatKind.f64.format.read y).neg = true) : ∀ (μ p : Nat) (n : Int), n ≤ 12 → -1 ≤ n → Bd .f64 1074 p → (FloatKind.f64.format.read p).neg = false → Bd .f64 1074 (p_impl_expWide_l1 y μ p (FloatKind.nearest .f64 n)) := by
  intro μ
  induction μ with
  | zero => intro p n _ _ _ _; exact ⟨fin_zero _, by show (sv .f64 0).natAbs ≤ _; rw [sv_zero]; exact Nat.zero_le _⟩
  | succ μ ih =>
    intro p n h1 h0 hp hs
    rw [p_impl_expWide_l1_s]
    rw [(cnt_at (n := n) o3 o3).2.1]
    by_cases hc : (1 : Int) ≤ n
    · rw [decide_eq_true hc, cond_true]
      have t1 := Bd.div (T := 1022) (B := 1082) hy (y := 4643211215818981376) o30 o30 (top64 o23) o35
      rw [fb64, hn, show (FloatKind.f64.format.read 4643211215818981376).neg = false from by decide +kernel] at t1
      have t2 := Bd.mul (T := 1022) t1.1 hp (top64 o23) o35
      rw [fb64, t1.2, hs] at t2
      have c := cnt_sv hc o3
      have t3 := Bd.div (T := 1022) (B := 1074) t2.1 c.1 c.2.1 (top64 o23) o35
      rw [fb64, t2.2, c.2.2, show 52 + 1022 = 1074 from rfl] at t3
      have hz := sv_le_zero t3.2
      have hone : sv .f64 4607182418800017408 = 2 ^ 1074 := by decide +kernel
      have habs := t3.1.2
      generalize hq : fdiv .f64 (fmul .f64 (fdiv .f64 y 4643211215818981376) p) (FloatKind.nearest .f64 n) = q at *
      have hpow := pow_cast 1074
      have hsum : (sv .f64 4607182418800017408 + sv .f64 q).natAbs ≤ 2 ^ (FloatKind.f64.format.fractionBits + 1022) := by
        rw [hone, fb64, ← hpow, show 52 + 1022 = 1074 from rfl]
        obtain ⟨W, hW⟩ : ∃ W : Nat, W = 2 ^ 1074 := ⟨_, rfl⟩
        rw [← hW] at habs ⊢
        clear hpow hW
        omega
      have t4 := Bd.add (T := 1022) (x := 4607182418800017408) (y := q) o30 t3.1.1 (top64 o23) hsum
      rw [fb64] at t4
      have hneg : (FloatKind.f64.format.read (fadd .f64 4607182418800017408 q)).neg = false := by
        rw [t4.2]
        split
        · rw [show (FloatKind.f64.format.read 4607182418800017408).neg = false from by decide +kernel]; rfl
        · refine decide_eq_false ?_
          rw [hone, ← hpow]
          generalize (2 ^ 1074 : Nat) = W at *
          omega
      rw [(cnt_at (n := n) o3 o3).2.2.1]; exact ih _ (n - 1) o3 o3 t4.1 hneg
    · rw [decide_eq_false hc, cond_false]
      exact (impl_expWide_sq (k := 0) _ _ _ hp hs).1
theorem impl_expWide_nar {x : Nat} (hx : (FloatKind.f32.format.read x).isNaN = true ∨ (FloatKind.f32.format.read x).neg = true) : fnarrow (p_impl_expWide (fwide x)) ≠ none := by
  cases hr : FloatKind.f32.format.read x with
  | nan s t =>
    have e : fwide x = qnan .f64 := by
      unfold fwide
      rw [show FloatKind.f32.decode x = FloatKind.f32.format.read x from rfl, hr]
    rw [e]; decide +kernel
  | infinity s =>
    have hs : s = true := by
      rw [hr] at hx
      rcases hx with h | h
      · cases h
      · exact h
    have e : fwide x = FloatKind.f64.encode (.infinity true) := by
      unfold fwide
      rw [show FloatKind.f32.decode x = FloatKind.f32.format.read x from rfl, hr, hs]
    rw [e]; decide +kernel
  | number s m i =>
    have hf : fin .f32 x = true := by unfold fin; rw [hr]
    have hs : (FloatKind.f32.format.read x).neg = true := by
      rcases hx with h | h
      · rw [hr] at h; cases h
      · exact h
    have wf := wide_fin hf
    have wn := wide_neg (x := x) (fin_nn hf)
    rw [hs] at wn
    have z := sv_le_zero wn
    rw [p_impl_expWide_eq]
    
    rw [flt_fin o30 wf, flt_fin wf o30]
    have e1 : sv .f64 4641240890982006784 = 200 * 2 ^ 1074 := by decide +kernel
    have e2 : sv .f64 13864612927836782592 = -200 * 2 ^ 1074 := by decide +kernel
    have hpow := pow_cast 1074
    rw [e1, e2, ← hpow]
    have hp := Nat.two_pow_pos 1074
    rw [decide_eq_false (by generalize (2 ^ 1074 : Nat) = W at *; omega), cond_false]
    by_cases hc : sv .f64 (fwide x) < -200 * ((2 ^ 1074 : Nat) : Int)
    · rw [decide_eq_true hc, cond_true]; decide +kernel
    · rw [decide_eq_false hc, cond_false]
      have hy : Bd .f64 (8 + 1074) (fwide x) := by
        refine ⟨wf, ?_⟩
        have e3 : (2 : Nat) ^ (8 + 1074) = 2 ^ 8 * 2 ^ 1074 := Nat.pow_add 2 8 1074
        rw [e3]
        generalize (2 ^ 1074 : Nat) = W at *
        omega
      have one : Bd .f64 1074 4607182418800017408 := ⟨by decide +kernel, by decide +kernel⟩
      have e5 : (4622945017495814144 : Nat) = FloatKind.nearest .f64 12 := by decide +kernel
      have b := impl_expWide_ser hy wn (Int.toNat (cnt 4622945017495814144) + 1) 4607182418800017408 12 o23 o23 one o30
      rw [← e5] at b
      exact narrow_ok (b.mono o23)
/-! impl_expWide: function 184 -/
def E_impl_expWide : Env := envOf [(182, S_math_Inf)]
def F_impl_expWide : List Value → AHeap → (Value → AHeap → Prop) → Prop
  | [.float .f64 x], H, K => T_impl_expWide x H fun (r1 : Nat) (H' : AHeap) => K (.float .f64 r1) H'
  | _, _, _ => False
def S_impl_expWide : FSpec := { F := F_impl_expWide, quiet := true, tame := false }
theorem impl_expWide_vc (x : Nat) (H : AHeap) (K : Value → AHeap → Prop) : bodyL Try.prog E_impl_expWide Try.f184 [.float .f64 x] H K =
  (Br (flt .f64 4641240890982006784 x) (T_math_Inf 1 H fun (r1 : Nat) (H1 : AHeap) => K (.float .f64 r1) H1) (Br (flt .f64 x 13864612927836782592) (K (.float .f64 0) H) (loopK (exL Try.prog E_impl_expWide (cl (cl (cr (cl (cr (cr (cr (cr (bodyC Try.f184))))))))) 56 4 [(1, 16)]) [ud, ud, ud, .float .f64 (fdiv .f64 x 4643211215818981376), .float .f64 4607182418800017408, .float .f64 4622945017495814144, ud, ud, ud, ud, ud, ud, ud, ud, ud, ud, ud, ud, ud, ud, ud, ud, ud, ud, ud, ud, ud, ud, ud, ud, ud, ud] H (blockQ 1 (seqQ (exL Try.prog E_impl_expWide (cr (cr (cr (cr (cr (bodyC Try.f184)))))) 4 4 []) (retK Try.prog Try.f184 K)))))) := by kernel_rfl
abbrev impl_expWide_P1 (x : Nat) (p : Nat) (k : Nat)  : List Value := [ud, ud, ud, .float .f64 (fdiv .f64 x 4643211215818981376), .float .f64 p, .float .f64 k, ud, ud, ud, ud, ud, ud, ud, ud, ud, ud, ud, ud, ud, ud, ud, ud, ud, ud, ud, ud, ud, ud, ud, ud, ud, ud]
theorem impl_expWide_r1 (x : Nat) (p : Nat) (k : Nat)  (H : AHeap) (R : Post) : exL Try.prog E_impl_expWide (cl (cl (cr (cl (cr (cr (cr (cr (bodyC Try.f184))))))))) 56 4 [(1, 16)] (impl_expWide_P1 x p k) H R =
  (Br (fle .f64 4607182418800017408 k) (R .normal [ud, ud, ud, .float .f64 (fdiv .f64 x 4643211215818981376), .float .f64 (fadd .f64 4607182418800017408 (fdiv .f64 (fmul .f64 (fdiv .f64 x 4643211215818981376) p) k)), .float .f64 (fsub .f64 k 4607182418800017408), ud, ud, ud, ud, ud, ud, ud, ud, ud, ud, ud, ud, ud, ud, ud, ud, ud, ud, ud, ud, ud, ud, ud, ud, ud, ud] H) (R (.exit 1) [ud, ud, ud, ud, .float .f64 p, ud, ud, ud, ud, ud, ud, ud, ud, ud, ud, ud, ud, ud, ud, ud, ud, ud, ud, ud, ud, ud, ud, ud, ud, ud, ud, ud] H)) := by kernel_rfl
def impl_expWide_I1 (x : Nat) (Inv : Nat → Nat → Nat → AHeap → Prop) : Nat → List Value → AHeap → Prop := fun μ tm H => ∃ (p : Nat), ∃ (k : Nat), tm = (impl_expWide_P1 x p k) ∧ Inv μ p k H
theorem impl_expWide_L1 (x : Nat) {Q : Post} (Inv : Nat → Nat → Nat → AHeap → Prop) (ν : Nat) (p : Nat) (k : Nat)  (H : AHeap) (h0 : Inv ν p k H)
    (hs : ∀ (μ : Nat) (p : Nat) (k : Nat)  (H : AHeap), Inv μ p k H → exL Try.prog E_impl_expWide (cl (cl (cr (cl (cr (cr (cr (cr (bodyC Try.f184))))))))) 56 4 [(1, 16)] (impl_expWide_P1 x p k) H (loopQ (impl_expWide_I1 x Inv) μ Q)) : loopK (exL Try.prog E_impl_expWide (cl (cl (cr (cl (cr (cr (cr (cr (bodyC Try.f184))))))))) 56 4 [(1, 16)]) (impl_expWide_P1 x p k) H Q :=
  ⟨impl_expWide_I1 x Inv, ν, ⟨p, k, rfl, h0⟩, fun μ tm H h => by obtain ⟨p, k, rfl, hI⟩ := h; exact hs μ p k  H hI⟩
theorem impl_expWide_n1 {x : Nat} {Q : Post} {Inv : Nat → Nat → Nat → AHeap → Prop} {μ : Nat} (μ' : Nat) {p : Nat} {k : Nat}  {H : AHeap} (hm : μ' < μ) (hI : Inv μ' p k H) : loopQ (impl_expWide_I1 x Inv) μ Q .normal (impl_expWide_P1 x p k) H := ⟨μ', hm, p, k, rfl, hI⟩
theorem impl_expWide_x1_1 (p : Nat) (H : AHeap) (K : Value → AHeap → Prop)  {I : Nat → List Value → AHeap → Prop} {μ : Nat} : loopQ I μ (blockQ 1 (seqQ (exL Try.prog E_impl_expWide (cr (cr (cr (cr (cr (bodyC Try.f184)))))) 4 4 []) (retK Try.prog Try.f184 K))) (.exit 1) [ud, ud, ud, ud, .float .f64 p, ud, ud, ud, ud, ud, ud, ud, ud, ud, ud, ud, ud, ud, ud, ud, ud, ud, ud, ud, ud, ud, ud, ud, ud, ud, ud, ud] H =
  (loopK (exL Try.prog E_impl_expWide (cl (cl (cr (cl (cr (cr (cr (cr (cr (bodyC Try.f184)))))))))) 33554448 4 [(3, 16)]) [ud, ud, ud, ud, .float .f64 p, ud, ud, ud, ud, ud, ud, ud, ud, ud, ud, ud, ud, ud, ud, ud, ud, ud, ud, ud, ud, .int .i64 0, ud, ud, ud, ud, ud, ud] H (blockQ 3 (seqQ (exL Try.prog E_impl_expWide (cr (cr (cr (cr (cr (cr (bodyC Try.f184))))))) 4 4 []) (retK Try.prog Try.f184 K)))) := by kernel_rfl
abbrev impl_expWide_P2  (p_4 : Nat) (t25 : Int)  : List Value := [ud, ud, ud, ud, .float .f64 p_4, ud, ud, ud, ud, ud, ud, ud, ud, ud, ud, ud, ud, ud, ud, ud, ud, ud, ud, ud, ud, .int .i64 t25, ud, ud, ud, ud, ud, ud]
theorem impl_expWide_r2  (p_4 : Nat) (t25 : Int)  (H : AHeap) (R : Post) : exL Try.prog E_impl_expWide (cl (cl (cr (cl (cr (cr (cr (cr (cr (bodyC Try.f184)))))))))) 33554448 4 [(3, 16)] (impl_expWide_P2 p_4 t25) H R =
  (Br (decide ((t25 : Int) < 8)) (R .normal [ud, ud, ud, ud, .float .f64 (fmul .f64 p_4 p_4), ud, ud, ud, ud, ud, ud, ud, ud, ud, ud, ud, ud, ud, ud, ud, ud, ud, ud, ud, ud, .int .i64 (IntKind.wrap .i64 (t25 + 1)), ud, ud, ud, ud, ud, ud] H) (R (.exit 3) [ud, ud, ud, ud, .float .f64 p_4, ud, ud, ud, ud, ud, ud, ud, ud, ud, ud, ud, ud, ud, ud, ud, ud, ud, ud, ud, ud, ud, ud, ud, ud, ud, ud, ud] H)) := by kernel_rfl
def impl_expWide_I2  (Inv : Nat → Nat → Int → AHeap → Prop) : Nat → List Value → AHeap → Prop := fun μ tm H => ∃ (p_4 : Nat), ∃ (t25 : Int), tm = (impl_expWide_P2 p_4 t25) ∧ Inv μ p_4 t25 H
theorem impl_expWide_L2  {Q : Post} (Inv : Nat → Nat → Int → AHeap → Prop) (ν : Nat) (p_4 : Nat) (t25 : Int)  (H : AHeap) (h0 : Inv ν p_4 t25 H)
    (hs : ∀ (μ : Nat) (p_4 : Nat) (t25 : Int)  (H : AHeap), Inv μ p_4 t25 H → exL Try.prog E_impl_expWide (cl (cl (cr (cl (cr (cr (cr (cr (cr (bodyC Try.f184)))))))))) 33554448 4 [(3, 16)] (impl_expWide_P2 p_4 t25) H (loopQ (impl_expWide_I2  Inv) μ Q)) : loopK (exL Try.prog E_impl_expWide (cl (cl (cr (cl (cr (cr (cr (cr (cr (bodyC Try.f184)))))))))) 33554448 4 [(3, 16)]) (impl_expWide_P2 p_4 t25) H Q :=
  ⟨impl_expWide_I2  Inv, ν, ⟨p_4, t25, rfl, h0⟩, fun μ tm H h => by obtain ⟨p_4, t25, rfl, hI⟩ := h; exact hs μ p_4 t25  H hI⟩
theorem impl_expWide_n2  {Q : Post} {Inv : Nat → Nat → Int → AHeap → Prop} {μ : Nat} (μ' : Nat) {p_4 : Nat} {t25 : Int}  {H : AHeap} (hm : μ' < μ) (hI : Inv μ' p_4 t25 H) : loopQ (impl_expWide_I2  Inv) μ Q .normal (impl_expWide_P2 p_4 t25) H := ⟨μ', hm, p_4, t25, rfl, hI⟩
theorem impl_expWide_x2_3 (p_4 : Nat) (H : AHeap) (K : Value → AHeap → Prop)  {I : Nat → List Value → AHeap → Prop} {μ : Nat} : loopQ I μ (blockQ 3 (seqQ (exL Try.prog E_impl_expWide (cr (cr (cr (cr (cr (cr (bodyC Try.f184))))))) 4 4 []) (retK Try.prog Try.f184 K))) (.exit 3) [ud, ud, ud, ud, .float .f64 p_4, ud, ud, ud, ud, ud, ud, ud, ud, ud, ud, ud, ud, ud, ud, ud, ud, ud, ud, ud, ud, ud, ud, ud, ud, ud, ud, ud] H =
  (K (.float .f64 p_4) H) := by kernel_rfl
theorem E_impl_expWide_ok : ∀ g, FnOk Try.prog g (E_impl_expWide g) := FnOk.envOf (by
  intro x hx
  simp only [List.mem_cons, List.not_mem_nil, or_false] at hx
  subst hx; exact math_Inf_ok)
theorem o21 {P : Prop} (h : P := by first | omega | (have := down1 (by assumption) (by assumption); omega)) : P := h
set_option maxHeartbeats 1000000 in
theorem impl_expWide_main (x : Nat) (H : AHeap) (K : Value → AHeap → Prop) (h : T_impl_expWide x H fun (r1 : Nat) (H' : AHeap) => K (.float .f64 r1) H') : bodyL Try.prog E_impl_expWide Try.f184 [.float .f64 x] H K := by
  rw [impl_expWide_vc]
  have hk := h
  unfold T_impl_expWide at hk
  have e : (p_impl_expWide x) = _ := rfl
  have e := e.trans (p_impl_expWide_eq x)
  have g0 := Grow.refl H
  refine Br.intro (fun c_1 => ?_) (fun c_1 => ?_)
  · have e := e.trans (cond_t c_1)
    refine T_math_Inf_i ?_
    rw [e] at hk
    exact hk
  · have e := e.trans (cond_f c_1)
    refine Br.intro (fun c_2 => ?_) (fun c_2 => ?_)
    · have e := e.trans (cond_t c_2)
      rw [e] at hk
      exact hk
    · have e := e.trans (cond_f c_2)
      refine impl_expWide_L1 _ (fun (μ : Nat) (p : Nat) (k : Nat) (H_1 : AHeap) => H = H_1 ∧ isCnt k ∧ cnt k ≤ (μ : Int) ∧ p_impl_expWide x = p_impl_expWide_l1 x (μ + 1) p k) (Int.toNat (cnt 4622945017495814144)) _ _ H ?_ ?_
      · exact ⟨rfl, (by first | omega | (simp; done) | (simp; omega) | (first | exact isCnt.of (n := 12) (by decide) (by decide) | exact (down1 (by assumption) (by assumption)).1)), o3, e⟩
      · intro μ p k  H_1 hI
        obtain ⟨rfl, v_3, hμ, e⟩ := hI
        rw [impl_expWide_r1]
        have e := e.trans (p_impl_expWide_l1_s x μ p k)
        have l_4 := g0.1
        refine Br.intro (fun c_5 => ?_) (fun c_5 => ?_)
        · have e := e.trans (cond_t c_5)
          refine impl_expWide_n1 (μ - 1) o21 ⟨rfl, (by first | omega | (first | exact isCnt.of (n := 12) (by decide) (by decide) | exact (down1 (by assumption) (by assumption)).1) | (simp only [List.length_append, List.length_cons, List.length_nil, List.length_set]; done) | (simp only [List.length_append, List.length_cons, List.length_nil, List.length_set]; omega)), o21, (by rw [show μ - 1 + 1 = μ from by first | omega | (have := down1 (by assumption) (by assumption); omega)]; exact e)⟩
        · have e := e.trans (cond_f c_5)
          rw [impl_expWide_x1_1]
          refine impl_expWide_L2  (fun (μ2 : Nat) (p_4 : Nat) (t25 : Int) (H_2 : AHeap) => H = H_2 ∧ (0 : Int) ≤ t25 ∧ ((t25 ≤ 8 ∨ t25 ≤ (0 : Int))) ∧ 8 - t25 ≤ (μ2 : Int) ∧ p_impl_expWide x = p_impl_expWide_l2 x p k (fun (p_4 : Nat) (t25 : Int) => p_4) (μ2 + 1) p_4 t25) (Int.toNat (8 - (0 : Int))) _ _ H ?_ ?_
          · exact ⟨rfl, o6, o6, o3, e⟩
          · intro μ2 p_4 t25  H_2 hI
            obtain ⟨rfl, v_6, v_7, hμ, e⟩ := hI
            rw [impl_expWide_r2]
            have e := e.trans (p_impl_expWide_l2_s x p k (fun (p_4 : Nat) (t25 : Int) => p_4) μ2 p_4 t25)
            have l_8 := g0.1
            refine Br.intro (fun c_9 => ?_) (fun c_9 => ?_)
            · have e := e.trans (cond_t c_9)
              have c_9' := of_decide_eq_true c_9
              rw [show IntKind.wrap .i64 (t25 + 1) = (t25 + 1) from wrap64 o3 o3]
              refine impl_expWide_n2 (μ2 - 1) o12 ⟨rfl, o1, o1, o12, (by rw [show μ2 - 1 + 1 = μ2 from by first | omega]; exact e)⟩
            · have e := e.trans (cond_f c_9)
              have c_9' := of_decide_eq_false c_9
              rw [impl_expWide_x2_3]
              rw [e] at hk
              exact hk
theorem impl_expWide_ok : FnOk Try.prog 184 S_impl_expWide := by
  refine FnOk.body mix_ok E_impl_expWide_ok Try.func184 rfl (by kernel_rfl) (by kernel_rfl) ?_ ?_ ?_ ?_ ?_
  · intro args H K K' h hk
    simp only [S_impl_expWide] at *
    unfold F_impl_expWide at *
    split at hk
    · have k := hk
      exact h _ _ k
    · exact hk.elim
  · intro _ args H K hk
    simp only [S_impl_expWide] at *
    unfold F_impl_expWide at *
    split at hk
    · have k := hk
      exact ⟨_, k, fun K' k' => k'⟩
    · exact hk.elim
  · intro args H K hk
    simp only [S_impl_expWide] at *
    unfold F_impl_expWide at *
    split at hk
    · have k := hk
      exact ⟨_, _, k⟩
    · exact hk.elim
  · intro hq; cases hq
  · have mm := @impl_expWide_main
    have ml := fun (args : List Value) (H : AHeap) (K : Value → AHeap → Prop) => bodyL_body (P := Try.prog) (env := E_impl_expWide ) (fn := Try.f184) (args := args) (H := H) (K := K) E_impl_expWide_ok 
    revert mm ml
    generalize bodyK Try.prog E_impl_expWide Try.f184 = Q
    generalize bodyL Try.prog E_impl_expWide Try.f184 = QL
    intro mm ml args H K hk
    simp only [S_impl_expWide] at *
    unfold F_impl_expWide at *
    split at hk
    · exact ml _ H K (mm _ H K hk)
    · exact hk.elim

def p_impl_expOf (x : Nat) : Nat := (p_impl_expWide (fwide x))
def p_impl_expOf_eq := @p_impl_expOf.eq_1
def T_impl_expOf (x : Nat) (H : AHeap) (K : Nat → AHeap → Prop) : Prop := K (p_impl_expOf x) H
theorem T_impl_expOf_i {x : Nat} {H : AHeap} {K : Nat → AHeap → Prop} (h : K (p_impl_expOf x) H) : T_impl_expOf x H K := h

/-! impl_expOf: function 157 -/
def E_impl_expOf : Env := envOf [(184, S_impl_expWide)]
def F_impl_expOf : List Value → AHeap → (Value → AHeap → Prop) → Prop
  | [.float .f32 x], H, K => T_impl_expOf x H fun (r1 : Nat) (H' : AHeap) => K (.float .f64 r1) H'
  | _, _, _ => False
def S_impl_expOf : FSpec := { F := F_impl_expOf, quiet := true, tame := false }
theorem impl_expOf_vc (x : Nat) (H : AHeap) (K : Value → AHeap → Prop) : bodyL Try.prog E_impl_expOf Try.f157 [.float .f32 x] H K =
  (T_impl_expWide (fwide x) H fun (r1 : Nat) (H1 : AHeap) => K (.float .f64 r1) H1) := by kernel_rfl
theorem E_impl_expOf_ok : ∀ g, FnOk Try.prog g (E_impl_expOf g) := FnOk.envOf (by
  intro x hx
  simp only [List.mem_cons, List.not_mem_nil, or_false] at hx
  subst hx; exact impl_expWide_ok)
set_option maxHeartbeats 1000000 in
theorem impl_expOf_main (x : Nat) (H : AHeap) (K : Value → AHeap → Prop) (h : T_impl_expOf x H fun (r1 : Nat) (H' : AHeap) => K (.float .f64 r1) H') : bodyL Try.prog E_impl_expOf Try.f157 [.float .f32 x] H K := by
  rw [impl_expOf_vc]
  have hk := h
  unfold T_impl_expOf at hk
  have e : (p_impl_expOf x) = _ := rfl
  have e := e.trans (p_impl_expOf_eq x)
  have g0 := Grow.refl H
  refine T_impl_expWide_i ?_
  rw [e] at hk
  exact hk
theorem impl_expOf_ok : FnOk Try.prog 157 S_impl_expOf := by
  refine FnOk.body mix_ok E_impl_expOf_ok Try.func157 rfl (by kernel_rfl) (by kernel_rfl) ?_ ?_ ?_ ?_ ?_
  · intro args H K K' h hk
    simp only [S_impl_expOf] at *
    unfold F_impl_expOf at *
    split at hk
    · have k := hk
      exact h _ _ k
    · exact hk.elim
  · intro _ args H K hk
    simp only [S_impl_expOf] at *
    unfold F_impl_expOf at *
    split at hk
    · have k := hk
      exact ⟨_, k, fun K' k' => k'⟩
    · exact hk.elim
  · intro args H K hk
    simp only [S_impl_expOf] at *
    unfold F_impl_expOf at *
    split at hk
    · have k := hk
      exact ⟨_, _, k⟩
    · exact hk.elim
  · intro hq; cases hq
  · have mm := @impl_expOf_main
    have ml := fun (args : List Value) (H : AHeap) (K : Value → AHeap → Prop) => bodyL_body (P := Try.prog) (env := E_impl_expOf ) (fn := Try.f157) (args := args) (H := H) (K := K) E_impl_expOf_ok 
    revert mm ml
    generalize bodyK Try.prog E_impl_expOf Try.f157 = Q
    generalize bodyL Try.prog E_impl_expOf Try.f157 = QL
    intro mm ml args H K hk
    simp only [S_impl_expOf] at *
    unfold F_impl_expOf at *
    split at hk
    · exact ml _ H K (mm _ H K hk)
    · exact hk.elim

def p_impl_ExpNumber (x : Nat) : Nat := ((fnarrow (p_impl_expOf x)).getD 0)
def p_impl_ExpNumber_eq := @p_impl_ExpNumber.eq_1
def T_impl_ExpNumber (x : Nat) (H : AHeap) (K : Nat → AHeap → Prop) : Prop := fnarrow (p_impl_expOf x) ≠ none ∧ K (p_impl_ExpNumber x) H
theorem T_impl_ExpNumber_i {x : Nat} {H : AHeap} {K : Nat → AHeap → Prop} (h : fnarrow (p_impl_expOf x) ≠ none ∧ K (p_impl_ExpNumber x) H) : T_impl_ExpNumber x H K := h

/-! impl_ExpNumber: function 114 -/
def E_impl_ExpNumber : Env := envOf [(157, S_impl_expOf)]
def F_impl_ExpNumber : List Value → AHeap → (Value → AHeap → Prop) → Prop
  | [.float .f32 x], H, K => T_impl_ExpNumber x H fun (r1 : Nat) (H' : AHeap) => K (.float .f32 r1) H'
  | _, _, _ => False
def S_impl_ExpNumber : FSpec := { F := F_impl_ExpNumber, quiet := true, tame := false }
theorem impl_ExpNumber_vc (x : Nat) (H : AHeap) (K : Value → AHeap → Prop) : bodyL Try.prog E_impl_ExpNumber Try.f114 [.float .f32 x] H K =
  (T_impl_expOf x H fun (r1 : Nat) (H1 : AHeap) => ∃ x1 : Nat, fnarrow r1 = some x1 ∧ K (.float .f32 x1) H1) := by kernel_rfl
theorem E_impl_ExpNumber_ok : ∀ g, FnOk Try.prog g (E_impl_ExpNumber g) := FnOk.envOf (by
  intro x hx
  simp only [List.mem_cons, List.not_mem_nil, or_false] at hx
  subst hx; exact impl_expOf_ok)
set_option maxHeartbeats 1000000 in
theorem impl_ExpNumber_main (x : Nat) (H : AHeap) (K : Value → AHeap → Prop) (h : T_impl_ExpNumber x H fun (r1 : Nat) (H' : AHeap) => K (.float .f32 r1) H') : bodyL Try.prog E_impl_ExpNumber Try.f114 [.float .f32 x] H K := by
  rw [impl_ExpNumber_vc]
  obtain ⟨pr0, hk⟩ := h
  have e : (p_impl_ExpNumber x) = _ := rfl
  have e := e.trans (p_impl_ExpNumber_eq x)
  have g0 := Grow.refl H
  refine T_impl_expOf_i ?_
  refine ⟨_, opt_get (d := 0) (by assumption), ?_⟩
  rw [e] at hk
  exact hk
theorem impl_ExpNumber_ok : FnOk Try.prog 114 S_impl_ExpNumber := by
  refine FnOk.body mix_ok E_impl_ExpNumber_ok Try.func114 rfl (by kernel_rfl) (by kernel_rfl) ?_ ?_ ?_ ?_ ?_
  · intro args H K K' h hk
    simp only [S_impl_ExpNumber] at *
    unfold F_impl_ExpNumber at *
    split at hk
    · obtain ⟨pr0, k⟩ := hk
      exact ⟨pr0, h _ _ k⟩
    · exact hk.elim
  · intro _ args H K hk
    simp only [S_impl_ExpNumber] at *
    unfold F_impl_ExpNumber at *
    split at hk
    · obtain ⟨pr0, k⟩ := hk
      exact ⟨_, k, fun K' k' => ⟨pr0, k'⟩⟩
    · exact hk.elim
  · intro args H K hk
    simp only [S_impl_ExpNumber] at *
    unfold F_impl_ExpNumber at *
    split at hk
    · obtain ⟨pr0, k⟩ := hk
      exact ⟨_, _, k⟩
    · exact hk.elim
  · intro hq; cases hq
  · have mm := @impl_ExpNumber_main
    have ml := fun (args : List Value) (H : AHeap) (K : Value → AHeap → Prop) => bodyL_body (P := Try.prog) (env := E_impl_ExpNumber ) (fn := Try.f114) (args := args) (H := H) (K := K) E_impl_ExpNumber_ok 
    revert mm ml
    generalize bodyK Try.prog E_impl_ExpNumber Try.f114 = Q
    generalize bodyL Try.prog E_impl_ExpNumber Try.f114 = QL
    intro mm ml args H K hk
    simp only [S_impl_ExpNumber] at *
    unfold F_impl_ExpNumber at *
    split at hk
    · exact ml _ H K (mm _ H K hk)
    · exact hk.elim
def p_impl_isFinite64 (x : Nat) : Bool := feq .f64 (fsub .f64 x x) 0
def p_impl_isFinite64_eq := @p_impl_isFinite64.eq_1
def T_impl_isFinite64 (x : Nat) (H : AHeap) (K : Bool → AHeap → Prop) : Prop := K (p_impl_isFinite64 x) H

theorem T_impl_isFinite64_i {x : Nat} {H : AHeap} {K : Bool → AHeap → Prop} (h : K (p_impl_isFinite64 x) H) : T_impl_isFinite64 x H K := h
/-! impl_isFinite64: function 158 -/
def E_impl_isFinite64 : Env := envOf []
def F_impl_isFinite64 : List Value → AHeap → (Value → AHeap → Prop) → Prop
  | [.float .f64 x], H, K => T_impl_isFinite64 x H fun (r1 : Bool) (H' : AHeap) => K (.bool r1) H'
  | _, _, _ => False
def S_impl_isFinite64 : FSpec := { F := F_impl_isFinite64, quiet := true, tame := false }
theorem impl_isFinite64_vc (x : Nat) (H : AHeap) (K : Value → AHeap → Prop) : bodyL Try.prog E_impl_isFinite64 Try.f158 [.float .f64 x] H K =
  (K (.bool (feq .f64 (fsub .f64 x x) 0)) H) := by kernel_rfl
theorem E_impl_isFinite64_ok : ∀ g, FnOk Try.prog g (E_impl_isFinite64 g) := FnOk.envOf (by
  intro x hx; cases hx)
set_option maxHeartbeats 1000000 in
theorem impl_isFinite64_main (x : Nat) (H : AHeap) (K : Value → AHeap → Prop) (h : T_impl_isFinite64 x H fun (r1 : Bool) (H' : AHeap) => K (.bool r1) H') : bodyL Try.prog E_impl_isFinite64 Try.f158 [.float .f64 x] H K := by
  rw [impl_isFinite64_vc]
  unfold T_impl_isFinite64 p_impl_isFinite64 at h
  repeat' (first | exact h | (exfalso; simp_all; done) | (refine ⟨by decide, ?_⟩) | (refine Br.intro (fun hb => ?_) (fun hb => ?_) <;> (try simp only [hb, cond_true, cond_false, Bool.not_true, Bool.not_false] at h)))
theorem impl_isFinite64_ok : FnOk Try.prog 158 S_impl_isFinite64 := by
  refine FnOk.body mix_ok E_impl_isFinite64_ok Try.func158 rfl (by kernel_rfl) (by kernel_rfl) ?_ ?_ ?_ ?_ ?_
  · intro args H K K' h hk
    simp only [S_impl_isFinite64] at *
    unfold F_impl_isFinite64 at *
    split at hk
    · have k := hk
      exact h _ _ k
    · exact hk.elim
  · intro _ args H K hk
    simp only [S_impl_isFinite64] at *
    unfold F_impl_isFinite64 at *
    split at hk
    · have k := hk
      exact ⟨_, k, fun K' k' => k'⟩
    · exact hk.elim
  · intro args H K hk
    simp only [S_impl_isFinite64] at *
    unfold F_impl_isFinite64 at *
    split at hk
    · have k := hk
      exact ⟨_, _, k⟩
    · exact hk.elim
  · intro hq; cases hq
  · have mm := @impl_isFinite64_main
    have ml := fun (args : List Value) (H : AHeap) (K : Value → AHeap → Prop) => bodyL_body (P := Try.prog) (env := E_impl_isFinite64 ) (fn := Try.f158) (args := args) (H := H) (K := K) E_impl_isFinite64_ok 
    revert mm ml
    generalize bodyK Try.prog E_impl_isFinite64 Try.f158 = Q
    generalize bodyL Try.prog E_impl_isFinite64 Try.f158 = QL
    intro mm ml args H K hk
    simp only [S_impl_isFinite64] at *
    unfold F_impl_isFinite64 at *
    split at hk
    · exact ml _ H K (mm _ H K hk)
    · exact hk.elim
def T_math_Float64bits (x : Nat) (H : AHeap) (K : Int → AHeap → Prop) : Prop := ∀ b : Nat, cn .f64 b = cn .f64 x → K (b : Int) H
def F_math_Float64bits : List Value → AHeap → (Value → AHeap → Prop) → Prop
  | [.float .f64 x], H, K => T_math_Float64bits x H fun r1 H' => K (.int .u64 r1) H'
  | _, _, _ => False
def S_math_Float64bits : FSpec := { F := F_math_Float64bits, quiet := false }
theorem F_math_Float64bits_o {args : List Value} {H : AHeap} {K : Value → AHeap → Prop} (h : S_math_Float64bits.F args H K) : ∃ x, args = [.float .f64 x] ∧ ∀ b : Nat, cn .f64 b = cn .f64 x → K (.int .u64 (b : Int)) H := by
  simp only [S_math_Float64bits] at h
  unfold F_math_Float64bits at h
  split at h
  · exact ⟨_, rfl, h⟩
  · exact h.elim
theorem math_Float64bits_ok : FnOk Try.prog 186 S_math_Float64bits := by
  refine FnOk.ext rfl ?_ ?_ ?_ ?_
  · intro args H K K' h hk
    obtain ⟨x, rfl, k⟩ := F_math_Float64bits_o hk
    exact fun b hb => h _ _ (k b hb)
  · intro h; cases h
  · intro args H K hk
    obtain ⟨x, rfl, k⟩ := F_math_Float64bits_o hk
    exact ⟨_, _, k x rfl⟩
  · intro ρ w args args' H K ha hk
    obtain ⟨x, rfl, k⟩ := F_math_Float64bits_o hk
    obtain ⟨y, ys, rfl, h3, h4⟩ := ha.uncons
    obtain rfl := h4.unnil
    cases h3 with
    | float k0 a b hab =>
      refine ⟨_, .int .u64 b, w, ?_, .refl w, .int .u64 _, k b (by rw [hab, cn_cn])⟩
      have := run_callFunc_extern (e := Extern.MathFloatBits.float64bits) Try.func186 (by kernel_rfl) (by kernel_rfl) (by kernel_rfl) (by kernel_rfl) #[.float .f64 b] w
      rw [this]; rfl

def p_math_Abs (x : Nat) : Nat := cn .f64 (cn .f64 x % 9223372036854775808)
def T_math_Abs (x : Nat) (H : AHeap) (K : Nat → AHeap → Prop) : Prop := K (p_math_Abs x) H
theorem T_math_Abs_i {x : Nat} {H : AHeap} {K : Nat → AHeap → Prop} (h : K (p_math_Abs x) H) : T_math_Abs x H K := h
/-! math_Abs: function 160 -/
def E_math_Abs : Env := envOf [(186, S_math_Float64bits), (185, S_math_Float64frombits)]
def F_math_Abs : List Value → AHeap → (Value → AHeap → Prop) → Prop
  | [.float .f64 x], H, K => T_math_Abs x H fun (r1 : Nat) (H' : AHeap) => K (.float .f64 r1) H'
  | _, _, _ => False
def S_math_Abs : FSpec := { F := F_math_Abs, quiet := true, tame := false }
theorem math_Abs_vc (x : Nat) (H : AHeap) (K : Value → AHeap → Prop) : bodyL Try.prog E_math_Abs Try.f160 [.float .f64 x] H K =
  (T_math_Float64bits x H fun (r1 : Int) (H1 : AHeap) => T_math_Float64frombits (IntKind.wrap .u64 (((BitVec.ofInt (IntKind.bits .u64) r1 &&& ~~~(BitVec.ofInt (IntKind.bits .u64) 9223372036854775808)).toNat : Int))) H1 fun (r2 : Nat) (H2 : AHeap) => K (.float .f64 r2) H2) := by kernel_rfl
theorem E_math_Abs_ok : ∀ g, FnOk Try.prog g (E_math_Abs g) := FnOk.envOf (by
  intro x hx
  simp only [List.mem_cons, List.not_mem_nil, or_false] at hx
  rcases hx with rfl | rfl
  · exact math_Float64bits_ok
  · exact math_Float64frombits_ok)
theorem abs_bits (b : Nat) : (IntKind.wrap .u64 (((BitVec.ofInt (IntKind.bits .u64) (b : Int) &&& ~~~(BitVec.ofInt (IntKind.bits .u64) 9223372036854775808)).toNat : Int))).toNat = b % 9223372036854775808 := by
  have e : (BitVec.ofInt (IntKind.bits .u64) (b : Int) &&& ~~~(BitVec.ofInt (IntKind.bits .u64) 9223372036854775808)).toNat = b % 9223372036854775808 := by
    show (BitVec.ofInt 64 (b : Int) &&& ~~~(BitVec.ofInt 64 9223372036854775808)).toNat = _
    have h1 : (~~~(BitVec.ofInt 64 9223372036854775808)).toNat = 2 ^ 63 - 1 := by decide
    have h2 : (BitVec.ofInt 64 (b : Int)).toNat = b % 2 ^ 64 := by simp
    rw [BitVec.toNat_and, h1, h2, Nat.and_two_pow_sub_one_eq_mod]
    omega
  rw [e, wrapu_id o3 o3]
  omega
theorem abs_cn {b x : Nat} (h : cn .f64 b = cn .f64 x) : cn .f64 (b % 9223372036854775808) = cn .f64 (cn .f64 x % 9223372036854775808) := by
  rw [← h]
  cases hn : (FloatKind.f64.decode b).isNaN
  · rw [cn_of_not_nan hn]
  · rw [cn_of_nan hn]
    have : (FloatKind.f64.decode (b % 9223372036854775808)).isNaN = true := by
      rw [nan_iff] at hn ⊢
      have e1 : FloatKind.f64.format.signWeight = 9223372036854775808 := by decide
      rw [e1] at hn ⊢
      rw [Nat.mod_mod]; exact hn
    rw [cn_of_nan this]
    decide +kernel
set_option maxHeartbeats 1000000 in
theorem math_Abs_main (x : Nat) (H : AHeap) (K : Value → AHeap → Prop) (h : T_math_Abs x H fun (r1 : Nat) (H' : AHeap) => K (.float .f64 r1) H') : bodyL Try.prog E_math_Abs Try.f160 [.float .f64 x] H K := by
  rw [math_Abs_vc]
  intro b hb
  show K (.float .f64 (cn .f64 (IntKind.wrap .u64 (((BitVec.ofInt (IntKind.bits .u64) (b : Int) &&& ~~~(BitVec.ofInt (IntKind.bits .u64) 9223372036854775808)).toNat : Int))).toNat)) H
  rw [abs_bits, abs_cn hb]
  exact h
theorem math_Abs_ok : FnOk Try.prog 160 S_math_Abs := by
  refine FnOk.body mix_ok E_math_Abs_ok Try.func160 rfl (by kernel_rfl) (by kernel_rfl) ?_ ?_ ?_ ?_ ?_
  · intro args H K K' h hk
    simp only [S_math_Abs] at *
    unfold F_math_Abs at *
    split at hk
    · have k := hk
      exact h _ _ k
    · exact hk.elim
  · intro _ args H K hk
    simp only [S_math_Abs] at *
    unfold F_math_Abs at *
    split at hk
    · have k := hk
      exact ⟨_, k, fun K' k' => k'⟩
    · exact hk.elim
  · intro args H K hk
    simp only [S_math_Abs] at *
    unfold F_math_Abs at *
    split at hk
    · have k := hk
      exact ⟨_, _, k⟩
    · exact hk.elim
  · intro hq; cases hq
  · have mm := @math_Abs_main
    have ml := fun (args : List Value) (H : AHeap) (K : Value → AHeap → Prop) => bodyL_body (P := Try.prog) (env := E_math_Abs ) (fn := Try.f160) (args := args) (H := H) (K := K) E_math_Abs_ok 
    revert mm ml
    generalize bodyK Try.prog E_math_Abs Try.f160 = Q
    generalize bodyL Try.prog E_math_Abs Try.f160 = QL
    intro mm ml args H K hk
    simp only [S_math_Abs] at *
    unfold F_math_Abs at *
    split at hk
    · exact ml _ H K (mm _ H K hk)
    · exact hk.elim

def p_impl_fraction (x : Nat) : Nat := (bif flt .f64 (fsub .f64 x (FloatKind.nearest .f64 (((ftoi .f64 x .i64).getD 0)))) 0 then fadd .f64 (fsub .f64 x (FloatKind.nearest .f64 (((ftoi .f64 x .i64).getD 0)))) 4607182418800017408 else fsub .f64 x (FloatKind.nearest .f64 (((ftoi .f64 x .i64).getD 0))))
def p_impl_fraction_eq := @p_impl_fraction.eq_1
def T_impl_fraction (x : Nat) (H : AHeap) (K : Nat → AHeap → Prop) : Prop := Bd .f64 (52 + lp .f64) x ∧ K (p_impl_fraction x) H
theorem T_impl_fraction_i {x : Nat} {H : AHeap} {K : Nat → AHeap → Prop} (h : Bd .f64 (52 + lp .f64) x ∧ K (p_impl_fraction x) H) : T_impl_fraction x H K := h
theorem impl_fraction_bd (x : Nat) (h : Bd .f64 (52 + lp .f64) x) : Bd .f64 (lp .f64) (p_impl_fraction x) := by
  rw [p_impl_fraction_eq]
  obtain ⟨n, hn, h1, h2⟩ := fract h
  rw [hn]
  show Bd .f64 (lp .f64) (bif flt .f64 (fsub .f64 x (FloatKind.nearest .f64 n)) 0 then _ else _)
  cases hc : flt .f64 (fsub .f64 x (FloatKind.nearest .f64 n)) 0
  · exact h1
  · exact h2 hc
/-! impl_fraction: function 161 -/
def E_impl_fraction : Env := envOf []
def F_impl_fraction : List Value → AHeap → (Value → AHeap → Prop) → Prop
  | [.float .f64 x], H, K => T_impl_fraction x H fun (r1 : Nat) (H' : AHeap) => K (.float .f64 r1) H'
  | _, _, _ => False
def S_impl_fraction : FSpec := { F := F_impl_fraction, quiet := true, tame := false }
theorem impl_fraction_vc (x : Nat) (H : AHeap) (K : Value → AHeap → Prop) : bodyL Try.prog E_impl_fraction Try.f161 [.float .f64 x] H K =
  (∃ n1 : Int, ftoi .f64 x .i64 = some n1 ∧ Br (flt .f64 (fsub .f64 x (FloatKind.nearest .f64 n1)) 0) (K (.float .f64 (fadd .f64 (fsub .f64 x (FloatKind.nearest .f64 n1)) 4607182418800017408)) H) (K (.float .f64 (fsub .f64 x (FloatKind.nearest .f64 n1))) H)) := by kernel_rfl
theorem E_impl_fraction_ok : ∀ g, FnOk Try.prog g (E_impl_fraction g) := FnOk.envOf (by
  intro x hx; cases hx)
set_option maxHeartbeats 1000000 in
theorem impl_fraction_main (x : Nat) (H : AHeap) (K : Value → AHeap → Prop) (h : T_impl_fraction x H fun (r1 : Nat) (H' : AHeap) => K (.float .f64 r1) H') : bodyL Try.prog E_impl_fraction Try.f161 [.float .f64 x] H K := by
  rw [impl_fraction_vc]
  obtain ⟨pr0, hk⟩ := h
  have e : (p_impl_fraction x) = _ := rfl
  have e := e.trans (p_impl_fraction_eq x)
  have g0 := Grow.refl H
  refine ⟨_, opt_get (d := 0) (by exact fract_ne (by assumption)), ?_⟩
  refine Br.intro (fun c_1 => ?_) (fun c_1 => ?_)
  · have e := e.trans (cond_t c_1)
    rw [e] at hk
    exact hk
  · have e := e.trans (cond_f c_1)
    rw [e] at hk
    exact hk
theorem impl_fraction_ok : FnOk Try.prog 161 S_impl_fraction := by
  refine FnOk.body mix_ok E_impl_fraction_ok Try.func161 rfl (by kernel_rfl) (by kernel_rfl) ?_ ?_ ?_ ?_ ?_
  · intro args H K K' h hk
    simp only [S_impl_fraction] at *
    unfold F_impl_fraction at *
    split at hk
    · obtain ⟨pr0, k⟩ := hk
      exact ⟨pr0, h _ _ k⟩
    · exact hk.elim
  · intro _ args H K hk
    simp only [S_impl_fraction] at *
    unfold F_impl_fraction at *
    split at hk
    · obtain ⟨pr0, k⟩ := hk
      exact ⟨_, k, fun K' k' => ⟨pr0, k'⟩⟩
    · exact hk.elim
  · intro args H K hk
    simp only [S_impl_fraction] at *
    unfold F_impl_fraction at *
    split at hk
    · obtain ⟨pr0, k⟩ := hk
      exact ⟨_, _, k⟩
    · exact hk.elim
  · intro hq; cases hq
  · have mm := @impl_fraction_main
    have ml := fun (args : List Value) (H : AHeap) (K : Value → AHeap → Prop) => bodyL_body (P := Try.prog) (env := E_impl_fraction ) (fn := Try.f161) (args := args) (H := H) (K := K) E_impl_fraction_ok 
    revert mm ml
    generalize bodyK Try.prog E_impl_fraction Try.f161 = Q
    generalize bodyL Try.prog E_impl_fraction Try.f161 = QL
    intro mm ml args H K hk
    simp only [S_impl_fraction] at *
    unfold F_impl_fraction at *
    split at hk
    · exact ml _ H K (mm _ H K hk)
    · exact hk.elim

def p_impl_sine_l1 (x : Nat) : Nat → Nat → Nat → Nat
  | 0, _, _ => 0
  | μ + 1, p, k => (bif fle .f64 4607182418800017408 k then (p_impl_sine_l1 x μ (fsub .f64 4607182418800017408 (fdiv .f64 (fmul .f64 (fmul .f64 (fmul .f64 (fsub .f64 4602678819172646912 (fsub .f64 (p_impl_fraction x) 4602678819172646912)) 4618760256179416344) (fmul .f64 (fsub .f64 4602678819172646912 (fsub .f64 (p_impl_fraction x) 4602678819172646912)) 4618760256179416344)) p) (fmul .f64 (fmul .f64 4611686018427387904 k) (fadd .f64 (fmul .f64 4611686018427387904 k) 4607182418800017408)))) (fsub .f64 k 4607182418800017408)) else (bif fle .f64 4602678819172646912 (p_impl_fraction x) then fneg .f64 (fmul .f64 (fmul .f64 (fsub .f64 4602678819172646912 (fsub .f64 (p_impl_fraction x) 4602678819172646912)) 4618760256179416344) p) else fmul .f64 (fmul .f64 (fsub .f64 4602678819172646912 (fsub .f64 (p_impl_fraction x) 4602678819172646912)) 4618760256179416344) p))
def p_impl_sine_l1_s := fun x μ p k => @p_impl_sine_l1.eq_2 x p k μ
def p_impl_sine_l1b (x : Nat) : Nat → Nat → Nat → Nat
  | 0, _, _ => 0
  | μ + 1, p, k => (bif fle .f64 4607182418800017408 k then (p_impl_sine_l1b x μ (fsub .f64 4607182418800017408 (fdiv .f64 (fmul .f64 (fmul .f64 (fmul .f64 (fsub .f64 (p_impl_fraction x) 4602678819172646912) 4618760256179416344) (fmul .f64 (fsub .f64 (p_impl_fraction x) 4602678819172646912) 4618760256179416344)) p) (fmul .f64 (fmul .f64 4611686018427387904 k) (fadd .f64 (fmul .f64 4611686018427387904 k) 4607182418800017408)))) (fsub .f64 k 4607182418800017408)) else (bif fle .f64 4602678819172646912 (p_impl_fraction x) then fneg .f64 (fmul .f64 (fmul .f64 (fsub .f64 (p_impl_fraction x) 4602678819172646912) 4618760256179416344) p) else fmul .f64 (fmul .f64 (fsub .f64 (p_impl_fraction x) 4602678819172646912) 4618760256179416344) p))
def p_impl_sine_l1b_s := fun x μ p k => @p_impl_sine_l1b.eq_2 x p k μ
def p_impl_sine_l1c (x : Nat) : Nat → Nat → Nat → Nat
  | 0, _, _ => 0
  | μ + 1, p, k => (bif fle .f64 4607182418800017408 k then (p_impl_sine_l1c x μ (fsub .f64 4607182418800017408 (fdiv .f64 (fmul .f64 (fmul .f64 (fmul .f64 (fsub .f64 4602678819172646912 (p_impl_fraction x)) 4618760256179416344) (fmul .f64 (fsub .f64 4602678819172646912 (p_impl_fraction x)) 4618760256179416344)) p) (fmul .f64 (fmul .f64 4611686018427387904 k) (fadd .f64 (fmul .f64 4611686018427387904 k) 4607182418800017408)))) (fsub .f64 k 4607182418800017408)) else (bif fle .f64 4602678819172646912 (p_impl_fraction x) then fneg .f64 (fmul .f64 (fmul .f64 (fsub .f64 4602678819172646912 (p_impl_fraction x)) 4618760256179416344) p) else fmul .f64 (fmul .f64 (fsub .f64 4602678819172646912 (p_impl_fraction x)) 4618760256179416344) p))
def p_impl_sine_l1c_s := fun x μ p k => @p_impl_sine_l1c.eq_2 x p k μ
def p_impl_sine_l1d (x : Nat) : Nat → Nat → Nat → Nat
  | 0, _, _ => 0
  | μ + 1, p, k => (bif fle .f64 4607182418800017408 k then (p_impl_sine_l1d x μ (fsub .f64 4607182418800017408 (fdiv .f64 (fmul .f64 (fmul .f64 (fmul .f64 (p_impl_fraction x) 4618760256179416344) (fmul .f64 (p_impl_fraction x) 4618760256179416344)) p) (fmul .f64 (fmul .f64 4611686018427387904 k) (fadd .f64 (fmul .f64 4611686018427387904 k) 4607182418800017408)))) (fsub .f64 k 4607182418800017408)) else (bif fle .f64 4602678819172646912 (p_impl_fraction x) then fneg .f64 (fmul .f64 (fmul .f64 (p_impl_fraction x) 4618760256179416344) p) else fmul .f64 (fmul .f64 (p_impl_fraction x) 4618760256179416344) p))
def p_impl_sine_l1d_s := fun x μ p k => @p_impl_sine_l1d.eq_2 x p k μ
def p_impl_sine (x : Nat) : Nat := (bif fle .f64 4602678819172646912 (p_impl_fraction x) then (bif flt .f64 4598175219545276416 (fsub .f64 (p_impl_fraction x) 4602678819172646912) then (p_impl_sine_l1 x (Int.toNat (cnt 4620693217682128896) + 1) 4607182418800017408 4620693217682128896) else (p_impl_sine_l1b x (Int.toNat (cnt 4620693217682128896) + 1) 4607182418800017408 4620693217682128896)) else (bif flt .f64 4598175219545276416 (p_impl_fraction x) then (p_impl_sine_l1c x (Int.toNat (cnt 4620693217682128896) + 1) 4607182418800017408 4620693217682128896) else (p_impl_sine_l1d x (Int.toNat (cnt 4620693217682128896) + 1) 4607182418800017408 4620693217682128896)))
def p_impl_sine_eq := @p_impl_sine.eq_1
def T_impl_sine (x : Nat) (H : AHeap) (K : Nat → AHeap → Prop) : Prop := Bd .f64 (52 + lp .f64) x ∧ K (p_impl_sine x) H
theorem T_impl_sine_i {x : Nat} {H : AHeap} {K : Nat → AHeap → Prop} (h : Bd .f64 (52 + lp .f64) x ∧ K (p_impl_sine x) H) : T_impl_sine x H K := h
theorem impl_sine_l1_eq (x : Nat) : ∀ μ p k : Nat, p_impl_sine_l1 x μ p k = sinG (fmul .f64 (fsub .f64 4602678819172646912 (fsub .f64 (p_impl_fraction x) 4602678819172646912)) 4618760256179416344) (fle .f64 4602678819172646912 (p_impl_fraction x)) μ p k := by
  intro μ; induction μ with
  | zero => intro p k; rfl
  | succ μ ih => intro p k; rw [p_impl_sine_l1_s, sinG, ih]
theorem impl_sine_l1b_eq (x : Nat) : ∀ μ p k : Nat, p_impl_sine_l1b x μ p k = sinG (fmul .f64 (fsub .f64 (p_impl_fraction x) 4602678819172646912) 4618760256179416344) (fle .f64 4602678819172646912 (p_impl_fraction x)) μ p k := by
  intro μ; induction μ with
  | zero => intro p k; rfl
  | succ μ ih => intro p k; rw [p_impl_sine_l1b_s, sinG, ih]
theorem impl_sine_l1c_eq (x : Nat) : ∀ μ p k : Nat, p_impl_sine_l1c x μ p k = sinG (fmul .f64 (fsub .f64 4602678819172646912 (p_impl_fraction x)) 4618760256179416344) (fle .f64 4602678819172646912 (p_impl_fraction x)) μ p k := by
  intro μ; induction μ with
  | zero => intro p k; rfl
  | succ μ ih => intro p k; rw [p_impl_sine_l1c_s, sinG, ih]
theorem impl_sine_l1d_eq (x : Nat) : ∀ μ p k : Nat, p_impl_sine_l1d x μ p k = sinG (fmul .f64 (p_impl_fraction x) 4618760256179416344) (fle .f64 4602678819172646912 (p_impl_fraction x)) μ p k := by
  intro μ; induction μ with
  | zero => intro p k; rfl
  | succ μ ih => intro p k; rw [p_impl_sine_l1d_s, sinG, ih]
theorem cnt8 : Int.toNat (cnt 4620693217682128896) + 1 = 9 := by decide +kernel
theorem impl_sine_val (x : Nat) : p_impl_sine x = sineOf (p_impl_fraction x) := by
  rw [p_impl_sine_eq, cnt8, eight_near, impl_sine_l1_eq, impl_sine_l1b_eq, impl_sine_l1c_eq, impl_sine_l1d_eq]
  simp only [sin_int _ _ _ _ 8 o23 o23]
  exact sineOf_bif _
theorem impl_sine_bd (x : Nat) (h : Bd .f64 (52 + lp .f64) x) : Bd .f64 1140 (p_impl_sine x) := by
  rw [impl_sine_val]; exact sineOf_bd (impl_fraction_bd x h)
/-! impl_sine: function 162 -/
def E_impl_sine : Env := envOf [(161, S_impl_fraction)]
def F_impl_sine : List Value → AHeap → (Value → AHeap → Prop) → Prop
  | [.float .f64 x], H, K => T_impl_sine x H fun (r1 : Nat) (H' : AHeap) => K (.float .f64 r1) H'
  | _, _, _ => False
def S_impl_sine : FSpec := { F := F_impl_sine, quiet := true, tame := false }
theorem impl_sine_vc (x : Nat) (H : AHeap) (K : Value → AHeap → Prop) : bodyL Try.prog E_impl_sine Try.f162 [.float .f64 x] H K =
  (T_impl_fraction x H fun (r1 : Nat) (H1 : AHeap) => Br (fle .f64 4602678819172646912 r1) (Br (flt .f64 4598175219545276416 (fsub .f64 r1 4602678819172646912)) (loopK (exL Try.prog E_impl_sine (cl (cl (cr (cl (cr (cr (cr (cr (cr (cr (cr (cr (bodyC Try.f162))))))))))))) 496 4 [(0, 176)]) [ud, ud, ud, ud, .bool (fle .f64 4602678819172646912 r1), .float .f64 (fmul .f64 (fsub .f64 4602678819172646912 (fsub .f64 r1 4602678819172646912)) 4618760256179416344), .float .f64 (fmul .f64 (fmul .f64 (fsub .f64 4602678819172646912 (fsub .f64 r1 4602678819172646912)) 4618760256179416344) (fmul .f64 (fsub .f64 4602678819172646912 (fsub .f64 r1 4602678819172646912)) 4618760256179416344)), .float .f64 4607182418800017408, .float .f64 4620693217682128896, ud, ud, ud, ud, ud, ud, ud, ud, ud, ud, ud, ud, ud, ud, ud, ud, ud, ud, ud, ud, ud, ud, ud, ud, ud, ud, ud, ud, ud, ud, ud, ud, ud, ud, ud, ud, ud, ud, ud] H1 (blockQ 0 (seqQ (exL Try.prog E_impl_sine (cr (cr (cr (cr (cr (cr (cr (cr (cr (bodyC Try.f162)))))))))) 4 4 []) (retK Try.prog Try.f162 K)))) (loopK (exL Try.prog E_impl_sine (cl (cl (cr (cl (cr (cr (cr (cr (cr (cr (cr (cr (bodyC Try.f162))))))))))))) 496 4 [(0, 176)]) [ud, ud, ud, ud, .bool (fle .f64 4602678819172646912 r1), .float .f64 (fmul .f64 (fsub .f64 r1 4602678819172646912) 4618760256179416344), .float .f64 (fmul .f64 (fmul .f64 (fsub .f64 r1 4602678819172646912) 4618760256179416344) (fmul .f64 (fsub .f64 r1 4602678819172646912) 4618760256179416344)), .float .f64 4607182418800017408, .float .f64 4620693217682128896, ud, ud, ud, ud, ud, ud, ud, ud, ud, ud, ud, ud, ud, ud, ud, ud, ud, ud, ud, ud, ud, ud, ud, ud, ud, ud, ud, ud, ud, ud, ud, ud, ud, ud, ud, ud, ud, ud, ud] H1 (blockQ 0 (seqQ (exL Try.prog E_impl_sine (cr (cr (cr (cr (cr (cr (cr (cr (cr (bodyC Try.f162)))))))))) 4 4 []) (retK Try.prog Try.f162 K))))) (Br (flt .f64 4598175219545276416 r1) (loopK (exL Try.prog E_impl_sine (cl (cl (cr (cl (cr (cr (cr (cr (cr (cr (cr (cr (bodyC Try.f162))))))))))))) 496 4 [(0, 176)]) [ud, ud, ud, ud, .bool (fle .f64 4602678819172646912 r1), .float .f64 (fmul .f64 (fsub .f64 4602678819172646912 r1) 4618760256179416344), .float .f64 (fmul .f64 (fmul .f64 (fsub .f64 4602678819172646912 r1) 4618760256179416344) (fmul .f64 (fsub .f64 4602678819172646912 r1) 4618760256179416344)), .float .f64 4607182418800017408, .float .f64 4620693217682128896, ud, ud, ud, ud, ud, ud, ud, ud, ud, ud, ud, ud, ud, ud, ud, ud, ud, ud, ud, ud, ud, ud, ud, ud, ud, ud, ud, ud, ud, ud, ud, ud, ud, ud, ud, ud, ud, ud, ud] H1 (blockQ 0 (seqQ (exL Try.prog E_impl_sine (cr (cr (cr (cr (cr (cr (cr (cr (cr (bodyC Try.f162)))))))))) 4 4 []) (retK Try.prog Try.f162 K)))) (loopK (exL Try.prog E_impl_sine (cl (cl (cr (cl (cr (cr (cr (cr (cr (cr (cr (cr (bodyC Try.f162))))))))))))) 496 4 [(0, 176)]) [ud, ud, ud, ud, .bool (fle .f64 4602678819172646912 r1), .float .f64 (fmul .f64 r1 4618760256179416344), .float .f64 (fmul .f64 (fmul .f64 r1 4618760256179416344) (fmul .f64 r1 4618760256179416344)), .float .f64 4607182418800017408, .float .f64 4620693217682128896, ud, ud, ud, ud, ud, ud, ud, ud, ud, ud, ud, ud, ud, ud, ud, ud, ud, ud, ud, ud, ud, ud, ud, ud, ud, ud, ud, ud, ud, ud, ud, ud, ud, ud, ud, ud, ud, ud, ud] H1 (blockQ 0 (seqQ (exL Try.prog E_impl_sine (cr (cr (cr (cr (cr (cr (cr (cr (cr (bodyC Try.f162)))))))))) 4 4 []) (retK Try.prog Try.f162 K)))))) := by kernel_rfl
abbrev impl_sine_P1 (r1 : Nat) (z1_5 : Nat) (z1_6 : Nat) (p : Nat) (k : Nat)  : List Value := [ud, ud, ud, ud, .bool (fle .f64 4602678819172646912 r1), .float .f64 z1_5, .float .f64 z1_6, .float .f64 p, .float .f64 k, ud, ud, ud, ud, ud, ud, ud, ud, ud, ud, ud, ud, ud, ud, ud, ud, ud, ud, ud, ud, ud, ud, ud, ud, ud, ud, ud, ud, ud, ud, ud, ud, ud, ud, ud, ud, ud, ud, ud]
theorem impl_sine_r1 (r1 : Nat) (z1_5 : Nat) (z1_6 : Nat) (p : Nat) (k : Nat)  (H : AHeap) (R : Post) : exL Try.prog E_impl_sine (cl (cl (cr (cl (cr (cr (cr (cr (cr (cr (cr (cr (bodyC Try.f162))))))))))))) 496 4 [(0, 176)] (impl_sine_P1 r1 z1_5 z1_6 p k) H R =
  (Br (fle .f64 4607182418800017408 k) (R .normal [ud, ud, ud, ud, .bool (fle .f64 4602678819172646912 r1), .float .f64 z1_5, .float .f64 z1_6, .float .f64 (fsub .f64 4607182418800017408 (fdiv .f64 (fmul .f64 z1_6 p) (fmul .f64 (fmul .f64 4611686018427387904 k) (fadd .f64 (fmul .f64 4611686018427387904 k) 4607182418800017408)))), .float .f64 (fsub .f64 k 4607182418800017408), ud, ud, ud, ud, ud, ud, ud, ud, ud, ud, ud, ud, ud, ud, ud, ud, ud, ud, ud, ud, ud, ud, ud, ud, ud, ud, ud, ud, ud, ud, ud, ud, ud, ud, ud, ud, ud, ud, ud] H) (R (.exit 0) [ud, ud, ud, ud, .bool (fle .f64 4602678819172646912 r1), .float .f64 z1_5, ud, .float .f64 p, ud, ud, ud, ud, ud, ud, ud, ud, ud, ud, ud, ud, ud, ud, ud, ud, ud, ud, ud, ud, ud, ud, ud, ud, ud, ud, ud, ud, ud, ud, ud, ud, ud, ud, ud, ud, ud, ud, ud, ud] H)) := by kernel_rfl
def impl_sine_I1 (r1 : Nat) (z1_5 : Nat) (z1_6 : Nat) (Inv : Nat → Nat → Nat → AHeap → Prop) : Nat → List Value → AHeap → Prop := fun μ tm H => ∃ (p : Nat), ∃ (k : Nat), tm = (impl_sine_P1 r1 z1_5 z1_6 p k) ∧ Inv μ p k H
theorem impl_sine_L1 (r1 : Nat) (z1_5 : Nat) (z1_6 : Nat) {Q : Post} (Inv : Nat → Nat → Nat → AHeap → Prop) (ν : Nat) (p : Nat) (k : Nat)  (H : AHeap) (h0 : Inv ν p k H)
    (hs : ∀ (μ : Nat) (p : Nat) (k : Nat)  (H : AHeap), Inv μ p k H → exL Try.prog E_impl_sine (cl (cl (cr (cl (cr (cr (cr (cr (cr (cr (cr (cr (bodyC Try.f162))))))))))))) 496 4 [(0, 176)] (impl_sine_P1 r1 z1_5 z1_6 p k) H (loopQ (impl_sine_I1 r1 z1_5 z1_6 Inv) μ Q)) : loopK (exL Try.prog E_impl_sine (cl (cl (cr (cl (cr (cr (cr (cr (cr (cr (cr (cr (bodyC Try.f162))))))))))))) 496 4 [(0, 176)]) (impl_sine_P1 r1 z1_5 z1_6 p k) H Q :=
  ⟨impl_sine_I1 r1 z1_5 z1_6 Inv, ν, ⟨p, k, rfl, h0⟩, fun μ tm H h => by obtain ⟨p, k, rfl, hI⟩ := h; exact hs μ p k  H hI⟩
theorem impl_sine_n1 {r1 : Nat} {z1_5 : Nat} {z1_6 : Nat} {Q : Post} {Inv : Nat → Nat → Nat → AHeap → Prop} {μ : Nat} (μ' : Nat) {p : Nat} {k : Nat}  {H : AHeap} (hm : μ' < μ) (hI : Inv μ' p k H) : loopQ (impl_sine_I1 r1 z1_5 z1_6 Inv) μ Q .normal (impl_sine_P1 r1 z1_5 z1_6 p k) H := ⟨μ', hm, p, k, rfl, hI⟩
theorem impl_sine_x1_0 (r1 : Nat) (z1_5 : Nat) (p : Nat) (H : AHeap) (K : Value → AHeap → Prop)  {I : Nat → List Value → AHeap → Prop} {μ : Nat} : loopQ I μ (blockQ 0 (seqQ (exL Try.prog E_impl_sine (cr (cr (cr (cr (cr (cr (cr (cr (cr (bodyC Try.f162)))))))))) 4 4 []) (retK Try.prog Try.f162 K))) (.exit 0) [ud, ud, ud, ud, .bool (fle .f64 4602678819172646912 r1), .float .f64 z1_5, ud, .float .f64 p, ud, ud, ud, ud, ud, ud, ud, ud, ud, ud, ud, ud, ud, ud, ud, ud, ud, ud, ud, ud, ud, ud, ud, ud, ud, ud, ud, ud, ud, ud, ud, ud, ud, ud, ud, ud, ud, ud, ud, ud] H =
  (Br (fle .f64 4602678819172646912 r1) (K (.float .f64 (fneg .f64 (fmul .f64 z1_5 p))) H) (K (.float .f64 (fmul .f64 z1_5 p)) H)) := by kernel_rfl
theorem E_impl_sine_ok : ∀ g, FnOk Try.prog g (E_impl_sine g) := FnOk.envOf (by
  intro x hx
  simp only [List.mem_cons, List.not_mem_nil, or_false] at hx
  subst hx; exact impl_fraction_ok)
set_option maxHeartbeats 1000000 in
theorem impl_sine_main (x : Nat) (H : AHeap) (K : Value → AHeap → Prop) (h : T_impl_sine x H fun (r1 : Nat) (H' : AHeap) => K (.float .f64 r1) H') : bodyL Try.prog E_impl_sine Try.f162 [.float .f64 x] H K := by
  rw [impl_sine_vc]
  obtain ⟨pr0, hk⟩ := h
  have e : (p_impl_sine x) = _ := rfl
  have e := e.trans (p_impl_sine_eq x)
  have g0 := Grow.refl H
  refine T_impl_fraction_i ⟨o18, ?_⟩
  have z_1 := impl_fraction_bd x (by first | assumption | exact abs_in (by assumption) (by assumption))
  refine Br.intro (fun c_2 => ?_) (fun c_2 => ?_)
  · have e := e.trans (cond_t c_2)
    refine Br.intro (fun c_3 => ?_) (fun c_3 => ?_)
    · have e := e.trans (cond_t c_3)
      refine impl_sine_L1 _ _ _ (fun (μ : Nat) (p : Nat) (k : Nat) (H_1 : AHeap) => H = H_1 ∧ isCnt k ∧ cnt k ≤ (μ : Int) ∧ p_impl_sine x = p_impl_sine_l1 x (μ + 1) p k) (Int.toNat (cnt 4620693217682128896)) _ _ H ?_ ?_
      · exact ⟨rfl, (by first | omega | (simp; done) | (simp; omega) | (first | exact isCnt.of (n := 8) (by decide) (by decide) | exact (down1 (by assumption) (by assumption)).1)), o3, e⟩
      · intro μ p k  H_1 hI
        obtain ⟨rfl, v_4, hμ, e⟩ := hI
        rw [impl_sine_r1]
        have e := e.trans (p_impl_sine_l1_s x μ p k)
        have l_5 := g0.1
        refine Br.intro (fun c_6 => ?_) (fun c_6 => ?_)
        · have e := e.trans (cond_t c_6)
          refine impl_sine_n1 (μ - 1) o21 ⟨rfl, (by first | omega | (first | exact isCnt.of (n := 8) (by decide) (by decide) | exact (down1 (by assumption) (by assumption)).1) | (simp only [List.length_append, List.length_cons, List.length_nil, List.length_set]; done) | (simp only [List.length_append, List.length_cons, List.length_nil, List.length_set]; omega)), o21, (by rw [show μ - 1 + 1 = μ from by first | omega | (have := down1 (by assumption) (by assumption); omega)]; exact e)⟩
        · have e := e.trans (cond_f c_6)
          rw [impl_sine_x1_0]
          refine Br.intro (fun c_7 => ?_) (fun c_7 => ?_)
          · have e := e.trans (cond_t c_7)
            rw [e] at hk
            exact hk
          · have e := e.trans (cond_f c_7)
            rw [e] at hk
            exact hk
    · have e := e.trans (cond_f c_3)
      refine impl_sine_L1 _ _ _ (fun (μ : Nat) (p : Nat) (k : Nat) (H_2 : AHeap) => H = H_2 ∧ isCnt k ∧ cnt k ≤ (μ : Int) ∧ p_impl_sine x = p_impl_sine_l1b x (μ + 1) p k) (Int.toNat (cnt 4620693217682128896)) _ _ H ?_ ?_
      · exact ⟨rfl, (by first | omega | (simp; done) | (simp; omega) | (first | exact isCnt.of (n := 8) (by decide) (by decide) | exact (down1 (by assumption) (by assumption)).1)), o3, e⟩
      · intro μ p k  H_2 hI
        obtain ⟨rfl, v_8, hμ, e⟩ := hI
        rw [impl_sine_r1]
        have e := e.trans (p_impl_sine_l1b_s x μ p k)
        have l_9 := g0.1
        refine Br.intro (fun c_10 => ?_) (fun c_10 => ?_)
        · have e := e.trans (cond_t c_10)
          refine impl_sine_n1 (μ - 1) o21 ⟨rfl, (by first | omega | (first | exact isCnt.of (n := 8) (by decide) (by decide) | exact (down1 (by assumption) (by assumption)).1) | (simp only [List.length_append, List.length_cons, List.length_nil, List.length_set]; done) | (simp only [List.length_append, List.length_cons, List.length_nil, List.length_set]; omega)), o21, (by rw [show μ - 1 + 1 = μ from by first | omega | (have := down1 (by assumption) (by assumption); omega)]; exact e)⟩
        · have e := e.trans (cond_f c_10)
          rw [impl_sine_x1_0]
          refine Br.intro (fun c_11 => ?_) (fun c_11 => ?_)
          · have e := e.trans (cond_t c_11)
            rw [e] at hk
            exact hk
          · have e := e.trans (cond_f c_11)
            rw [e] at hk
            exact hk
  · have e := e.trans (cond_f c_2)
    refine Br.intro (fun c_12 => ?_) (fun c_12 => ?_)
    · have e := e.trans (cond_t c_12)
      refine impl_sine_L1 _ _ _ (fun (μ : Nat) (p : Nat) (k : Nat) (H_3 : AHeap) => H = H_3 ∧ isCnt k ∧ cnt k ≤ (μ : Int) ∧ p_impl_sine x = p_impl_sine_l1c x (μ + 1) p k) (Int.toNat (cnt 4620693217682128896)) _ _ H ?_ ?_
      · exact ⟨rfl, (by first | omega | (simp; done) | (simp; omega) | (first | exact isCnt.of (n := 8) (by decide) (by decide) | exact (down1 (by assumption) (by assumption)).1)), o3, e⟩
      · intro μ p k  H_3 hI
        obtain ⟨rfl, v_13, hμ, e⟩ := hI
        rw [impl_sine_r1]
        have e := e.trans (p_impl_sine_l1c_s x μ p k)
        have l_14 := g0.1
        refine Br.intro (fun c_15 => ?_) (fun c_15 => ?_)
        · have e := e.trans (cond_t c_15)
          refine impl_sine_n1 (μ - 1) o21 ⟨rfl, (by first | omega | (first | exact isCnt.of (n := 8) (by decide) (by decide) | exact (down1 (by assumption) (by assumption)).1) | (simp only [List.length_append, List.length_cons, List.length_nil, List.length_set]; done) | (simp only [List.length_append, List.length_cons, List.length_nil, List.length_set]; omega)), o21, (by rw [show μ - 1 + 1 = μ from by first | omega | (have := down1 (by assumption) (by assumption); omega)]; exact e)⟩
        · have e := e.trans (cond_f c_15)
          rw [impl_sine_x1_0]
          refine Br.intro (fun c_16 => ?_) (fun c_16 => ?_)
          · have e := e.trans (cond_t c_16)
            rw [e] at hk
            exact hk
          · have e := e.trans (cond_f c_16)
            rw [e] at hk
            exact hk
    · have e := e.trans (cond_f c_12)
      refine impl_sine_L1 _ _ _ (fun (μ : Nat) (p : Nat) (k : Nat) (H_4 : AHeap) => H = H_4 ∧ isCnt k ∧ cnt k ≤ (μ : Int) ∧ p_impl_sine x = p_impl_sine_l1d x (μ + 1) p k) (Int.toNat (cnt 4620693217682128896)) _ _ H ?_ ?_
      · exact ⟨rfl, (by first | omega | (simp; done) | (simp; omega) | (first | exact isCnt.of (n := 8) (by decide) (by decide) | exact (down1 (by assumption) (by assumption)).1)), o3, e⟩
      · intro μ p k  H_4 hI
        obtain ⟨rfl, v_17, hμ, e⟩ := hI
        rw [impl_sine_r1]
        have e := e.trans (p_impl_sine_l1d_s x μ p k)
        have l_18 := g0.1
        refine Br.intro (fun c_19 => ?_) (fun c_19 => ?_)
        · have e := e.trans (cond_t c_19)
          refine impl_sine_n1 (μ - 1) o21 ⟨rfl, (by first | omega | (first | exact isCnt.of (n := 8) (by decide) (by decide) | exact (down1 (by assumption) (by assumption)).1) | (simp only [List.length_append, List.length_cons, List.length_nil, List.length_set]; done) | (simp only [List.length_append, List.length_cons, List.length_nil, List.length_set]; omega)), o21, (by rw [show μ - 1 + 1 = μ from by first | omega | (have := down1 (by assumption) (by assumption); omega)]; exact e)⟩
        · have e := e.trans (cond_f c_19)
          rw [impl_sine_x1_0]
          refine Br.intro (fun c_20 => ?_) (fun c_20 => ?_)
          · have e := e.trans (cond_t c_20)
            rw [e] at hk
            exact hk
          · have e := e.trans (cond_f c_20)
            rw [e] at hk
            exact hk
theorem impl_sine_ok : FnOk Try.prog 162 S_impl_sine := by
  refine FnOk.body mix_ok E_impl_sine_ok Try.func162 rfl (by kernel_rfl) (by kernel_rfl) ?_ ?_ ?_ ?_ ?_
  · intro args H K K' h hk
    simp only [S_impl_sine] at *
    unfold F_impl_sine at *
    split at hk
    · obtain ⟨pr0, k⟩ := hk
      exact ⟨pr0, h _ _ k⟩
    · exact hk.elim
  · intro _ args H K hk
    simp only [S_impl_sine] at *
    unfold F_impl_sine at *
    split at hk
    · obtain ⟨pr0, k⟩ := hk
      exact ⟨_, k, fun K' k' => ⟨pr0, k'⟩⟩
    · exact hk.elim
  · intro args H K hk
    simp only [S_impl_sine] at *
    unfold F_impl_sine at *
    split at hk
    · obtain ⟨pr0, k⟩ := hk
      exact ⟨_, _, k⟩
    · exact hk.elim
  · intro hq; cases hq
  · have mm := @impl_sine_main
    have ml := fun (args : List Value) (H : AHeap) (K : Value → AHeap → Prop) => bodyL_body (P := Try.prog) (env := E_impl_sine ) (fn := Try.f162) (args := args) (H := H) (K := K) E_impl_sine_ok 
    revert mm ml
    generalize bodyK Try.prog E_impl_sine Try.f162 = Q
    generalize bodyL Try.prog E_impl_sine Try.f162 = QL
    intro mm ml args H K hk
    simp only [S_impl_sine] at *
    unfold F_impl_sine at *
    split at hk
    · exact ml _ H K (mm _ H K hk)
    · exact hk.elim

def p_impl_PhasorOf_l1 (turns : Nat) : Nat → Nat → Int → Nat × Nat
  | 0, _, _ => (0, 0)
  | μ + 1, f, q => (bif fle .f64 4598175219545276416 f then (p_impl_PhasorOf_l1 turns μ (fsub .f64 f 4598175219545276416) (q + 1)) else (bif (q : Int) == 1 then (((fnarrow (fsub .f64 0 (p_impl_sine f))).getD 0), ((fnarrow ((p_impl_sine (fsub .f64 4598175219545276416 f)))).getD 0)) else (bif (q : Int) == 2 then (((fnarrow (fsub .f64 0 ((p_impl_sine (fsub .f64 4598175219545276416 f))))).getD 0), ((fnarrow (fsub .f64 0 (p_impl_sine f))).getD 0)) else (bif (q : Int) == 3 then (((fnarrow (p_impl_sine f)).getD 0), ((fnarrow (fsub .f64 0 ((p_impl_sine (fsub .f64 4598175219545276416 f))))).getD 0)) else (((fnarrow ((p_impl_sine (fsub .f64 4598175219545276416 f)))).getD 0), ((fnarrow (p_impl_sine f)).getD 0))))))
def p_impl_PhasorOf_l1_s := fun turns μ f q => @p_impl_PhasorOf_l1.eq_2 turns f q μ
def p_impl_PhasorOf (turns : Nat) : Nat × Nat := (bif !(p_impl_isFinite64 turns) then (((fnarrow p_math_NaN).getD 0), ((fnarrow p_math_NaN).getD 0)) else (bif fle .f64 4841369599423283200 (p_math_Abs turns) then (1065353216, 0) else (p_impl_PhasorOf_l1 turns (Int.toNat (qm (p_impl_fraction turns)) + 1) (p_impl_fraction turns) (0 : Int))))
def p_impl_PhasorOf_eq := @p_impl_PhasorOf.eq_1
def T_impl_PhasorOf (turns : Nat) (H : AHeap) (K : Nat → Nat → AHeap → Prop) : Prop := K ((p_impl_PhasorOf turns).1) ((p_impl_PhasorOf turns).2) H
theorem T_impl_PhasorOf_i {turns : Nat} {H : AHeap} {K : Nat → Nat → AHeap → Prop} (h : K ((p_impl_PhasorOf turns).1) ((p_impl_PhasorOf turns).2) H) : T_impl_PhasorOf turns H K := h
theorem nan_nar : fnarrow p_math_NaN ≠ none := by decide +kernel
theorem abs_in {x : Nat} (h0 : p_impl_isFinite64 x = true) (h1 : fle .f64 4841369599423283200 (p_math_Abs x) = false) : Bd .f64 (52 + lp .f64) x := by
  have h0 : feq .f64 (fsub .f64 x x) 0 = true := h0
  rw [fin_asked] at h0
  refine abs_in' h0 ?_
  unfold p_math_Abs at h1
  rw [cn_of_not_nan (fin_nn h0)] at h1
  obtain ⟨s, m, e, hr⟩ := fin_num h0
  have hm := read_mod hr
  rw [show FloatKind.f64.format.signWeight = 9223372036854775808 by decide] at hm
  rwa [cn_of_not_nan (show (FloatKind.f64.decode _).isNaN = false from by show (FloatKind.f64.format.read _).isNaN = false; rw [hm]; rfl)] at h1
/-! impl_PhasorOf: function 116 -/
def E_impl_PhasorOf : Env := envOf [(158, S_impl_isFinite64), (159, S_math_NaN), (160, S_math_Abs), (161, S_impl_fraction), (162, S_impl_sine)]
def F_impl_PhasorOf : List Value → AHeap → (Value → AHeap → Prop) → Prop
  | [.float .f64 turns], H, K => T_impl_PhasorOf turns H fun (r1_r : Nat) (r1_i : Nat) (H' : AHeap) => K (.complex .f32 r1_r r1_i) H'
  | _, _, _ => False
def S_impl_PhasorOf : FSpec := { F := F_impl_PhasorOf, quiet := true, tame := false }
theorem impl_PhasorOf_vc (turns : Nat) (H : AHeap) (K : Value → AHeap → Prop) : bodyL Try.prog E_impl_PhasorOf Try.f116 [.float .f64 turns] H K =
  (T_impl_isFinite64 turns H fun (r1 : Bool) (H1 : AHeap) => Br (!r1) (T_math_NaN  H1 fun (r2 : Nat) (H2 : AHeap) => ∃ x1 : Nat, fnarrow r2 = some x1 ∧ K (.complex .f32 x1 x1) H2) (T_math_Abs turns H1 fun (r3 : Nat) (H3 : AHeap) => Br (fle .f64 4841369599423283200 r3) (K (.complex .f32 1065353216 0) H3) (T_impl_fraction turns H3 fun (r4 : Nat) (H4 : AHeap) => loopK (exL Try.prog E_impl_PhasorOf (cl (cl (cl (cr (cr (cr (cr (cr (bodyC Try.f116))))))))) 48 4 [(0, 48)]) [ud, ud, ud, ud, .float .f64 r4, .int .i64 0, ud, ud, ud, ud, ud, ud, ud, ud, ud, ud, ud, ud, ud, ud, ud, ud, ud, ud, ud, ud, ud, ud, ud, ud, ud, ud, ud, ud, ud, ud, ud, ud, ud, ud, ud, ud, ud, ud, ud, ud, ud, ud, ud, ud, ud, ud, ud, ud] H4 (blockQ 0 (seqQ (exL Try.prog E_impl_PhasorOf (cr (cr (cr (cr (cr (cr (bodyC Try.f116))))))) 4 4 []) (retK Try.prog Try.f116 K)))))) := by kernel_rfl
abbrev impl_PhasorOf_P1  (f : Nat) (q : Int)  : List Value := [ud, ud, ud, ud, .float .f64 f, .int .i64 q, ud, ud, ud, ud, ud, ud, ud, ud, ud, ud, ud, ud, ud, ud, ud, ud, ud, ud, ud, ud, ud, ud, ud, ud, ud, ud, ud, ud, ud, ud, ud, ud, ud, ud, ud, ud, ud, ud, ud, ud, ud, ud, ud, ud, ud, ud, ud, ud]
theorem impl_PhasorOf_r1  (f : Nat) (q : Int)  (H : AHeap) (R : Post) : exL Try.prog E_impl_PhasorOf (cl (cl (cl (cr (cr (cr (cr (cr (bodyC Try.f116))))))))) 48 4 [(0, 48)] (impl_PhasorOf_P1 f q) H R =
  (Br (fle .f64 4598175219545276416 f) (R .normal [ud, ud, ud, ud, .float .f64 (fsub .f64 f 4598175219545276416), .int .i64 (IntKind.wrap .i64 (q + 1)), ud, ud, ud, ud, ud, ud, ud, ud, ud, ud, ud, ud, ud, ud, ud, ud, ud, ud, ud, ud, ud, ud, ud, ud, ud, ud, ud, ud, ud, ud, ud, ud, ud, ud, ud, ud, ud, ud, ud, ud, ud, ud, ud, ud, ud, ud, ud, ud] H) (R (.exit 0) [ud, ud, ud, ud, .float .f64 f, .int .i64 q, ud, ud, ud, ud, ud, ud, ud, ud, ud, ud, ud, ud, ud, ud, ud, ud, ud, ud, ud, ud, ud, ud, ud, ud, ud, ud, ud, ud, ud, ud, ud, ud, ud, ud, ud, ud, ud, ud, ud, ud, ud, ud, ud, ud, ud, ud, ud, ud] H)) := by kernel_rfl
def impl_PhasorOf_I1  (Inv : Nat → Nat → Int → AHeap → Prop) : Nat → List Value → AHeap → Prop := fun μ tm H => ∃ (f : Nat), ∃ (q : Int), tm = (impl_PhasorOf_P1 f q) ∧ Inv μ f q H
theorem impl_PhasorOf_L1  {Q : Post} (Inv : Nat → Nat → Int → AHeap → Prop) (ν : Nat) (f : Nat) (q : Int)  (H : AHeap) (h0 : Inv ν f q H)
    (hs : ∀ (μ : Nat) (f : Nat) (q : Int)  (H : AHeap), Inv μ f q H → exL Try.prog E_impl_PhasorOf (cl (cl (cl (cr (cr (cr (cr (cr (bodyC Try.f116))))))))) 48 4 [(0, 48)] (impl_PhasorOf_P1 f q) H (loopQ (impl_PhasorOf_I1  Inv) μ Q)) : loopK (exL Try.prog E_impl_PhasorOf (cl (cl (cl (cr (cr (cr (cr (cr (bodyC Try.f116))))))))) 48 4 [(0, 48)]) (impl_PhasorOf_P1 f q) H Q :=
  ⟨impl_PhasorOf_I1  Inv, ν, ⟨f, q, rfl, h0⟩, fun μ tm H h => by obtain ⟨f, q, rfl, hI⟩ := h; exact hs μ f q  H hI⟩
theorem impl_PhasorOf_n1  {Q : Post} {Inv : Nat → Nat → Int → AHeap → Prop} {μ : Nat} (μ' : Nat) {f : Nat} {q : Int}  {H : AHeap} (hm : μ' < μ) (hI : Inv μ' f q H) : loopQ (impl_PhasorOf_I1  Inv) μ Q .normal (impl_PhasorOf_P1 f q) H := ⟨μ', hm, f, q, rfl, hI⟩
theorem impl_PhasorOf_x1_0 (f : Nat) (q : Int) (H : AHeap) (K : Value → AHeap → Prop)  {I : Nat → List Value → AHeap → Prop} {μ : Nat} : loopQ I μ (blockQ 0 (seqQ (exL Try.prog E_impl_PhasorOf (cr (cr (cr (cr (cr (cr (bodyC Try.f116))))))) 4 4 []) (retK Try.prog Try.f116 K))) (.exit 0) [ud, ud, ud, ud, .float .f64 f, .int .i64 q, ud, ud, ud, ud, ud, ud, ud, ud, ud, ud, ud, ud, ud, ud, ud, ud, ud, ud, ud, ud, ud, ud, ud, ud, ud, ud, ud, ud, ud, ud, ud, ud, ud, ud, ud, ud, ud, ud, ud, ud, ud, ud, ud, ud, ud, ud, ud, ud] H =
  (T_impl_sine (fsub .f64 4598175219545276416 f) H fun (r5 : Nat) (H5 : AHeap) => T_impl_sine f H5 fun (r6 : Nat) (H6 : AHeap) => Br ((q : Int) == 1) (∃ x2 : Nat, fnarrow (fsub .f64 0 r6) = some x2 ∧ ∃ x3 : Nat, fnarrow r5 = some x3 ∧ K (.complex .f32 x2 x3) H6) (Br ((q : Int) == 2) (∃ x4 : Nat, fnarrow (fsub .f64 0 r5) = some x4 ∧ ∃ x5 : Nat, fnarrow (fsub .f64 0 r6) = some x5 ∧ K (.complex .f32 x4 x5) H6) (Br ((q : Int) == 3) (∃ x6 : Nat, fnarrow r6 = some x6 ∧ ∃ x7 : Nat, fnarrow (fsub .f64 0 r5) = some x7 ∧ K (.complex .f32 x6 x7) H6) (∃ x8 : Nat, fnarrow r5 = some x8 ∧ ∃ x9 : Nat, fnarrow r6 = some x9 ∧ K (.complex .f32 x8 x9) H6)))) := by kernel_rfl
theorem E_impl_PhasorOf_ok : ∀ g, FnOk Try.prog g (E_impl_PhasorOf g) := FnOk.envOf (by
  intro x hx
  simp only [List.mem_cons, List.not_mem_nil, or_false] at hx
  rcases hx with rfl | rfl | rfl | rfl | rfl
  · exact impl_isFinite64_ok
  · exact math_NaN_ok
  · exact math_Abs_ok
  · exact impl_fraction_ok
  · exact impl_sine_ok)
theorem o19 {P : Prop} (h : P := by first | exact nan_nar | exact bd_nar (by assumption) | exact bd_nar0 (by assumption)) : P := h
theorem o33 {P : Prop} (h : P := by first | assumption | omega | (simp; omega) | (first | exact lp_up (by assumption) | exact rest_bd (by assumption))) : P := h
set_option maxHeartbeats 1000000 in
theorem impl_PhasorOf_main (turns : Nat) (H : AHeap) (K : Value → AHeap → Prop) (h : T_impl_PhasorOf turns H fun (r1_r : Nat) (r1_i : Nat) (H' : AHeap) => K (.complex .f32 r1_r r1_i) H') : bodyL Try.prog E_impl_PhasorOf Try.f116 [.float .f64 turns] H K := by
  rw [impl_PhasorOf_vc]
  have hk := h
  unfold T_impl_PhasorOf at hk
  have e : (p_impl_PhasorOf turns) = _ := rfl
  have e := e.trans (p_impl_PhasorOf_eq turns)
  have g0 := Grow.refl H
  refine T_impl_isFinite64_i ?_
  refine Br.intro (fun c_1 => ?_) (fun c_1 => ?_)
  · have e := e.trans (cond_t c_1)
    have c_1n := nf_of_t c_1
    refine T_math_NaN_i ?_
    refine ⟨_, opt_get (d := 0) o19, ?_⟩
    rw [e] at hk
    exact hk
  · have e := e.trans (cond_f c_1)
    have c_1n := nt_of_f c_1
    refine T_math_Abs_i ?_
    refine Br.intro (fun c_2 => ?_) (fun c_2 => ?_)
    · have e := e.trans (cond_t c_2)
      rw [e] at hk
      exact hk
    · have e := e.trans (cond_f c_2)
      refine T_impl_fraction_i ⟨(by first | assumption | omega | (simp; omega) | (exact abs_in (by assumption) (by assumption))), ?_⟩
      have z_3 := impl_fraction_bd turns (by first | assumption | exact abs_in (by assumption) (by assumption))
      refine impl_PhasorOf_L1  (fun (μ : Nat) (f : Nat) (q : Int) (H_1 : AHeap) => H = H_1 ∧ Bd .f64 (lp .f64) f ∧ 0 ≤ q ∧ q + qm f ≤ 4 ∧ -4 ≤ qm f ∧ qm f ≤ (μ : Int) ∧ p_impl_PhasorOf turns = p_impl_PhasorOf_l1 turns (μ + 1) f q) (Int.toNat (qm (p_impl_fraction turns))) _ _ H ?_ ?_
      · exact ⟨rfl, (by first | omega | (simp; done) | (simp; omega) | (first | omega | assumption | with_reducible exact (qm_step (by assumption) (by assumption)).1 | (have := (qm_step (by assumption) (by assumption)); have := qm_le (qm_step (by assumption) (by assumption)).1; omega) | (have := qm_le (by assumption : Bd .f64 (lp .f64) (p_impl_fraction turns)); omega))), (by first | omega | (simp; done) | (simp; omega) | (first | omega | assumption | with_reducible exact (qm_step (by assumption) (by assumption)).1 | (have := (qm_step (by assumption) (by assumption)); have := qm_le (qm_step (by assumption) (by assumption)).1; omega) | (have := qm_le (by assumption : Bd .f64 (lp .f64) (p_impl_fraction turns)); omega))), (by first | omega | (simp; done) | (simp; omega) | (first | omega | assumption | with_reducible exact (qm_step (by assumption) (by assumption)).1 | (have := (qm_step (by assumption) (by assumption)); have := qm_le (qm_step (by assumption) (by assumption)).1; omega) | (have := qm_le (by assumption : Bd .f64 (lp .f64) (p_impl_fraction turns)); omega))), (by first | omega | (simp; done) | (simp; omega) | (first | omega | assumption | with_reducible exact (qm_step (by assumption) (by assumption)).1 | (have := (qm_step (by assumption) (by assumption)); have := qm_le (qm_step (by assumption) (by assumption)).1; omega) | (have := qm_le (by assumption : Bd .f64 (lp .f64) (p_impl_fraction turns)); omega))), o3, e⟩
      · intro μ f q  H_1 hI
        obtain ⟨rfl, v_4, v_5, v_6, v_7, hμ, e⟩ := hI
        rw [impl_PhasorOf_r1]
        have e := e.trans (p_impl_PhasorOf_l1_s turns μ f q)
        have l_8 := g0.1
        refine Br.intro (fun c_9 => ?_) (fun c_9 => ?_)
        · have e := e.trans (cond_t c_9)
          rw [show IntKind.wrap .i64 (q + 1) = (q + 1) from wrap64 o3 o3]
          refine impl_PhasorOf_n1 (μ - 1) o26 ⟨rfl, (by first | omega | (first | omega | assumption | with_reducible exact (qm_step (by assumption) (by assumption)).1 | (have := (qm_step (by assumption) (by assumption)); have := qm_le (qm_step (by assumption) (by assumption)).1; omega) | (have := qm_le (by assumption : Bd .f64 (lp .f64) (p_impl_fraction turns)); omega)) | (simp only [List.length_append, List.length_cons, List.length_nil, List.length_set]; done) | (simp only [List.length_append, List.length_cons, List.length_nil, List.length_set]; omega)), (by first | omega | (first | omega | assumption | with_reducible exact (qm_step (by assumption) (by assumption)).1 | (have := (qm_step (by assumption) (by assumption)); have := qm_le (qm_step (by assumption) (by assumption)).1; omega) | (have := qm_le (by assumption : Bd .f64 (lp .f64) (p_impl_fraction turns)); omega)) | (simp only [List.length_append, List.length_cons, List.length_nil, List.length_set]; done) | (simp only [List.length_append, List.length_cons, List.length_nil, List.length_set]; omega)), (by first | omega | (first | omega | assumption | with_reducible exact (qm_step (by assumption) (by assumption)).1 | (have := (qm_step (by assumption) (by assumption)); have := qm_le (qm_step (by assumption) (by assumption)).1; omega) | (have := qm_le (by assumption : Bd .f64 (lp .f64) (p_impl_fraction turns)); omega)) | (simp only [List.length_append, List.length_cons, List.length_nil, List.length_set]; done) | (simp only [List.length_append, List.length_cons, List.length_nil, List.length_set]; omega)), (by first | omega | (first | omega | assumption | with_reducible exact (qm_step (by assumption) (by assumption)).1 | (have := (qm_step (by assumption) (by assumption)); have := qm_le (qm_step (by assumption) (by assumption)).1; omega) | (have := qm_le (by assumption : Bd .f64 (lp .f64) (p_impl_fraction turns)); omega)) | (simp only [List.length_append, List.length_cons, List.length_nil, List.length_set]; done) | (simp only [List.length_append, List.length_cons, List.length_nil, List.length_set]; omega)), o26, (by rw [show μ - 1 + 1 = μ from by first | omega | (have := qm_step (by assumption) (by assumption); omega)]; exact e)⟩
        · have e := e.trans (cond_f c_9)
          rw [impl_PhasorOf_x1_0]
          refine T_impl_sine_i ⟨o33, ?_⟩
          have z_10 := impl_sine_bd (fsub .f64 4598175219545276416 f) (by first | exact lp_up (by assumption) | exact rest_bd (by assumption))
          refine T_impl_sine_i ⟨o33, ?_⟩
          have z_11 := impl_sine_bd f (by first | exact lp_up (by assumption) | exact rest_bd (by assumption))
          refine Br.intro (fun c_12 => ?_) (fun c_12 => ?_)
          · have e := e.trans (cond_t c_12)
            have c_12' := ieq_t c_12
            refine ⟨_, opt_get (d := 0) o19, ?_⟩
            refine ⟨_, opt_get (d := 0) o19, ?_⟩
            rw [e] at hk
            exact hk
          · have e := e.trans (cond_f c_12)
            have c_12' := ieq_f c_12
            refine Br.intro (fun c_13 => ?_) (fun c_13 => ?_)
            · have e := e.trans (cond_t c_13)
              have c_13' := ieq_t c_13
              refine ⟨_, opt_get (d := 0) o19, ?_⟩
              refine ⟨_, opt_get (d := 0) o19, ?_⟩
              rw [e] at hk
              exact hk
            · have e := e.trans (cond_f c_13)
              have c_13' := ieq_f c_13
              refine Br.intro (fun c_14 => ?_) (fun c_14 => ?_)
              · have e := e.trans (cond_t c_14)
                have c_14' := ieq_t c_14
                refine ⟨_, opt_get (d := 0) o19, ?_⟩
                refine ⟨_, opt_get (d := 0) o19, ?_⟩
                rw [e] at hk
                exact hk
              · have e := e.trans (cond_f c_14)
                have c_14' := ieq_f c_14
                refine ⟨_, opt_get (d := 0) o19, ?_⟩
                refine ⟨_, opt_get (d := 0) o19, ?_⟩
                rw [e] at hk
                exact hk
theorem impl_PhasorOf_ok : FnOk Try.prog 116 S_impl_PhasorOf := by
  refine FnOk.body mix_ok E_impl_PhasorOf_ok Try.func116 rfl (by kernel_rfl) (by kernel_rfl) ?_ ?_ ?_ ?_ ?_
  · intro args H K K' h hk
    simp only [S_impl_PhasorOf] at *
    unfold F_impl_PhasorOf at *
    split at hk
    · have k := hk
      exact h _ _ k
    · exact hk.elim
  · intro _ args H K hk
    simp only [S_impl_PhasorOf] at *
    unfold F_impl_PhasorOf at *
    split at hk
    · have k := hk
      exact ⟨_, k, fun K' k' => k'⟩
    · exact hk.elim
  · intro args H K hk
    simp only [S_impl_PhasorOf] at *
    unfold F_impl_PhasorOf at *
    split at hk
    · have k := hk
      exact ⟨_, _, k⟩
    · exact hk.elim
  · intro hq; cases hq
  · have mm := @impl_PhasorOf_main
    have ml := fun (args : List Value) (H : AHeap) (K : Value → AHeap → Prop) => bodyL_body (P := Try.prog) (env := E_impl_PhasorOf ) (fn := Try.f116) (args := args) (H := H) (K := K) E_impl_PhasorOf_ok 
    revert mm ml
    generalize bodyK Try.prog E_impl_PhasorOf Try.f116 = Q
    generalize bodyL Try.prog E_impl_PhasorOf Try.f116 = QL
    intro mm ml args H K hk
    simp only [S_impl_PhasorOf] at *
    unfold F_impl_PhasorOf at *
    split at hk
    · exact ml _ H K (mm _ H K hk)
    · exact hk.elim
def p_impl_ScaleComplex (x_r : Nat) (x_i : Nat) (vby : Nat) : Nat × Nat := (fmul .f32 x_r vby, fmul .f32 x_i vby)
def p_impl_ScaleComplex_eq := @p_impl_ScaleComplex.eq_1
def T_impl_ScaleComplex (x_r : Nat) (x_i : Nat) (vby : Nat) (H : AHeap) (K : Nat → Nat → AHeap → Prop) : Prop := K (p_impl_ScaleComplex x_r x_i vby).1 (p_impl_ScaleComplex x_r x_i vby).2 H

theorem T_impl_ScaleComplex_i {x_r : Nat} {x_i : Nat} {vby : Nat} {H : AHeap} {K : Nat → Nat → AHeap → Prop} (h : K (p_impl_ScaleComplex x_r x_i vby).1 (p_impl_ScaleComplex x_r x_i vby).2 H) : T_impl_ScaleComplex x_r x_i vby H K := h
/-! impl_ScaleComplex: function 115 -/
def E_impl_ScaleComplex : Env := envOf []
def F_impl_ScaleComplex : List Value → AHeap → (Value → AHeap → Prop) → Prop
  | [.complex .f32 x_r x_i, .float .f32 vby], H, K => T_impl_ScaleComplex x_r x_i vby H fun (r1_r : Nat) (r1_i : Nat) (H' : AHeap) => K (.complex .f32 r1_r r1_i) H'
  | _, _, _ => False
def S_impl_ScaleComplex : FSpec := { F := F_impl_ScaleComplex, quiet := true, tame := false }
theorem impl_ScaleComplex_vc (x_r : Nat) (x_i : Nat) (vby : Nat) (H : AHeap) (K : Value → AHeap → Prop) : bodyL Try.prog E_impl_ScaleComplex Try.f115 [.complex .f32 x_r x_i, .float .f32 vby] H K =
  (K (.complex .f32 (fmul .f32 x_r vby) (fmul .f32 x_i vby)) H) := by kernel_rfl
theorem E_impl_ScaleComplex_ok : ∀ g, FnOk Try.prog g (E_impl_ScaleComplex g) := FnOk.envOf (by
  intro x hx; cases hx)
set_option maxHeartbeats 1000000 in
theorem impl_ScaleComplex_main (x_r : Nat) (x_i : Nat) (vby : Nat) (H : AHeap) (K : Value → AHeap → Prop) (h : T_impl_ScaleComplex x_r x_i vby H fun (r1_r : Nat) (r1_i : Nat) (H' : AHeap) => K (.complex .f32 r1_r r1_i) H') : bodyL Try.prog E_impl_ScaleComplex Try.f115 [.complex .f32 x_r x_i, .float .f32 vby] H K := by
  rw [impl_ScaleComplex_vc]
  unfold T_impl_ScaleComplex p_impl_ScaleComplex at h
  repeat' (first | exact h | (exfalso; simp_all; done) | (refine ⟨by decide, ?_⟩) | (refine Br.intro (fun hb => ?_) (fun hb => ?_) <;> (try simp only [hb, cond_true, cond_false, Bool.not_true, Bool.not_false] at h)))
theorem impl_ScaleComplex_ok : FnOk Try.prog 115 S_impl_ScaleComplex := by
  refine FnOk.body mix_ok E_impl_ScaleComplex_ok Try.func115 rfl (by kernel_rfl) (by kernel_rfl) ?_ ?_ ?_ ?_ ?_
  · intro args H K K' h hk
    simp only [S_impl_ScaleComplex] at *
    unfold F_impl_ScaleComplex at *
    split at hk
    · have k := hk
      exact h _ _ k
    · exact hk.elim
  · intro _ args H K hk
    simp only [S_impl_ScaleComplex] at *
    unfold F_impl_ScaleComplex at *
    split at hk
    · have k := hk
      exact ⟨_, k, fun K' k' => k'⟩
    · exact hk.elim
  · intro args H K hk
    simp only [S_impl_ScaleComplex] at *
    unfold F_impl_ScaleComplex at *
    split at hk
    · have k := hk
      exact ⟨_, _, k⟩
    · exact hk.elim
  · intro hq; cases hq
  · have mm := @impl_ScaleComplex_main
    have ml := fun (args : List Value) (H : AHeap) (K : Value → AHeap → Prop) => bodyL_body (P := Try.prog) (env := E_impl_ScaleComplex ) (fn := Try.f115) (args := args) (H := H) (K := K) E_impl_ScaleComplex_ok 
    revert mm ml
    generalize bodyK Try.prog E_impl_ScaleComplex Try.f115 = Q
    generalize bodyL Try.prog E_impl_ScaleComplex Try.f115 = QL
    intro mm ml args H K hk
    simp only [S_impl_ScaleComplex] at *
    unfold F_impl_ScaleComplex at *
    split at hk
    · exact ml _ H K (mm _ _ _ H K hk)
    · exact hk.elim
end Go.Proofs.Ytghkkclonabpkab.Ai
