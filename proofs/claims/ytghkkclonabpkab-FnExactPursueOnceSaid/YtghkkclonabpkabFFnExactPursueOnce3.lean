/- What functions of the program come to on the abstract machine, and that they do so; printed by a program of mine around proofs of mine. -/
import Derived.Test.YtghkkclonabpkabFFnExactPursueOnce2
set_option linter.unusedVariables false
set_option linter.unusedSimpArgs false
set_option linter.defProp false
set_option maxRecDepth 100000
namespace Go.Proofs.Ytghkkclonabpkab.Ai
open Go
attribute [local irreducible] bodyK

def p_impl_PursueOnce_l3 (l_list : List Nat) (l_scales : List Nat) (t6 : Bool) (found : Bool) (t35 : Int) (q1_1 : Int) (q1_2 : Nat) (q1_3 : Nat) (q1_4 : Int) (q1_5 : Nat) (q1_6 : Nat) (found_8 : Bool) (t50 : Int) (q2_1 : Int) (q2_2 : Nat) (q2_3 : Nat) (k3_4 : Nat → Int → Int → Nat → Nat → (Int × Nat × Nat × (List Nat) × Bool)) : Nat → Nat → Int → Int → Nat → Nat → Int × Nat × Nat × (List Nat) × Bool
  | 0, _, _, _, _, _ => (0, 0, 0, [], false)
  | μ3 + 1, q, t60, q3_1, q3_2, q3_3 => (bif decide ((t60 : Int) < (((p_impl_atomBy ((p_impl_realKernel (((l_scales).getD (t35 : Int).toNat 0))).1) ((p_impl_realKernel (((l_scales).getD (t35 : Int).toNat 0))).2) (l_list.length : Int) t50 1065353216)).length : Int)) then (p_impl_PursueOnce_l3 l_list l_scales t6 found t35 q1_1 q1_2 q1_3 q1_4 q1_5 q1_6 found_8 t50 q2_1 q2_2 q2_3 k3_4 μ3 (fadd .f32 q (fmul .f32 ((((p_impl_atomBy ((p_impl_realKernel (((l_scales).getD (t35 : Int).toNat 0))).1) ((p_impl_realKernel (((l_scales).getD (t35 : Int).toNat 0))).2) (l_list.length : Int) t50 1065353216)).getD (t60 : Int).toNat 0)) (((l_list).getD (t60 : Int).toNat 0)))) (t60 + 1) q3_1 q3_2 q3_3) else (k3_4 q t60 q3_1 q3_2 q3_3))
def p_impl_PursueOnce_l3_s := fun l_list l_scales t6 found t35 q1_1 q1_2 q1_3 q1_4 q1_5 q1_6 found_8 t50 q2_1 q2_2 q2_3 k3_4 μ3 q t60 q3_1 q3_2 q3_3 => @p_impl_PursueOnce_l3.eq_2 l_list l_scales t6 found t35 q1_1 q1_2 q1_3 q1_4 q1_5 q1_6 found_8 t50 q2_1 q2_2 q2_3 k3_4 q t60 q3_1 q3_2 q3_3 μ3
def p_impl_PursueOnce_l2 (l_list : List Nat) (l_scales : List Nat) (t6 : Bool) (found : Bool) (t35 : Int) (q1_1 : Int) (q1_2 : Nat) (q1_3 : Nat) (q1_4 : Int) (q1_5 : Nat) (q1_6 : Nat) (k2_2 : Bool → Int → Int → Nat → Nat → (Int × Nat × Nat × (List Nat) × Bool)) : Nat → Bool → Int → Int → Nat → Nat → Int × Nat × Nat × (List Nat) × Bool
  | 0, _, _, _, _, _ => (0, 0, 0, [], false)
  | μ2 + 1, found_8, t50, q2_1, q2_2, q2_3 => (bif decide ((t50 : Int) < (l_list.length : Int)) then (p_impl_PursueOnce_l3 l_list l_scales t6 found t35 q1_1 q1_2 q1_3 q1_4 q1_5 q1_6 found_8 t50 q2_1 q2_2 q2_3 (fun (q : Nat) (t60 : Int) (q3_1 : Int) (q3_2 : Nat) (q3_3 : Nat) => (bif !found_8 then (p_impl_PursueOnce_l2 l_list l_scales t6 found t35 q1_1 q1_2 q1_3 q1_4 q1_5 q1_6 k2_2 μ2 true (t50 + 1) t50 (((l_scales).getD (t35 : Int).toNat 0)) q) else (bif flt .f32 (p_impl_size q3_3) (p_impl_size q) then (p_impl_PursueOnce_l2 l_list l_scales t6 found t35 q1_1 q1_2 q1_3 q1_4 q1_5 q1_6 k2_2 μ2 true (t50 + 1) t50 (((l_scales).getD (t35 : Int).toNat 0)) q) else (p_impl_PursueOnce_l2 l_list l_scales t6 found t35 q1_1 q1_2 q1_3 q1_4 q1_5 q1_6 k2_2 μ2 found_8 (t50 + 1) q3_1 q3_2 q3_3)))) (Int.toNat ((((p_impl_atomBy ((p_impl_realKernel (((l_scales).getD (t35 : Int).toNat 0))).1) ((p_impl_realKernel (((l_scales).getD (t35 : Int).toNat 0))).2) (l_list.length : Int) t50 1065353216)).length : Int) - (0 : Int)) + 1) 0 (0 : Int) q2_1 q2_2 q2_3) else (k2_2 found_8 t50 q2_1 q2_2 q2_3))
def p_impl_PursueOnce_l2_s := fun l_list l_scales t6 found t35 q1_1 q1_2 q1_3 q1_4 q1_5 q1_6 k2_2 μ2 found_8 t50 q2_1 q2_2 q2_3 => @p_impl_PursueOnce_l2.eq_2 l_list l_scales t6 found t35 q1_1 q1_2 q1_3 q1_4 q1_5 q1_6 k2_2 found_8 t50 q2_1 q2_2 q2_3 μ2
def p_impl_PursueOnce_l4 (l_list : List Nat) (l_scales : List Nat) (t6 : Bool) (found : Bool) (t35 : Int) (q1_1 : Int) (q1_2 : Nat) (q1_3 : Nat) (q1_4 : Int) (q1_5 : Nat) (q1_6 : Nat) (k4_6 : (List Nat) → Int → Int → Nat → Nat → (Int × Nat × Nat × (List Nat) × Bool)) : Nat → (List Nat) → Int → Int → Nat → Nat → Int × Nat × Nat × (List Nat) × Bool
  | 0, _, _, _, _, _ => (0, 0, 0, [], false)
  | μ4 + 1, l_rest, t103, q4_1, q4_2, q4_3 => (bif decide ((t103 : Int) < (l_list.length : Int)) then (p_impl_PursueOnce_l4 l_list l_scales t6 found t35 q1_1 q1_2 q1_3 q1_4 q1_5 q1_6 k4_6 μ4 ((l_rest ++ [(fsub .f32 (((l_list).getD (t103 : Int).toNat 0)) ((((p_impl_AtomList (l_list.length : Int) q1_4 q1_5 q1_6).1).getD (t103 : Int).toNat 0)))])) (t103 + 1) q4_1 q4_2 q4_3) else (k4_6 l_rest t103 q4_1 q4_2 q4_3))
def p_impl_PursueOnce_l4_s := fun l_list l_scales t6 found t35 q1_1 q1_2 q1_3 q1_4 q1_5 q1_6 k4_6 μ4 l_rest t103 q4_1 q4_2 q4_3 => @p_impl_PursueOnce_l4.eq_2 l_list l_scales t6 found t35 q1_1 q1_2 q1_3 q1_4 q1_5 q1_6 k4_6 l_rest t103 q4_1 q4_2 q4_3 μ4
def p_impl_PursueOnce_l1 (l_list : List Nat) (l_scales : List Nat) : Nat → Bool → Bool → Int → Int → Nat → Nat → Int → Nat → Nat → Int × Nat × Nat × (List Nat) × Bool
  | 0, _, _, _, _, _, _, _, _, _ => (0, 0, 0, [], false)
  | μ + 1, t6, found, t35, q1_1, q1_2, q1_3, q1_4, q1_5, q1_6 => (bif decide ((t35 : Int) < (l_scales.length : Int)) then (bif !((p_impl_isScale (((l_scales).getD (t35 : Int).toNat 0)))) then ((0 : Int), 0, 0, [], false) else (p_impl_PursueOnce_l2 l_list l_scales t6 found t35 q1_1 q1_2 q1_3 q1_4 q1_5 q1_6 (fun (found_8 : Bool) (t50 : Int) (q2_1 : Int) (q2_2 : Nat) (q2_3 : Nat) => (p_impl_PursueOnce_l1 l_list l_scales μ t6 found_8 (t35 + 1) q1_1 q1_2 q1_3 q2_1 q2_2 q2_3)) (Int.toNat ((l_list.length : Int) - (0 : Int)) + 1) found (0 : Int) q1_4 q1_5 q1_6)) else (bif !((p_impl_AtomList (l_list.length : Int) q1_4 q1_5 q1_6).2) then ((0 : Int), 0, 0, [], false) else (p_impl_PursueOnce_l4 l_list l_scales t6 found t35 q1_1 q1_2 q1_3 q1_4 q1_5 q1_6 (fun (l_rest : List Nat) (t103 : Int) (q4_1 : Int) (q4_2 : Nat) (q4_3 : Nat) => (bif !((p_impl_areFinite ([l_rest]))) then ((0 : Int), 0, 0, [], false) else (q1_4, q1_5, q1_6, l_rest, true))) (Int.toNat ((l_list.length : Int) - (0 : Int)) + 1) ([] : List Nat) (0 : Int) q1_1 q1_2 q1_3)))
def p_impl_PursueOnce_l1_s := fun l_list l_scales μ t6 found t35 q1_1 q1_2 q1_3 q1_4 q1_5 q1_6 => @p_impl_PursueOnce_l1.eq_2 l_list l_scales t6 found t35 q1_1 q1_2 q1_3 q1_4 q1_5 q1_6 μ
def p_impl_PursueOnce (l_list : List Nat) (l_scales : List Nat) : Int × Nat × Nat × (List Nat) × Bool := (bif !(p_impl_isLong l_list) then ((0 : Int), 0, 0, [], false) else (bif !((p_impl_within (l_scales.length : Int) (1 : Int) (12 : Int))) then ((0 : Int), 0, 0, [], false) else (p_impl_PursueOnce_l1 l_list l_scales (Int.toNat ((l_scales.length : Int) - (0 : Int)) + 1) false false (0 : Int) 0 0 0 0 0 0)))
def p_impl_PursueOnce_eq := @p_impl_PursueOnce.eq_1
def T_impl_PursueOnce (list_a : Option Addr) (list_n : Nat) (list_e : Nat) (scales_a : Option Addr) (scales_n : Nat) (scales_e : Nat) (H : AHeap) (K : Int → Nat → Nat → (Option Addr) → Nat → Nat → Bool → AHeap → Prop) : Prop := ∃ (l_list : List Nat), ∃ (l_scales : List Nat), IsL fF H list_a list_n l_list ∧ IsL fF H scales_a scales_n l_scales ∧ l_list.length < 1073741824 ∧ l_scales.length < 1073741824 ∧ ((∀ (r2_a : Option Addr) (r2_n r2_e : Nat), ∀ H' : AHeap, Grow H H' → OwnS fF H' H.length r2_a r2_n r2_e ((p_impl_PursueOnce l_list l_scales).2.2.2.1) → K ((p_impl_PursueOnce l_list l_scales).1) ((p_impl_PursueOnce l_list l_scales).2.1) ((p_impl_PursueOnce l_list l_scales).2.2.1) r2_a r2_n r2_e ((p_impl_PursueOnce l_list l_scales).2.2.2.2) H'))
theorem T_impl_PursueOnce_i {list_a : Option Addr} {list_n : Nat} {list_e : Nat} {scales_a : Option Addr} {scales_n : Nat} {scales_e : Nat} {H : AHeap} {K : Int → Nat → Nat → (Option Addr) → Nat → Nat → Bool → AHeap → Prop} (h : ∃ (l_list : List Nat), ∃ (l_scales : List Nat), IsL fF H list_a list_n l_list ∧ IsL fF H scales_a scales_n l_scales ∧ l_list.length < 1073741824 ∧ l_scales.length < 1073741824 ∧ ((∀ (r2_a : Option Addr) (r2_n r2_e : Nat), ∀ H' : AHeap, Grow H H' → OwnS fF H' H.length r2_a r2_n r2_e ((p_impl_PursueOnce l_list l_scales).2.2.2.1) → K ((p_impl_PursueOnce l_list l_scales).1) ((p_impl_PursueOnce l_list l_scales).2.1) ((p_impl_PursueOnce l_list l_scales).2.2.1) r2_a r2_n r2_e ((p_impl_PursueOnce l_list l_scales).2.2.2.2) H'))) : T_impl_PursueOnce list_a list_n list_e scales_a scales_n scales_e H K := h
theorem impl_PO_l4 (N : Nat) (l sc : List Nat) (t6 fo : Bool) (t35 : Int) (a : Int) (b c : Nat) (d : Int) (e f : Nat) (K : List Nat → Int → Int → Nat → Nat → (Int × Nat × Nat × (List Nat) × Bool)) (hK : ∀ o t x y z, o.length ≤ N → RL N (K o t x y z)) :
    ∀ (μ : Nat) (o : List Nat) (t x : Int) (y z : Nat), o.length + μ ≤ N + 1 → RL N (p_impl_PursueOnce_l4 l sc t6 fo t35 a b c d e f K μ o t x y z) := by
  intro μ
  induction μ with
  | zero => intro o t x y z h; exact rl0 N
  | succ μ ih =>
    intro o t x y z h
    rw [p_impl_PursueOnce_l4_s]
    refine cnb (P := RL N) (fun _ => ih _ _ _ _ _ ?_) (fun _ => hK _ _ _ _ _ o3)
    rw [List.length_append, List.length_singleton]; omega
theorem impl_PO_l3 (N : Nat) (l sc : List Nat) (t6 fo : Bool) (t35 : Int) (a : Int) (b c : Nat) (d : Int) (e f : Nat) (f8 : Bool) (t50 g : Int) (h i : Nat) (K : Nat → Int → Int → Nat → Nat → (Int × Nat × Nat × (List Nat) × Bool)) (hK : ∀ q t x y z, RL N (K q t x y z)) :
    ∀ (μ q : Nat) (t x : Int) (y z : Nat), RL N (p_impl_PursueOnce_l3 l sc t6 fo t35 a b c d e f f8 t50 g h i K μ q t x y z) := by
  intro μ
  induction μ with
  | zero => intro q t x y z; exact rl0 N
  | succ μ ih =>
    intro q t x y z
    rw [p_impl_PursueOnce_l3_s]
    exact cnb (P := RL N) (fun _ => ih _ _ _ _ _) (fun _ => hK _ _ _ _ _)
theorem impl_PO_l2 (N : Nat) (l sc : List Nat) (t6 fo : Bool) (t35 : Int) (a : Int) (b c : Nat) (d : Int) (e f : Nat) (K : Bool → Int → Int → Nat → Nat → (Int × Nat × Nat × (List Nat) × Bool)) (hK : ∀ q t x y z, RL N (K q t x y z)) :
    ∀ (μ : Nat) (q : Bool) (t x : Int) (y z : Nat), RL N (p_impl_PursueOnce_l2 l sc t6 fo t35 a b c d e f K μ q t x y z) := by
  intro μ
  induction μ with
  | zero => intro q t x y z; exact rl0 N
  | succ μ ih =>
    intro q t x y z
    rw [p_impl_PursueOnce_l2_s]
    refine cnb (P := RL N) (fun _ => ?_) (fun _ => hK _ _ _ _ _)
    refine impl_PO_l3 N _ _ _ _ _ _ _ _ _ _ _ _ _ _ _ _ _ (fun q t x y z => ?_) _ _ _ _ _ _
    exact cnb (P := RL N) (fun _ => ih _ _ _ _ _) (fun _ => cnb (P := RL N) (fun _ => ih _ _ _ _ _) (fun _ => ih _ _ _ _ _))
theorem impl_PO_l1 (l sc : List Nat) : ∀ (μ : Nat) (t6 fo : Bool) (t35 : Int) (a : Int) (b c : Nat) (d : Int) (e f : Nat), RL l.length (p_impl_PursueOnce_l1 l sc μ t6 fo t35 a b c d e f) := by
  intro μ
  induction μ with
  | zero => intro t6 fo t35 a b c d e f; exact rl0 _
  | succ μ ih =>
    intro t6 fo t35 a b c d e f
    rw [p_impl_PursueOnce_l1_s]
    refine cnb (P := RL l.length) (fun _ => ?_) (fun _ => ?_)
    · refine cnb (P := RL l.length) (fun _ => rl0 _) (fun _ => ?_)
      exact impl_PO_l2 _ _ _ _ _ _ _ _ _ _ _ _ _ (fun q t x y z => ih _ _ _ _ _ _ _ _ _) _ _ _ _ _ _
    · refine cnb (P := RL l.length) (fun _ => rl0 _) (fun _ => ?_)
      refine impl_PO_l4 _ _ _ _ _ _ _ _ _ _ _ _ _ (fun o t x y z ho => ?_) _ _ _ _ _ _ o35
      exact cnb (P := RL l.length) (fun _ => rl0 _) (fun _ => ho)
theorem impl_PursueOnce_len (l sc : List Nat) : (p_impl_PursueOnce l sc).2.2.2.1.length ≤ l.length := by
  rw [p_impl_PursueOnce_eq]
  refine cnb (P := RL l.length) (fun _ => rl0 _) (fun _ => ?_)
  exact cnb (P := RL l.length) (fun _ => rl0 _) (fun _ => impl_PO_l1 _ _ _ _ _ _ _ _ _ _ _ _)
/-! impl_PursueOnce: function 45 -/
def E_impl_PursueOnce : Env := envOf [(75, S_impl_isLong), (54, S_impl_within), (55, S_impl_isScale), (57, S_impl_realKernel), (59, S_impl_atomBy), (80, S_impl_size), (13, S_impl_AtomList), (81, S_impl_areFinite)]
def F_impl_PursueOnce : List Value → AHeap → (Value → AHeap → Prop) → Prop
  | [.slice list_a list_n list_e, .slice scales_a scales_n scales_e], H, K => T_impl_PursueOnce list_a list_n list_e scales_a scales_n scales_e H fun (r1_Place : Int) (r1_Scale : Nat) (r1_Size : Nat) (r2_a : Option Addr) (r2_n : Nat) (r2_e : Nat) (r3 : Bool) (H' : AHeap) => K (.tuple #[.agg #[.int .i64 r1_Place, .float .f32 r1_Scale, .float .f32 r1_Size], .slice r2_a r2_n r2_e, .bool r3]) H'
  | _, _, _ => False
def S_impl_PursueOnce : FSpec := { F := F_impl_PursueOnce, quiet := false, tame := true }
theorem impl_PursueOnce_vc (list_a : Option Addr) (list_n : Nat) (list_e : Nat) (scales_a : Option Addr) (scales_n : Nat) (scales_e : Nat) (H : AHeap) (K : Value → AHeap → Prop) : bodyK Try.prog E_impl_PursueOnce Try.f45 [.slice list_a list_n list_e, .slice scales_a scales_n scales_e] H K =
  (Al [.int .i64 0, .float .f32 0, .float .f32 0] H fun b1 H1 => T_impl_isLong list_a list_n list_e H1 fun (r1 : Bool) (H2 : AHeap) => Br (!r1) (isOwn H2 b1 ∧ (∃ l, rdN H2 b1 0 3 = some l) ∧ Lt (setN H2 b1 0 [.int .i64 0, .float .f32 0, .float .f32 0]) fun H3 => ∃ c1 : Int, ∃ c2 : Nat, ∃ c3 : Nat,  rdN H3 b1 0 3 = some [.int .i64 c1, .float .f32 c2, .float .f32 c3] ∧ K (.tuple #[.agg #[.int .i64 c1, .float .f32 c2, .float .f32 c3], .slice none 0 0, .bool false]) H3) (T_impl_within (scales_n : Int) 1 12 H2 fun (r2 : Bool) (H4 : AHeap) => Br (!r2) (isOwn H4 b1 ∧ (∃ l, rdN H4 b1 0 3 = some l) ∧ Lt (setN H4 b1 0 [.int .i64 0, .float .f32 0, .float .f32 0]) fun H5 => ∃ c4 : Int, ∃ c5 : Nat, ∃ c6 : Nat,  rdN H5 b1 0 3 = some [.int .i64 c4, .float .f32 c5, .float .f32 c6] ∧ K (.tuple #[.agg #[.int .i64 c4, .float .f32 c5, .float .f32 c6], .slice none 0 0, .bool false]) H5) (Al [.int .i64 0, .float .f32 0, .float .f32 0] H4 fun b2 H6 => isOwn H6 b2 ∧ (∃ l, rdN H6 b2 0 3 = some l) ∧ Lt (setN H6 b2 0 [.int .i64 0, .float .f32 0, .float .f32 0]) fun H7 => loopK (exK Try.prog E_impl_PursueOnce (cl (cl (cr (cl (cr (cr (cr (bodyC Try.f45))))))))) [.slice list_a list_n list_e, .slice scales_a scales_n scales_e, undef, undef, .pointer (some ⟨b1, 0, none⟩), .slice none 0 0, .bool false, .pointer (some ⟨b2, 0, none⟩), .bool false, undef, undef, undef, undef, undef, undef, undef, undef, undef, undef, undef, undef, undef, .slice list_a list_n list_e, .bool r1, .bool (!r1), .bool false, .slice scales_a scales_n scales_e, .int .i64 (scales_n : Int), .bool r2, .bool (!r2), .bool (!r2), undef, .agg #[.int .i64 0, .float .f32 0, .float .f32 0], .slice scales_a scales_n scales_e, .int .i64 (scales_n : Int), .int .i64 0, undef, undef, undef, undef, undef, undef, undef, undef, undef, undef, undef, undef, undef, undef, undef, undef, undef, undef, undef, undef, undef, undef, undef, undef, undef, undef, undef, undef, undef, undef, undef, undef, undef, undef, undef, undef, undef, undef, undef, undef, undef, undef, undef, undef, undef, undef, undef, undef, undef, undef, undef, undef, undef, undef, undef, undef, undef, undef, undef, undef, undef, undef, undef, undef, undef, undef, undef, undef, undef, undef, undef, undef, undef, undef, undef, undef, undef, undef, undef, undef, undef, undef, undef, undef, undef, undef, undef, undef, undef] H7 (blockQ 0 (seqQ (exK Try.prog E_impl_PursueOnce (cr (cr (cr (cr (bodyC Try.f45)))))) (retK Try.prog Try.f45 K)))))) := by kernel_rfl
abbrev impl_PursueOnce_P1 (b1 : Nat) (b2 : Nat) (list_a : Option Addr) (list_e : Nat) (list_n : Nat) (r1 : Bool) (r2 : Bool) (scales_a : Option Addr) (scales_e : Nat) (scales_n : Nat) (t5_a : Option Addr) (t5_n : Nat) (t5_e : Nat) (t6 : Bool) (found : Bool) (t35 : Int) (g10 g11 g12 g13 g14 g15 g16 g36 g37 g38 g39 g40 g41 g42 g43 g44 g45 g46 g47 g48 g49 g50 g51 g52 g53 g54 g55 g56 g57 g58 g59 g60 g61 g62 g63 g64 g65 g66 g67 g68 g69 g70 g71 g72 g73 g74 g75 g76 g77 g78 g79 g80 g81 g82 g83 g84 g85 g86 g87 g88 g89 : Value) : List Value := [.slice list_a list_n list_e, .slice scales_a scales_n scales_e, undef, undef, .pointer (some ⟨b1, 0, none⟩), .slice t5_a t5_n t5_e, .bool t6, .pointer (some ⟨b2, 0, none⟩), .bool found, undef, g10, g11, g12, g13, g14, g15, g16, undef, undef, undef, undef, undef, .slice list_a list_n list_e, .bool r1, .bool (!r1), .bool false, .slice scales_a scales_n scales_e, .int .i64 (scales_n : Int), .bool r2, .bool (!r2), .bool (!r2), undef, .agg #[.int .i64 0, .float .f32 0, .float .f32 0], .slice scales_a scales_n scales_e, .int .i64 (scales_n : Int), .int .i64 t35, g36, g37, g38, g39, g40, g41, g42, g43, g44, g45, g46, g47, g48, g49, g50, g51, g52, g53, g54, g55, g56, g57, g58, g59, g60, g61, g62, g63, g64, g65, g66, g67, g68, g69, g70, g71, g72, g73, g74, g75, g76, g77, g78, g79, g80, g81, g82, g83, g84, g85, g86, g87, g88, g89, undef, undef, undef, undef, undef, undef, undef, undef, undef, undef, undef, undef, undef, undef, undef, undef, undef, undef, undef, undef, undef, undef, undef, undef, undef, undef, undef, undef, undef, undef, undef, undef, undef, undef, undef]
theorem impl_PursueOnce_r1 (b1 : Nat) (b2 : Nat) (list_a : Option Addr) (list_e : Nat) (list_n : Nat) (r1 : Bool) (r2 : Bool) (scales_a : Option Addr) (scales_e : Nat) (scales_n : Nat) (t5_a : Option Addr) (t5_n : Nat) (t5_e : Nat) (t6 : Bool) (found : Bool) (t35 : Int) (g10 g11 g12 g13 g14 g15 g16 g36 g37 g38 g39 g40 g41 g42 g43 g44 g45 g46 g47 g48 g49 g50 g51 g52 g53 g54 g55 g56 g57 g58 g59 g60 g61 g62 g63 g64 g65 g66 g67 g68 g69 g70 g71 g72 g73 g74 g75 g76 g77 g78 g79 g80 g81 g82 g83 g84 g85 g86 g87 g88 g89 : Value) (H : AHeap) (R : Post) : exK Try.prog E_impl_PursueOnce (cl (cl (cr (cl (cr (cr (cr (bodyC Try.f45)))))))) (impl_PursueOnce_P1 b1 b2 list_a list_e list_n r1 r2 scales_a scales_e scales_n t5_a t5_n t5_e t6 found t35 g10 g11 g12 g13 g14 g15 g16 g36 g37 g38 g39 g40 g41 g42 g43 g44 g45 g46 g47 g48 g49 g50 g51 g52 g53 g54 g55 g56 g57 g58 g59 g60 g61 g62 g63 g64 g65 g66 g67 g68 g69 g70 g71 g72 g73 g74 g75 g76 g77 g78 g79 g80 g81 g82 g83 g84 g85 g86 g87 g88 g89) H R =
  (Br (decide ((t35 : Int) < (scales_n : Int))) ((0 : Int) ≤ t35 ∧ t35 < (scales_n : Int) ∧ ∃ b3 f1, (scales_a : Option Addr) = some ⟨b3, f1, none⟩ ∧ ∃ x1 : Nat,  rdC H b3 (f1 + (t35 : Int).toNat * 1) = some (.float .f32 x1) ∧ T_impl_isScale x1 H fun (r3 : Bool) (H8 : AHeap) => Br (!r3) (isOwn H8 b1 ∧ (∃ l, rdN H8 b1 0 3 = some l) ∧ Lt (setN H8 b1 0 [.int .i64 0, .float .f32 0, .float .f32 0]) fun H9 => R .ret [.slice list_a list_n list_e, .slice scales_a scales_n scales_e, undef, undef, .pointer (some ⟨b1, 0, none⟩), .slice none 0 0, .bool false, .pointer (some ⟨b2, 0, none⟩), .bool found, undef, .float .f32 x1, g11, g12, g13, g14, g15, g16, undef, undef, undef, undef, undef, .slice list_a list_n list_e, .bool r1, .bool (!r1), .bool false, .slice scales_a scales_n scales_e, .int .i64 (scales_n : Int), .bool r2, .bool (!r2), .bool (!r2), undef, .agg #[.int .i64 0, .float .f32 0, .float .f32 0], .slice scales_a scales_n scales_e, .int .i64 (scales_n : Int), .int .i64 t35, .bool (decide ((t35 : Int) < (scales_n : Int))), .pointer (some ⟨b3, f1 + (t35 : Int).toNat * 1, none⟩), .float .f32 x1, .float .f32 x1, .bool r3, .bool (!r3), .agg #[.int .i64 0, .float .f32 0, .float .f32 0], g43, g44, g45, g46, g47, g48, g49, g50, g51, g52, g53, g54, g55, g56, g57, g58, g59, g60, g61, g62, g63, g64, g65, g66, g67, g68, g69, g70, g71, g72, g73, g74, g75, g76, g77, g78, g79, g80, g81, g82, g83, g84, g85, g86, g87, g88, g89, undef, undef, undef, undef, undef, undef, undef, undef, undef, undef, undef, undef, undef, undef, undef, undef, undef, undef, undef, undef, undef, undef, undef, undef, undef, undef, undef, undef, undef, undef, undef, undef, undef, undef, undef] H9) (T_impl_realKernel x1 H8 fun (a1 : Option Addr) (r4 : Nat) (r5 : Nat) (r6 : Int) (H10 : AHeap) => loopK (exK Try.prog E_impl_PursueOnce (cl (cl (cr (cr (cr (cr (cl (cl (cr (cr (cl (cl (cr (cl (cr (cr (cr (bodyC Try.f45))))))))))))))))))) [.slice list_a list_n list_e, .slice scales_a scales_n scales_e, undef, undef, .pointer (some ⟨b1, 0, none⟩), .slice t5_a t5_n t5_e, .bool t6, .pointer (some ⟨b2, 0, none⟩), .bool found, undef, .float .f32 x1, .slice a1 r4 r5, .int .i64 r6, g13, g14, g15, g16, undef, undef, undef, undef, undef, .slice list_a list_n list_e, .bool r1, .bool (!r1), .bool false, .slice scales_a scales_n scales_e, .int .i64 (scales_n : Int), .bool r2, .bool (!r2), .bool (!r2), undef, .agg #[.int .i64 0, .float .f32 0, .float .f32 0], .slice scales_a scales_n scales_e, .int .i64 (scales_n : Int), .int .i64 t35, .bool (decide ((t35 : Int) < (scales_n : Int))), .pointer (some ⟨b3, f1 + (t35 : Int).toNat * 1, none⟩), .float .f32 x1, .float .f32 x1, .bool r3, .bool (!r3), g42, .tuple #[.slice a1 r4 r5, .int .i64 r6], .float .f32 x1, .tuple #[.slice a1 r4 r5, .int .i64 r6], .slice a1 r4 r5, .int .i64 r6, .slice list_a list_n list_e, .int .i64 (list_n : Int), .int .i64 0, g51, g52, g53, g54, g55, g56, g57, g58, g59, g60, g61, g62, g63, g64, g65, g66, g67, g68, g69, g70, g71, g72, g73, g74, g75, g76, g77, g78, g79, g80, g81, g82, g83, g84, g85, g86, g87, g88, g89, undef, undef, undef, undef, undef, undef, undef, undef, undef, undef, undef, undef, undef, undef, undef, undef, undef, undef, undef, undef, undef, undef, undef, undef, undef, undef, undef, undef, undef, undef, undef, undef, undef, undef, undef] H10 (blockQ 2 (blockQ 1 (seqQ (exK Try.prog E_impl_PursueOnce (cr (cr (cr (cl (cl (cr (cl (cr (cr (cr (bodyC Try.f45)))))))))))) (R)))))) (R (.exit 0) [.slice list_a list_n list_e, .slice scales_a scales_n scales_e, undef, undef, .pointer (some ⟨b1, 0, none⟩), .slice t5_a t5_n t5_e, .bool t6, .pointer (some ⟨b2, 0, none⟩), .bool found, undef, g10, g11, g12, g13, g14, g15, g16, undef, undef, undef, undef, undef, .slice list_a list_n list_e, .bool r1, .bool (!r1), .bool false, .slice scales_a scales_n scales_e, .int .i64 (scales_n : Int), .bool r2, .bool (!r2), .bool (!r2), undef, .agg #[.int .i64 0, .float .f32 0, .float .f32 0], .slice scales_a scales_n scales_e, .int .i64 (scales_n : Int), .int .i64 t35, .bool (decide ((t35 : Int) < (scales_n : Int))), g37, g38, g39, g40, g41, g42, g43, g44, g45, g46, g47, g48, g49, g50, g51, g52, g53, g54, g55, g56, g57, g58, g59, g60, g61, g62, g63, g64, g65, g66, g67, g68, g69, g70, g71, g72, g73, g74, g75, g76, g77, g78, g79, g80, g81, g82, g83, g84, g85, g86, g87, g88, g89, undef, undef, undef, undef, undef, undef, undef, undef, undef, undef, undef, undef, undef, undef, undef, undef, undef, undef, undef, undef, undef, undef, undef, undef, undef, undef, undef, undef, undef, undef, undef, undef, undef, undef, undef] H)) := by kernel_rfl
def impl_PursueOnce_I1 (b1 : Nat) (b2 : Nat) (list_a : Option Addr) (list_e : Nat) (list_n : Nat) (r1 : Bool) (r2 : Bool) (scales_a : Option Addr) (scales_e : Nat) (scales_n : Nat) (Inv : Nat → (Option Addr) → Nat → Nat → Bool → Bool → Int → AHeap → Prop) : Nat → List Value → AHeap → Prop := fun μ tm H => ∃ (t5_a : Option Addr), ∃ (t5_n : Nat), ∃ (t5_e : Nat), ∃ (t6 : Bool), ∃ (found : Bool), ∃ (t35 : Int), ∃ g10 g11 g12 g13 g14 g15 g16 g36 g37 g38 g39 g40 g41 g42 g43 g44 g45 g46 g47 g48 g49 g50 g51 g52 g53 g54 g55 g56 g57 g58 g59 g60 g61 g62 g63 g64 g65 g66 g67 g68 g69 g70 g71 g72 g73 g74 g75 g76 g77 g78 g79 g80 g81 g82 g83 g84 g85 g86 g87 g88 g89, tm = (impl_PursueOnce_P1 b1 b2 list_a list_e list_n r1 r2 scales_a scales_e scales_n t5_a t5_n t5_e t6 found t35 g10 g11 g12 g13 g14 g15 g16 g36 g37 g38 g39 g40 g41 g42 g43 g44 g45 g46 g47 g48 g49 g50 g51 g52 g53 g54 g55 g56 g57 g58 g59 g60 g61 g62 g63 g64 g65 g66 g67 g68 g69 g70 g71 g72 g73 g74 g75 g76 g77 g78 g79 g80 g81 g82 g83 g84 g85 g86 g87 g88 g89) ∧ Inv μ t5_a t5_n t5_e t6 found t35 H
theorem impl_PursueOnce_L1 (b1 : Nat) (b2 : Nat) (list_a : Option Addr) (list_e : Nat) (list_n : Nat) (r1 : Bool) (r2 : Bool) (scales_a : Option Addr) (scales_e : Nat) (scales_n : Nat) {Q : Post} (Inv : Nat → (Option Addr) → Nat → Nat → Bool → Bool → Int → AHeap → Prop) (ν : Nat) (t5_a : Option Addr) (t5_n : Nat) (t5_e : Nat) (t6 : Bool) (found : Bool) (t35 : Int) (g10 g11 g12 g13 g14 g15 g16 g36 g37 g38 g39 g40 g41 g42 g43 g44 g45 g46 g47 g48 g49 g50 g51 g52 g53 g54 g55 g56 g57 g58 g59 g60 g61 g62 g63 g64 g65 g66 g67 g68 g69 g70 g71 g72 g73 g74 g75 g76 g77 g78 g79 g80 g81 g82 g83 g84 g85 g86 g87 g88 g89 : Value) (H : AHeap) (h0 : Inv ν t5_a t5_n t5_e t6 found t35 H)
    (hs : ∀ (μ : Nat) (t5_a : Option Addr) (t5_n : Nat) (t5_e : Nat) (t6 : Bool) (found : Bool) (t35 : Int) (g10 g11 g12 g13 g14 g15 g16 g36 g37 g38 g39 g40 g41 g42 g43 g44 g45 g46 g47 g48 g49 g50 g51 g52 g53 g54 g55 g56 g57 g58 g59 g60 g61 g62 g63 g64 g65 g66 g67 g68 g69 g70 g71 g72 g73 g74 g75 g76 g77 g78 g79 g80 g81 g82 g83 g84 g85 g86 g87 g88 g89 : Value) (H : AHeap), Inv μ t5_a t5_n t5_e t6 found t35 H → exK Try.prog E_impl_PursueOnce (cl (cl (cr (cl (cr (cr (cr (bodyC Try.f45)))))))) (impl_PursueOnce_P1 b1 b2 list_a list_e list_n r1 r2 scales_a scales_e scales_n t5_a t5_n t5_e t6 found t35 g10 g11 g12 g13 g14 g15 g16 g36 g37 g38 g39 g40 g41 g42 g43 g44 g45 g46 g47 g48 g49 g50 g51 g52 g53 g54 g55 g56 g57 g58 g59 g60 g61 g62 g63 g64 g65 g66 g67 g68 g69 g70 g71 g72 g73 g74 g75 g76 g77 g78 g79 g80 g81 g82 g83 g84 g85 g86 g87 g88 g89) H (loopQ (impl_PursueOnce_I1 b1 b2 list_a list_e list_n r1 r2 scales_a scales_e scales_n Inv) μ Q)) : loopK (exK Try.prog E_impl_PursueOnce (cl (cl (cr (cl (cr (cr (cr (bodyC Try.f45))))))))) (impl_PursueOnce_P1 b1 b2 list_a list_e list_n r1 r2 scales_a scales_e scales_n t5_a t5_n t5_e t6 found t35 g10 g11 g12 g13 g14 g15 g16 g36 g37 g38 g39 g40 g41 g42 g43 g44 g45 g46 g47 g48 g49 g50 g51 g52 g53 g54 g55 g56 g57 g58 g59 g60 g61 g62 g63 g64 g65 g66 g67 g68 g69 g70 g71 g72 g73 g74 g75 g76 g77 g78 g79 g80 g81 g82 g83 g84 g85 g86 g87 g88 g89) H Q :=
  ⟨impl_PursueOnce_I1 b1 b2 list_a list_e list_n r1 r2 scales_a scales_e scales_n Inv, ν, ⟨t5_a, t5_n, t5_e, t6, found, t35, g10, g11, g12, g13, g14, g15, g16, g36, g37, g38, g39, g40, g41, g42, g43, g44, g45, g46, g47, g48, g49, g50, g51, g52, g53, g54, g55, g56, g57, g58, g59, g60, g61, g62, g63, g64, g65, g66, g67, g68, g69, g70, g71, g72, g73, g74, g75, g76, g77, g78, g79, g80, g81, g82, g83, g84, g85, g86, g87, g88, g89, rfl, h0⟩, fun μ tm H h => by obtain ⟨t5_a, t5_n, t5_e, t6, found, t35, g10, g11, g12, g13, g14, g15, g16, g36, g37, g38, g39, g40, g41, g42, g43, g44, g45, g46, g47, g48, g49, g50, g51, g52, g53, g54, g55, g56, g57, g58, g59, g60, g61, g62, g63, g64, g65, g66, g67, g68, g69, g70, g71, g72, g73, g74, g75, g76, g77, g78, g79, g80, g81, g82, g83, g84, g85, g86, g87, g88, g89, rfl, hI⟩ := h; exact hs μ t5_a t5_n t5_e t6 found t35 g10 g11 g12 g13 g14 g15 g16 g36 g37 g38 g39 g40 g41 g42 g43 g44 g45 g46 g47 g48 g49 g50 g51 g52 g53 g54 g55 g56 g57 g58 g59 g60 g61 g62 g63 g64 g65 g66 g67 g68 g69 g70 g71 g72 g73 g74 g75 g76 g77 g78 g79 g80 g81 g82 g83 g84 g85 g86 g87 g88 g89 H hI⟩
theorem impl_PursueOnce_n1 {b1 : Nat} {b2 : Nat} {list_a : Option Addr} {list_e : Nat} {list_n : Nat} {r1 : Bool} {r2 : Bool} {scales_a : Option Addr} {scales_e : Nat} {scales_n : Nat} {Q : Post} {Inv : Nat → (Option Addr) → Nat → Nat → Bool → Bool → Int → AHeap → Prop} {μ : Nat} (μ' : Nat) {t5_a : Option Addr} {t5_n : Nat} {t5_e : Nat} {t6 : Bool} {found : Bool} {t35 : Int} {g10 g11 g12 g13 g14 g15 g16 g36 g37 g38 g39 g40 g41 g42 g43 g44 g45 g46 g47 g48 g49 g50 g51 g52 g53 g54 g55 g56 g57 g58 g59 g60 g61 g62 g63 g64 g65 g66 g67 g68 g69 g70 g71 g72 g73 g74 g75 g76 g77 g78 g79 g80 g81 g82 g83 g84 g85 g86 g87 g88 g89 : Value} {H : AHeap} (hm : μ' < μ) (hI : Inv μ' t5_a t5_n t5_e t6 found t35 H) : loopQ (impl_PursueOnce_I1 b1 b2 list_a list_e list_n r1 r2 scales_a scales_e scales_n Inv) μ Q .normal (impl_PursueOnce_P1 b1 b2 list_a list_e list_n r1 r2 scales_a scales_e scales_n t5_a t5_n t5_e t6 found t35 g10 g11 g12 g13 g14 g15 g16 g36 g37 g38 g39 g40 g41 g42 g43 g44 g45 g46 g47 g48 g49 g50 g51 g52 g53 g54 g55 g56 g57 g58 g59 g60 g61 g62 g63 g64 g65 g66 g67 g68 g69 g70 g71 g72 g73 g74 g75 g76 g77 g78 g79 g80 g81 g82 g83 g84 g85 g86 g87 g88 g89) H := ⟨μ', hm, t5_a, t5_n, t5_e, t6, found, t35, g10, g11, g12, g13, g14, g15, g16, g36, g37, g38, g39, g40, g41, g42, g43, g44, g45, g46, g47, g48, g49, g50, g51, g52, g53, g54, g55, g56, g57, g58, g59, g60, g61, g62, g63, g64, g65, g66, g67, g68, g69, g70, g71, g72, g73, g74, g75, g76, g77, g78, g79, g80, g81, g82, g83, g84, g85, g86, g87, g88, g89, rfl, hI⟩
theorem impl_PursueOnce_x1_0 (b1 : Nat) (b2 : Nat) (list_a : Option Addr) (list_e : Nat) (list_n : Nat) (r1 : Bool) (r2 : Bool) (scales_a : Option Addr) (scales_e : Nat) (scales_n : Nat) (t5_a : Option Addr) (t5_n : Nat) (t5_e : Nat) (t6 : Bool) (found : Bool) (t35 : Int) (g10 g11 g12 g13 g14 g15 g16 g36 g37 g38 g39 g40 g41 g42 g43 g44 g45 g46 g47 g48 g49 g50 g51 g52 g53 g54 g55 g56 g57 g58 g59 g60 g61 g62 g63 g64 g65 g66 g67 g68 g69 g70 g71 g72 g73 g74 g75 g76 g77 g78 g79 g80 g81 g82 g83 g84 g85 g86 g87 g88 g89 : Value) (H : AHeap) (K : Value → AHeap → Prop)  {I : Nat → List Value → AHeap → Prop} {μ : Nat} : loopQ I μ (blockQ 0 (seqQ (exK Try.prog E_impl_PursueOnce (cr (cr (cr (cr (bodyC Try.f45)))))) (retK Try.prog Try.f45 K))) (.exit 0) (impl_PursueOnce_P1 b1 b2 list_a list_e list_n r1 r2 scales_a scales_e scales_n t5_a t5_n t5_e t6 found t35 g10 g11 g12 g13 g14 g15 g16 g36 g37 g38 g39 g40 g41 g42 g43 g44 g45 g46 g47 g48 g49 g50 g51 g52 g53 g54 g55 g56 g57 g58 g59 g60 g61 g62 g63 g64 g65 g66 g67 g68 g69 g70 g71 g72 g73 g74 g75 g76 g77 g78 g79 g80 g81 g82 g83 g84 g85 g86 g87 g88 g89) H =
  (∃ c7 : Int, ∃ c8 : Nat, ∃ c9 : Nat,  rdN H b2 0 3 = some [.int .i64 c7, .float .f32 c8, .float .f32 c9] ∧ T_impl_AtomList (list_n : Int) c7 c8 c9 H fun (a3 : Option Addr) (r11 : Nat) (r12 : Nat) (r13 : Bool) (H16 : AHeap) => Br (!r13) (isOwn H16 b1 ∧ (∃ l, rdN H16 b1 0 3 = some l) ∧ Lt (setN H16 b1 0 [.int .i64 0, .float .f32 0, .float .f32 0]) fun H17 => ∃ c10 : Int, ∃ c11 : Nat, ∃ c12 : Nat,  rdN H17 b1 0 3 = some [.int .i64 c10, .float .f32 c11, .float .f32 c12] ∧ K (.tuple #[.agg #[.int .i64 c10, .float .f32 c11, .float .f32 c12], .slice none 0 0, .bool false]) H17) (Al [] H16 fun b6 H18 => loopK (exK Try.prog E_impl_PursueOnce (cl (cl (cr (cl (cr (cr (cr (cr (cr (cr (cr (bodyC Try.f45))))))))))))) [.slice list_a list_n list_e, .slice scales_a scales_n scales_e, undef, undef, .pointer (some ⟨b1, 0, none⟩), .slice t5_a t5_n t5_e, .bool t6, .pointer (some ⟨b2, 0, none⟩), .bool found, undef, g10, g11, g12, g13, g14, g15, g16, .slice a3 r11 r12, .bool r13, .slice (some ⟨b6, 0, none⟩) 0 1, undef, undef, .slice list_a list_n list_e, .bool r1, .bool (!r1), .bool false, .slice scales_a scales_n scales_e, .int .i64 (scales_n : Int), .bool r2, .bool (!r2), .bool (!r2), undef, .agg #[.int .i64 0, .float .f32 0, .float .f32 0], .slice scales_a scales_n scales_e, .int .i64 (scales_n : Int), .int .i64 t35, g36, g37, g38, g39, g40, g41, g42, g43, g44, g45, g46, g47, g48, g49, g50, g51, g52, g53, g54, g55, g56, g57, g58, g59, g60, g61, g62, g63, g64, g65, g66, g67, g68, g69, g70, g71, g72, g73, g74, g75, g76, g77, g78, g79, g80, g81, g82, g83, g84, g85, g86, g87, g88, g89, .tuple #[.slice a3 r11 r12, .bool r13], .slice list_a list_n list_e, .int .i64 (list_n : Int), .agg #[.int .i64 c7, .float .f32 c8, .float .f32 c9], .tuple #[.slice a3 r11 r12, .bool r13], .slice a3 r11 r12, .bool r13, .bool r13, .bool (!r13), undef, .slice (some ⟨b6, 0, none⟩) 0 1, .slice list_a list_n list_e, .int .i64 (list_n : Int), .int .i64 0, undef, undef, undef, undef, undef, undef, undef, undef, undef, undef, undef, undef, undef, undef, undef, undef, undef, undef, undef, undef, undef] H18 (blockQ 6 (seqQ (exK Try.prog E_impl_PursueOnce (cr (cr (cr (cr (cr (cr (cr (cr (bodyC Try.f45)))))))))) (retK Try.prog Try.f45 K))))) := by kernel_rfl
theorem impl_PursueOnce_x1_ret (b1 : Nat) (b2 : Nat) (list_a : Option Addr) (list_e : Nat) (list_n : Nat) (r1 : Bool) (r2 : Bool) (scales_a : Option Addr) (scales_e : Nat) (scales_n : Nat) (t5_a : Option Addr) (t5_n : Nat) (t5_e : Nat) (t6 : Bool) (found : Bool) (t35 : Int) (g10 g11 g12 g13 g14 g15 g16 g36 g37 g38 g39 g40 g41 g42 g43 g44 g45 g46 g47 g48 g49 g50 g51 g52 g53 g54 g55 g56 g57 g58 g59 g60 g61 g62 g63 g64 g65 g66 g67 g68 g69 g70 g71 g72 g73 g74 g75 g76 g77 g78 g79 g80 g81 g82 g83 g84 g85 g86 g87 g88 g89 : Value) (H : AHeap) (K : Value → AHeap → Prop)  {I : Nat → List Value → AHeap → Prop} {μ : Nat} : loopQ I μ (blockQ 0 (seqQ (exK Try.prog E_impl_PursueOnce (cr (cr (cr (cr (bodyC Try.f45)))))) (retK Try.prog Try.f45 K))) .ret (impl_PursueOnce_P1 b1 b2 list_a list_e list_n r1 r2 scales_a scales_e scales_n t5_a t5_n t5_e t6 found t35 g10 g11 g12 g13 g14 g15 g16 g36 g37 g38 g39 g40 g41 g42 g43 g44 g45 g46 g47 g48 g49 g50 g51 g52 g53 g54 g55 g56 g57 g58 g59 g60 g61 g62 g63 g64 g65 g66 g67 g68 g69 g70 g71 g72 g73 g74 g75 g76 g77 g78 g79 g80 g81 g82 g83 g84 g85 g86 g87 g88 g89) H =
  (∃ c22 : Int, ∃ c23 : Nat, ∃ c24 : Nat,  rdN H b1 0 3 = some [.int .i64 c22, .float .f32 c23, .float .f32 c24] ∧ K (.tuple #[.agg #[.int .i64 c22, .float .f32 c23, .float .f32 c24], .slice t5_a t5_n t5_e, .bool t6]) H) := by kernel_rfl
abbrev impl_PursueOnce_P2 (a1 : Option Addr) (b1 : Nat) (b2 : Nat) (b3 : Nat) (f1 : Nat) (g42 : Value) (g89 : Value) (list_a : Option Addr) (list_e : Nat) (list_n : Nat) (r1 : Bool) (r2 : Bool) (r3 : Bool) (r4 : Nat) (r5 : Nat) (r6 : Int) (scales_a : Option Addr) (scales_e : Nat) (scales_n : Nat) (t35 : Int) (t5_a : Option Addr) (t5_e : Nat) (t5_n : Nat) (t6 : Bool) (x1 : Nat) (found_8 : Bool) (t50 : Int) (g13 g14 g15 g16 g51 g52 g53 g54 g55 g56 g57 g58 g59 g60 g61 g62 g63 g64 g65 g66 g67 g68 g69 g70 g71 g72 g73 g74 g75 g76 g77 g78 g79 g80 g81 g82 g83 g84 g85 g86 g87 g88 : Value) : List Value := [.slice list_a list_n list_e, .slice scales_a scales_n scales_e, undef, undef, .pointer (some ⟨b1, 0, none⟩), .slice t5_a t5_n t5_e, .bool t6, .pointer (some ⟨b2, 0, none⟩), .bool found_8, undef, .float .f32 x1, .slice a1 r4 r5, .int .i64 r6, g13, g14, g15, g16, undef, undef, undef, undef, undef, .slice list_a list_n list_e, .bool r1, .bool (!r1), .bool false, .slice scales_a scales_n scales_e, .int .i64 (scales_n : Int), .bool r2, .bool (!r2), .bool (!r2), undef, .agg #[.int .i64 0, .float .f32 0, .float .f32 0], .slice scales_a scales_n scales_e, .int .i64 (scales_n : Int), .int .i64 t35, .bool (decide ((t35 : Int) < (scales_n : Int))), .pointer (some ⟨b3, f1 + (t35 : Int).toNat * 1, none⟩), .float .f32 x1, .float .f32 x1, .bool r3, .bool (!r3), g42, .tuple #[.slice a1 r4 r5, .int .i64 r6], .float .f32 x1, .tuple #[.slice a1 r4 r5, .int .i64 r6], .slice a1 r4 r5, .int .i64 r6, .slice list_a list_n list_e, .int .i64 (list_n : Int), .int .i64 t50, g51, g52, g53, g54, g55, g56, g57, g58, g59, g60, g61, g62, g63, g64, g65, g66, g67, g68, g69, g70, g71, g72, g73, g74, g75, g76, g77, g78, g79, g80, g81, g82, g83, g84, g85, g86, g87, g88, g89, undef, undef, undef, undef, undef, undef, undef, undef, undef, undef, undef, undef, undef, undef, undef, undef, undef, undef, undef, undef, undef, undef, undef, undef, undef, undef, undef, undef, undef, undef, undef, undef, undef, undef, undef]
theorem impl_PursueOnce_r2 (a1 : Option Addr) (b1 : Nat) (b2 : Nat) (b3 : Nat) (f1 : Nat) (g42 : Value) (g89 : Value) (list_a : Option Addr) (list_e : Nat) (list_n : Nat) (r1 : Bool) (r2 : Bool) (r3 : Bool) (r4 : Nat) (r5 : Nat) (r6 : Int) (scales_a : Option Addr) (scales_e : Nat) (scales_n : Nat) (t35 : Int) (t5_a : Option Addr) (t5_e : Nat) (t5_n : Nat) (t6 : Bool) (x1 : Nat) (found_8 : Bool) (t50 : Int) (g13 g14 g15 g16 g51 g52 g53 g54 g55 g56 g57 g58 g59 g60 g61 g62 g63 g64 g65 g66 g67 g68 g69 g70 g71 g72 g73 g74 g75 g76 g77 g78 g79 g80 g81 g82 g83 g84 g85 g86 g87 g88 : Value) (H : AHeap) (R : Post) : exK Try.prog E_impl_PursueOnce (cl (cl (cr (cr (cr (cr (cl (cl (cr (cr (cl (cl (cr (cl (cr (cr (cr (bodyC Try.f45)))))))))))))))))) (impl_PursueOnce_P2 a1 b1 b2 b3 f1 g42 g89 list_a list_e list_n r1 r2 r3 r4 r5 r6 scales_a scales_e scales_n t35 t5_a t5_e t5_n t6 x1 found_8 t50 g13 g14 g15 g16 g51 g52 g53 g54 g55 g56 g57 g58 g59 g60 g61 g62 g63 g64 g65 g66 g67 g68 g69 g70 g71 g72 g73 g74 g75 g76 g77 g78 g79 g80 g81 g82 g83 g84 g85 g86 g87 g88) H R =
  (Br (decide ((t50 : Int) < (list_n : Int))) (T_impl_atomBy a1 r4 r5 r6 (list_n : Int) t50 1065353216 H fun (a2 : Option Addr) (r7 : Nat) (r8 : Nat) (H11 : AHeap) => loopK (exK Try.prog E_impl_PursueOnce (cl (cl (cr (cl (cr (cr (cl (cl (cr (cr (cl (cl (cr (cr (cr (cr (cl (cl (cr (cr (cl (cl (cr (cl (cr (cr (cr (bodyC Try.f45))))))))))))))))))))))))))))) [.slice list_a list_n list_e, .slice scales_a scales_n scales_e, undef, undef, .pointer (some ⟨b1, 0, none⟩), .slice t5_a t5_n t5_e, .bool t6, .pointer (some ⟨b2, 0, none⟩), .bool found_8, undef, .float .f32 x1, .slice a1 r4 r5, .int .i64 r6, .int .i64 t50, .float .f32 0, g15, g16, undef, undef, undef, undef, undef, .slice list_a list_n list_e, .bool r1, .bool (!r1), .bool false, .slice scales_a scales_n scales_e, .int .i64 (scales_n : Int), .bool r2, .bool (!r2), .bool (!r2), undef, .agg #[.int .i64 0, .float .f32 0, .float .f32 0], .slice scales_a scales_n scales_e, .int .i64 (scales_n : Int), .int .i64 t35, .bool (decide ((t35 : Int) < (scales_n : Int))), .pointer (some ⟨b3, f1 + (t35 : Int).toNat * 1, none⟩), .float .f32 x1, .float .f32 x1, .bool r3, .bool (!r3), g42, .tuple #[.slice a1 r4 r5, .int .i64 r6], .float .f32 x1, .tuple #[.slice a1 r4 r5, .int .i64 r6], .slice a1 r4 r5, .int .i64 r6, .slice list_a list_n list_e, .int .i64 (list_n : Int), .int .i64 t50, .bool (decide ((t50 : Int) < (list_n : Int))), .int .i64 t50, .slice a1 r4 r5, .int .i64 r6, .slice list_a list_n list_e, .int .i64 (list_n : Int), .int .i64 t50, .slice a2 r7 r8, .int .i64 (r7 : Int), .int .i64 0, g61, g62, g63, g64, g65, g66, g67, g68, g69, g70, g71, g72, g73, g74, g75, g76, g77, g78, g79, g80, g81, g82, g83, g84, g85, g86, g87, g88, g89, undef, undef, undef, undef, undef, undef, undef, undef, undef, undef, undef, undef, undef, undef, undef, undef, undef, undef, undef, undef, undef, undef, undef, undef, undef, undef, undef, undef, undef, undef, undef, undef, undef, undef, undef] H11 (blockQ 4 (seqQ (exK Try.prog E_impl_PursueOnce (cr (cr (cr (cl (cl (cr (cr (cl (cl (cr (cr (cr (cr (cl (cl (cr (cr (cl (cl (cr (cl (cr (cr (cr (bodyC Try.f45)))))))))))))))))))))))))) (blockQ 3 (seqQ (exK Try.prog E_impl_PursueOnce (cr (cr (cr (cl (cl (cr (cr (cr (cr (cl (cl (cr (cr (cl (cl (cr (cl (cr (cr (cr (bodyC Try.f45)))))))))))))))))))))) (R)))))) (R (.exit 2) [.slice list_a list_n list_e, .slice scales_a scales_n scales_e, undef, undef, .pointer (some ⟨b1, 0, none⟩), .slice t5_a t5_n t5_e, .bool t6, .pointer (some ⟨b2, 0, none⟩), .bool found_8, undef, .float .f32 x1, .slice a1 r4 r5, .int .i64 r6, g13, g14, g15, g16, undef, undef, undef, undef, undef, .slice list_a list_n list_e, .bool r1, .bool (!r1), .bool false, .slice scales_a scales_n scales_e, .int .i64 (scales_n : Int), .bool r2, .bool (!r2), .bool (!r2), undef, .agg #[.int .i64 0, .float .f32 0, .float .f32 0], .slice scales_a scales_n scales_e, .int .i64 (scales_n : Int), .int .i64 t35, .bool (decide ((t35 : Int) < (scales_n : Int))), .pointer (some ⟨b3, f1 + (t35 : Int).toNat * 1, none⟩), .float .f32 x1, .float .f32 x1, .bool r3, .bool (!r3), g42, .tuple #[.slice a1 r4 r5, .int .i64 r6], .float .f32 x1, .tuple #[.slice a1 r4 r5, .int .i64 r6], .slice a1 r4 r5, .int .i64 r6, .slice list_a list_n list_e, .int .i64 (list_n : Int), .int .i64 t50, .bool (decide ((t50 : Int) < (list_n : Int))), g52, g53, g54, g55, g56, g57, g58, g59, g60, g61, g62, g63, g64, g65, g66, g67, g68, g69, g70, g71, g72, g73, g74, g75, g76, g77, g78, g79, g80, g81, g82, g83, g84, g85, g86, g87, g88, g89, undef, undef, undef, undef, undef, undef, undef, undef, undef, undef, undef, undef, undef, undef, undef, undef, undef, undef, undef, undef, undef, undef, undef, undef, undef, undef, undef, undef, undef, undef, undef, undef, undef, undef, undef] H)) := by kernel_rfl
def impl_PursueOnce_I2 (a1 : Option Addr) (b1 : Nat) (b2 : Nat) (b3 : Nat) (f1 : Nat) (g42 : Value) (g89 : Value) (list_a : Option Addr) (list_e : Nat) (list_n : Nat) (r1 : Bool) (r2 : Bool) (r3 : Bool) (r4 : Nat) (r5 : Nat) (r6 : Int) (scales_a : Option Addr) (scales_e : Nat) (scales_n : Nat) (t35 : Int) (t5_a : Option Addr) (t5_e : Nat) (t5_n : Nat) (t6 : Bool) (x1 : Nat) (Inv : Nat → Bool → Int → AHeap → Prop) : Nat → List Value → AHeap → Prop := fun μ tm H => ∃ (found_8 : Bool), ∃ (t50 : Int), ∃ g13 g14 g15 g16 g51 g52 g53 g54 g55 g56 g57 g58 g59 g60 g61 g62 g63 g64 g65 g66 g67 g68 g69 g70 g71 g72 g73 g74 g75 g76 g77 g78 g79 g80 g81 g82 g83 g84 g85 g86 g87 g88, tm = (impl_PursueOnce_P2 a1 b1 b2 b3 f1 g42 g89 list_a list_e list_n r1 r2 r3 r4 r5 r6 scales_a scales_e scales_n t35 t5_a t5_e t5_n t6 x1 found_8 t50 g13 g14 g15 g16 g51 g52 g53 g54 g55 g56 g57 g58 g59 g60 g61 g62 g63 g64 g65 g66 g67 g68 g69 g70 g71 g72 g73 g74 g75 g76 g77 g78 g79 g80 g81 g82 g83 g84 g85 g86 g87 g88) ∧ Inv μ found_8 t50 H
theorem impl_PursueOnce_L2 (a1 : Option Addr) (b1 : Nat) (b2 : Nat) (b3 : Nat) (f1 : Nat) (g42 : Value) (g89 : Value) (list_a : Option Addr) (list_e : Nat) (list_n : Nat) (r1 : Bool) (r2 : Bool) (r3 : Bool) (r4 : Nat) (r5 : Nat) (r6 : Int) (scales_a : Option Addr) (scales_e : Nat) (scales_n : Nat) (t35 : Int) (t5_a : Option Addr) (t5_e : Nat) (t5_n : Nat) (t6 : Bool) (x1 : Nat) {Q : Post} (Inv : Nat → Bool → Int → AHeap → Prop) (ν : Nat) (found_8 : Bool) (t50 : Int) (g13 g14 g15 g16 g51 g52 g53 g54 g55 g56 g57 g58 g59 g60 g61 g62 g63 g64 g65 g66 g67 g68 g69 g70 g71 g72 g73 g74 g75 g76 g77 g78 g79 g80 g81 g82 g83 g84 g85 g86 g87 g88 : Value) (H : AHeap) (h0 : Inv ν found_8 t50 H)
    (hs : ∀ (μ : Nat) (found_8 : Bool) (t50 : Int) (g13 g14 g15 g16 g51 g52 g53 g54 g55 g56 g57 g58 g59 g60 g61 g62 g63 g64 g65 g66 g67 g68 g69 g70 g71 g72 g73 g74 g75 g76 g77 g78 g79 g80 g81 g82 g83 g84 g85 g86 g87 g88 : Value) (H : AHeap), Inv μ found_8 t50 H → exK Try.prog E_impl_PursueOnce (cl (cl (cr (cr (cr (cr (cl (cl (cr (cr (cl (cl (cr (cl (cr (cr (cr (bodyC Try.f45)))))))))))))))))) (impl_PursueOnce_P2 a1 b1 b2 b3 f1 g42 g89 list_a list_e list_n r1 r2 r3 r4 r5 r6 scales_a scales_e scales_n t35 t5_a t5_e t5_n t6 x1 found_8 t50 g13 g14 g15 g16 g51 g52 g53 g54 g55 g56 g57 g58 g59 g60 g61 g62 g63 g64 g65 g66 g67 g68 g69 g70 g71 g72 g73 g74 g75 g76 g77 g78 g79 g80 g81 g82 g83 g84 g85 g86 g87 g88) H (loopQ (impl_PursueOnce_I2 a1 b1 b2 b3 f1 g42 g89 list_a list_e list_n r1 r2 r3 r4 r5 r6 scales_a scales_e scales_n t35 t5_a t5_e t5_n t6 x1 Inv) μ Q)) : loopK (exK Try.prog E_impl_PursueOnce (cl (cl (cr (cr (cr (cr (cl (cl (cr (cr (cl (cl (cr (cl (cr (cr (cr (bodyC Try.f45))))))))))))))))))) (impl_PursueOnce_P2 a1 b1 b2 b3 f1 g42 g89 list_a list_e list_n r1 r2 r3 r4 r5 r6 scales_a scales_e scales_n t35 t5_a t5_e t5_n t6 x1 found_8 t50 g13 g14 g15 g16 g51 g52 g53 g54 g55 g56 g57 g58 g59 g60 g61 g62 g63 g64 g65 g66 g67 g68 g69 g70 g71 g72 g73 g74 g75 g76 g77 g78 g79 g80 g81 g82 g83 g84 g85 g86 g87 g88) H Q :=
  ⟨impl_PursueOnce_I2 a1 b1 b2 b3 f1 g42 g89 list_a list_e list_n r1 r2 r3 r4 r5 r6 scales_a scales_e scales_n t35 t5_a t5_e t5_n t6 x1 Inv, ν, ⟨found_8, t50, g13, g14, g15, g16, g51, g52, g53, g54, g55, g56, g57, g58, g59, g60, g61, g62, g63, g64, g65, g66, g67, g68, g69, g70, g71, g72, g73, g74, g75, g76, g77, g78, g79, g80, g81, g82, g83, g84, g85, g86, g87, g88, rfl, h0⟩, fun μ tm H h => by obtain ⟨found_8, t50, g13, g14, g15, g16, g51, g52, g53, g54, g55, g56, g57, g58, g59, g60, g61, g62, g63, g64, g65, g66, g67, g68, g69, g70, g71, g72, g73, g74, g75, g76, g77, g78, g79, g80, g81, g82, g83, g84, g85, g86, g87, g88, rfl, hI⟩ := h; exact hs μ found_8 t50 g13 g14 g15 g16 g51 g52 g53 g54 g55 g56 g57 g58 g59 g60 g61 g62 g63 g64 g65 g66 g67 g68 g69 g70 g71 g72 g73 g74 g75 g76 g77 g78 g79 g80 g81 g82 g83 g84 g85 g86 g87 g88 H hI⟩
theorem impl_PursueOnce_n2 {a1 : Option Addr} {b1 : Nat} {b2 : Nat} {b3 : Nat} {f1 : Nat} {g42 : Value} {g89 : Value} {list_a : Option Addr} {list_e : Nat} {list_n : Nat} {r1 : Bool} {r2 : Bool} {r3 : Bool} {r4 : Nat} {r5 : Nat} {r6 : Int} {scales_a : Option Addr} {scales_e : Nat} {scales_n : Nat} {t35 : Int} {t5_a : Option Addr} {t5_e : Nat} {t5_n : Nat} {t6 : Bool} {x1 : Nat} {Q : Post} {Inv : Nat → Bool → Int → AHeap → Prop} {μ : Nat} (μ' : Nat) {found_8 : Bool} {t50 : Int} {g13 g14 g15 g16 g51 g52 g53 g54 g55 g56 g57 g58 g59 g60 g61 g62 g63 g64 g65 g66 g67 g68 g69 g70 g71 g72 g73 g74 g75 g76 g77 g78 g79 g80 g81 g82 g83 g84 g85 g86 g87 g88 : Value} {H : AHeap} (hm : μ' < μ) (hI : Inv μ' found_8 t50 H) : loopQ (impl_PursueOnce_I2 a1 b1 b2 b3 f1 g42 g89 list_a list_e list_n r1 r2 r3 r4 r5 r6 scales_a scales_e scales_n t35 t5_a t5_e t5_n t6 x1 Inv) μ Q .normal (impl_PursueOnce_P2 a1 b1 b2 b3 f1 g42 g89 list_a list_e list_n r1 r2 r3 r4 r5 r6 scales_a scales_e scales_n t35 t5_a t5_e t5_n t6 x1 found_8 t50 g13 g14 g15 g16 g51 g52 g53 g54 g55 g56 g57 g58 g59 g60 g61 g62 g63 g64 g65 g66 g67 g68 g69 g70 g71 g72 g73 g74 g75 g76 g77 g78 g79 g80 g81 g82 g83 g84 g85 g86 g87 g88) H := ⟨μ', hm, found_8, t50, g13, g14, g15, g16, g51, g52, g53, g54, g55, g56, g57, g58, g59, g60, g61, g62, g63, g64, g65, g66, g67, g68, g69, g70, g71, g72, g73, g74, g75, g76, g77, g78, g79, g80, g81, g82, g83, g84, g85, g86, g87, g88, rfl, hI⟩
theorem impl_PursueOnce_x2_2 (a1 : Option Addr) (b1 : Nat) (b2 : Nat) (b3 : Nat) (f1 : Nat) (g42 : Value) (g89 : Value) (list_a : Option Addr) (list_e : Nat) (list_n : Nat) (r1 : Bool) (r2 : Bool) (r3 : Bool) (r4 : Nat) (r5 : Nat) (r6 : Int) (scales_a : Option Addr) (scales_e : Nat) (scales_n : Nat) (t35 : Int) (t5_a : Option Addr) (t5_e : Nat) (t5_n : Nat) (t6 : Bool) (x1 : Nat) (found_8 : Bool) (t50 : Int) (g13 g14 g15 g16 g51 g52 g53 g54 g55 g56 g57 g58 g59 g60 g61 g62 g63 g64 g65 g66 g67 g68 g69 g70 g71 g72 g73 g74 g75 g76 g77 g78 g79 g80 g81 g82 g83 g84 g85 g86 g87 g88 : Value) (H : AHeap)  (R : Post) {I : Nat → List Value → AHeap → Prop} {μ : Nat} : loopQ I μ (blockQ 2 (blockQ 1 (seqQ (exK Try.prog E_impl_PursueOnce (cr (cr (cr (cl (cl (cr (cl (cr (cr (cr (bodyC Try.f45)))))))))))) (R)))) (.exit 2) (impl_PursueOnce_P2 a1 b1 b2 b3 f1 g42 g89 list_a list_e list_n r1 r2 r3 r4 r5 r6 scales_a scales_e scales_n t35 t5_a t5_e t5_n t6 x1 found_8 t50 g13 g14 g15 g16 g51 g52 g53 g54 g55 g56 g57 g58 g59 g60 g61 g62 g63 g64 g65 g66 g67 g68 g69 g70 g71 g72 g73 g74 g75 g76 g77 g78 g79 g80 g81 g82 g83 g84 g85 g86 g87 g88) H =
  (R .normal [.slice list_a list_n list_e, .slice scales_a scales_n scales_e, undef, undef, .pointer (some ⟨b1, 0, none⟩), .slice t5_a t5_n t5_e, .bool t6, .pointer (some ⟨b2, 0, none⟩), .bool found_8, undef, .float .f32 x1, .slice a1 r4 r5, .int .i64 r6, g13, g14, g15, g16, undef, undef, undef, undef, undef, .slice list_a list_n list_e, .bool r1, .bool (!r1), .bool false, .slice scales_a scales_n scales_e, .int .i64 (scales_n : Int), .bool r2, .bool (!r2), .bool (!r2), undef, .agg #[.int .i64 0, .float .f32 0, .float .f32 0], .slice scales_a scales_n scales_e, .int .i64 (scales_n : Int), .int .i64 (IntKind.wrap .i64 (t35 + 1)), .bool (decide ((t35 : Int) < (scales_n : Int))), .pointer (some ⟨b3, f1 + (t35 : Int).toNat * 1, none⟩), .float .f32 x1, .float .f32 x1, .bool r3, .bool (!r3), g42, .tuple #[.slice a1 r4 r5, .int .i64 r6], .float .f32 x1, .tuple #[.slice a1 r4 r5, .int .i64 r6], .slice a1 r4 r5, .int .i64 r6, .slice list_a list_n list_e, .int .i64 (list_n : Int), .int .i64 t50, g51, g52, g53, g54, g55, g56, g57, g58, g59, g60, g61, g62, g63, g64, g65, g66, g67, g68, g69, g70, g71, g72, g73, g74, g75, g76, g77, g78, g79, g80, g81, g82, g83, g84, g85, g86, g87, g88, .int .i64 (IntKind.wrap .i64 (t35 + 1)), undef, undef, undef, undef, undef, undef, undef, undef, undef, undef, undef, undef, undef, undef, undef, undef, undef, undef, undef, undef, undef, undef, undef, undef, undef, undef, undef, undef, undef, undef, undef, undef, undef, undef, undef] H) := by kernel_rfl
abbrev impl_PursueOnce_P3 (a1 : Option Addr) (a2 : Option Addr) (b1 : Nat) (b2 : Nat) (b3 : Nat) (f1 : Nat) (found_8 : Bool) (g42 : Value) (g74 : Value) (g75 : Value) (g76 : Value) (g77 : Value) (g78 : Value) (g79 : Value) (g80 : Value) (g81 : Value) (g82 : Value) (g83 : Value) (g84 : Value) (g85 : Value) (g86 : Value) (g87 : Value) (g88 : Value) (g89 : Value) (list_a : Option Addr) (list_e : Nat) (list_n : Nat) (r1 : Bool) (r2 : Bool) (r3 : Bool) (r4 : Nat) (r5 : Nat) (r6 : Int) (r7 : Nat) (r8 : Nat) (scales_a : Option Addr) (scales_e : Nat) (scales_n : Nat) (t35 : Int) (t50 : Int) (t5_a : Option Addr) (t5_e : Nat) (t5_n : Nat) (t6 : Bool) (x1 : Nat) (q : Nat) (t60 : Int) (g15 g16 g61 g62 g63 g64 g65 g66 g67 g68 g69 g70 g71 g72 g73 : Value) : List Value := [.slice list_a list_n list_e, .slice scales_a scales_n scales_e, undef, undef, .pointer (some ⟨b1, 0, none⟩), .slice t5_a t5_n t5_e, .bool t6, .pointer (some ⟨b2, 0, none⟩), .bool found_8, undef, .float .f32 x1, .slice a1 r4 r5, .int .i64 r6, .int .i64 t50, .float .f32 q, g15, g16, undef, undef, undef, undef, undef, .slice list_a list_n list_e, .bool r1, .bool (!r1), .bool false, .slice scales_a scales_n scales_e, .int .i64 (scales_n : Int), .bool r2, .bool (!r2), .bool (!r2), undef, .agg #[.int .i64 0, .float .f32 0, .float .f32 0], .slice scales_a scales_n scales_e, .int .i64 (scales_n : Int), .int .i64 t35, .bool (decide ((t35 : Int) < (scales_n : Int))), .pointer (some ⟨b3, f1 + (t35 : Int).toNat * 1, none⟩), .float .f32 x1, .float .f32 x1, .bool r3, .bool (!r3), g42, .tuple #[.slice a1 r4 r5, .int .i64 r6], .float .f32 x1, .tuple #[.slice a1 r4 r5, .int .i64 r6], .slice a1 r4 r5, .int .i64 r6, .slice list_a list_n list_e, .int .i64 (list_n : Int), .int .i64 t50, .bool (decide ((t50 : Int) < (list_n : Int))), .int .i64 t50, .slice a1 r4 r5, .int .i64 r6, .slice list_a list_n list_e, .int .i64 (list_n : Int), .int .i64 t50, .slice a2 r7 r8, .int .i64 (r7 : Int), .int .i64 t60, g61, g62, g63, g64, g65, g66, g67, g68, g69, g70, g71, g72, g73, g74, g75, g76, g77, g78, g79, g80, g81, g82, g83, g84, g85, g86, g87, g88, g89, undef, undef, undef, undef, undef, undef, undef, undef, undef, undef, undef, undef, undef, undef, undef, undef, undef, undef, undef, undef, undef, undef, undef, undef, undef, undef, undef, undef, undef, undef, undef, undef, undef, undef, undef]
theorem impl_PursueOnce_r3 (a1 : Option Addr) (a2 : Option Addr) (b1 : Nat) (b2 : Nat) (b3 : Nat) (f1 : Nat) (found_8 : Bool) (g42 : Value) (g74 : Value) (g75 : Value) (g76 : Value) (g77 : Value) (g78 : Value) (g79 : Value) (g80 : Value) (g81 : Value) (g82 : Value) (g83 : Value) (g84 : Value) (g85 : Value) (g86 : Value) (g87 : Value) (g88 : Value) (g89 : Value) (list_a : Option Addr) (list_e : Nat) (list_n : Nat) (r1 : Bool) (r2 : Bool) (r3 : Bool) (r4 : Nat) (r5 : Nat) (r6 : Int) (r7 : Nat) (r8 : Nat) (scales_a : Option Addr) (scales_e : Nat) (scales_n : Nat) (t35 : Int) (t50 : Int) (t5_a : Option Addr) (t5_e : Nat) (t5_n : Nat) (t6 : Bool) (x1 : Nat) (q : Nat) (t60 : Int) (g15 g16 g61 g62 g63 g64 g65 g66 g67 g68 g69 g70 g71 g72 g73 : Value) (H : AHeap) (R : Post) : exK Try.prog E_impl_PursueOnce (cl (cl (cr (cl (cr (cr (cl (cl (cr (cr (cl (cl (cr (cr (cr (cr (cl (cl (cr (cr (cl (cl (cr (cl (cr (cr (cr (bodyC Try.f45)))))))))))))))))))))))))))) (impl_PursueOnce_P3 a1 a2 b1 b2 b3 f1 found_8 g42 g74 g75 g76 g77 g78 g79 g80 g81 g82 g83 g84 g85 g86 g87 g88 g89 list_a list_e list_n r1 r2 r3 r4 r5 r6 r7 r8 scales_a scales_e scales_n t35 t50 t5_a t5_e t5_n t6 x1 q t60 g15 g16 g61 g62 g63 g64 g65 g66 g67 g68 g69 g70 g71 g72 g73) H R =
  (Br (decide ((t60 : Int) < (r7 : Int))) ((0 : Int) ≤ t60 ∧ t60 < (r7 : Int) ∧ ∃ b4 f2, (a2 : Option Addr) = some ⟨b4, f2, none⟩ ∧ ∃ x2 : Nat,  rdC H b4 (f2 + (t60 : Int).toNat * 1) = some (.float .f32 x2) ∧ (0 : Int) ≤ t60 ∧ t60 < (list_n : Int) ∧ ∃ b5 f3, (list_a : Option Addr) = some ⟨b5, f3, none⟩ ∧ ∃ x3 : Nat,  rdC H b5 (f3 + (t60 : Int).toNat * 1) = some (.float .f32 x3) ∧ R .normal [.slice list_a list_n list_e, .slice scales_a scales_n scales_e, undef, undef, .pointer (some ⟨b1, 0, none⟩), .slice t5_a t5_n t5_e, .bool t6, .pointer (some ⟨b2, 0, none⟩), .bool found_8, undef, .float .f32 x1, .slice a1 r4 r5, .int .i64 r6, .int .i64 t50, .float .f32 (fadd .f32 q (fmul .f32 x2 x3)), .int .i64 t60, .float .f32 x2, undef, undef, undef, undef, undef, .slice list_a list_n list_e, .bool r1, .bool (!r1), .bool false, .slice scales_a scales_n scales_e, .int .i64 (scales_n : Int), .bool r2, .bool (!r2), .bool (!r2), undef, .agg #[.int .i64 0, .float .f32 0, .float .f32 0], .slice scales_a scales_n scales_e, .int .i64 (scales_n : Int), .int .i64 t35, .bool (decide ((t35 : Int) < (scales_n : Int))), .pointer (some ⟨b3, f1 + (t35 : Int).toNat * 1, none⟩), .float .f32 x1, .float .f32 x1, .bool r3, .bool (!r3), g42, .tuple #[.slice a1 r4 r5, .int .i64 r6], .float .f32 x1, .tuple #[.slice a1 r4 r5, .int .i64 r6], .slice a1 r4 r5, .int .i64 r6, .slice list_a list_n list_e, .int .i64 (list_n : Int), .int .i64 t50, .bool (decide ((t50 : Int) < (list_n : Int))), .int .i64 t50, .slice a1 r4 r5, .int .i64 r6, .slice list_a list_n list_e, .int .i64 (list_n : Int), .int .i64 t50, .slice a2 r7 r8, .int .i64 (r7 : Int), .int .i64 (IntKind.wrap .i64 (t60 + 1)), .bool (decide ((t60 : Int) < (r7 : Int))), .int .i64 t60, .pointer (some ⟨b4, f2 + (t60 : Int).toNat * 1, none⟩), .float .f32 x2, .float .f32 q, .float .f32 x2, .slice list_a list_n list_e, .int .i64 t60, .pointer (some ⟨b5, f3 + (t60 : Int).toNat * 1, none⟩), .float .f32 x3, .float .f32 (fmul .f32 x2 x3), .float .f32 (fadd .f32 q (fmul .f32 x2 x3)), .int .i64 (IntKind.wrap .i64 (t60 + 1)), g74, g75, g76, g77, g78, g79, g80, g81, g82, g83, g84, g85, g86, g87, g88, g89, undef, undef, undef, undef, undef, undef, undef, undef, undef, undef, undef, undef, undef, undef, undef, undef, undef, undef, undef, undef, undef, undef, undef, undef, undef, undef, undef, undef, undef, undef, undef, undef, undef, undef, undef] H) (R (.exit 4) [.slice list_a list_n list_e, .slice scales_a scales_n scales_e, undef, undef, .pointer (some ⟨b1, 0, none⟩), .slice t5_a t5_n t5_e, .bool t6, .pointer (some ⟨b2, 0, none⟩), .bool found_8, undef, .float .f32 x1, .slice a1 r4 r5, .int .i64 r6, .int .i64 t50, .float .f32 q, g15, g16, undef, undef, undef, undef, undef, .slice list_a list_n list_e, .bool r1, .bool (!r1), .bool false, .slice scales_a scales_n scales_e, .int .i64 (scales_n : Int), .bool r2, .bool (!r2), .bool (!r2), undef, .agg #[.int .i64 0, .float .f32 0, .float .f32 0], .slice scales_a scales_n scales_e, .int .i64 (scales_n : Int), .int .i64 t35, .bool (decide ((t35 : Int) < (scales_n : Int))), .pointer (some ⟨b3, f1 + (t35 : Int).toNat * 1, none⟩), .float .f32 x1, .float .f32 x1, .bool r3, .bool (!r3), g42, .tuple #[.slice a1 r4 r5, .int .i64 r6], .float .f32 x1, .tuple #[.slice a1 r4 r5, .int .i64 r6], .slice a1 r4 r5, .int .i64 r6, .slice list_a list_n list_e, .int .i64 (list_n : Int), .int .i64 t50, .bool (decide ((t50 : Int) < (list_n : Int))), .int .i64 t50, .slice a1 r4 r5, .int .i64 r6, .slice list_a list_n list_e, .int .i64 (list_n : Int), .int .i64 t50, .slice a2 r7 r8, .int .i64 (r7 : Int), .int .i64 t60, .bool (decide ((t60 : Int) < (r7 : Int))), g62, g63, g64, g65, g66, g67, g68, g69, g70, g71, g72, g73, g74, g75, g76, g77, g78, g79, g80, g81, g82, g83, g84, g85, g86, g87, g88, g89, undef, undef, undef, undef, undef, undef, undef, undef, undef, undef, undef, undef, undef, undef, undef, undef, undef, undef, undef, undef, undef, undef, undef, undef, undef, undef, undef, undef, undef, undef, undef, undef, undef, undef, undef] H)) := by kernel_rfl
def impl_PursueOnce_I3 (a1 : Option Addr) (a2 : Option Addr) (b1 : Nat) (b2 : Nat) (b3 : Nat) (f1 : Nat) (found_8 : Bool) (g42 : Value) (g74 : Value) (g75 : Value) (g76 : Value) (g77 : Value) (g78 : Value) (g79 : Value) (g80 : Value) (g81 : Value) (g82 : Value) (g83 : Value) (g84 : Value) (g85 : Value) (g86 : Value) (g87 : Value) (g88 : Value) (g89 : Value) (list_a : Option Addr) (list_e : Nat) (list_n : Nat) (r1 : Bool) (r2 : Bool) (r3 : Bool) (r4 : Nat) (r5 : Nat) (r6 : Int) (r7 : Nat) (r8 : Nat) (scales_a : Option Addr) (scales_e : Nat) (scales_n : Nat) (t35 : Int) (t50 : Int) (t5_a : Option Addr) (t5_e : Nat) (t5_n : Nat) (t6 : Bool) (x1 : Nat) (Inv : Nat → Nat → Int → AHeap → Prop) : Nat → List Value → AHeap → Prop := fun μ tm H => ∃ (q : Nat), ∃ (t60 : Int), ∃ g15 g16 g61 g62 g63 g64 g65 g66 g67 g68 g69 g70 g71 g72 g73, tm = (impl_PursueOnce_P3 a1 a2 b1 b2 b3 f1 found_8 g42 g74 g75 g76 g77 g78 g79 g80 g81 g82 g83 g84 g85 g86 g87 g88 g89 list_a list_e list_n r1 r2 r3 r4 r5 r6 r7 r8 scales_a scales_e scales_n t35 t50 t5_a t5_e t5_n t6 x1 q t60 g15 g16 g61 g62 g63 g64 g65 g66 g67 g68 g69 g70 g71 g72 g73) ∧ Inv μ q t60 H
theorem impl_PursueOnce_L3 (a1 : Option Addr) (a2 : Option Addr) (b1 : Nat) (b2 : Nat) (b3 : Nat) (f1 : Nat) (found_8 : Bool) (g42 : Value) (g74 : Value) (g75 : Value) (g76 : Value) (g77 : Value) (g78 : Value) (g79 : Value) (g80 : Value) (g81 : Value) (g82 : Value) (g83 : Value) (g84 : Value) (g85 : Value) (g86 : Value) (g87 : Value) (g88 : Value) (g89 : Value) (list_a : Option Addr) (list_e : Nat) (list_n : Nat) (r1 : Bool) (r2 : Bool) (r3 : Bool) (r4 : Nat) (r5 : Nat) (r6 : Int) (r7 : Nat) (r8 : Nat) (scales_a : Option Addr) (scales_e : Nat) (scales_n : Nat) (t35 : Int) (t50 : Int) (t5_a : Option Addr) (t5_e : Nat) (t5_n : Nat) (t6 : Bool) (x1 : Nat) {Q : Post} (Inv : Nat → Nat → Int → AHeap → Prop) (ν : Nat) (q : Nat) (t60 : Int) (g15 g16 g61 g62 g63 g64 g65 g66 g67 g68 g69 g70 g71 g72 g73 : Value) (H : AHeap) (h0 : Inv ν q t60 H)
    (hs : ∀ (μ : Nat) (q : Nat) (t60 : Int) (g15 g16 g61 g62 g63 g64 g65 g66 g67 g68 g69 g70 g71 g72 g73 : Value) (H : AHeap), Inv μ q t60 H → exK Try.prog E_impl_PursueOnce (cl (cl (cr (cl (cr (cr (cl (cl (cr (cr (cl (cl (cr (cr (cr (cr (cl (cl (cr (cr (cl (cl (cr (cl (cr (cr (cr (bodyC Try.f45)))))))))))))))))))))))))))) (impl_PursueOnce_P3 a1 a2 b1 b2 b3 f1 found_8 g42 g74 g75 g76 g77 g78 g79 g80 g81 g82 g83 g84 g85 g86 g87 g88 g89 list_a list_e list_n r1 r2 r3 r4 r5 r6 r7 r8 scales_a scales_e scales_n t35 t50 t5_a t5_e t5_n t6 x1 q t60 g15 g16 g61 g62 g63 g64 g65 g66 g67 g68 g69 g70 g71 g72 g73) H (loopQ (impl_PursueOnce_I3 a1 a2 b1 b2 b3 f1 found_8 g42 g74 g75 g76 g77 g78 g79 g80 g81 g82 g83 g84 g85 g86 g87 g88 g89 list_a list_e list_n r1 r2 r3 r4 r5 r6 r7 r8 scales_a scales_e scales_n t35 t50 t5_a t5_e t5_n t6 x1 Inv) μ Q)) : loopK (exK Try.prog E_impl_PursueOnce (cl (cl (cr (cl (cr (cr (cl (cl (cr (cr (cl (cl (cr (cr (cr (cr (cl (cl (cr (cr (cl (cl (cr (cl (cr (cr (cr (bodyC Try.f45))))))))))))))))))))))))))))) (impl_PursueOnce_P3 a1 a2 b1 b2 b3 f1 found_8 g42 g74 g75 g76 g77 g78 g79 g80 g81 g82 g83 g84 g85 g86 g87 g88 g89 list_a list_e list_n r1 r2 r3 r4 r5 r6 r7 r8 scales_a scales_e scales_n t35 t50 t5_a t5_e t5_n t6 x1 q t60 g15 g16 g61 g62 g63 g64 g65 g66 g67 g68 g69 g70 g71 g72 g73) H Q :=
  ⟨impl_PursueOnce_I3 a1 a2 b1 b2 b3 f1 found_8 g42 g74 g75 g76 g77 g78 g79 g80 g81 g82 g83 g84 g85 g86 g87 g88 g89 list_a list_e list_n r1 r2 r3 r4 r5 r6 r7 r8 scales_a scales_e scales_n t35 t50 t5_a t5_e t5_n t6 x1 Inv, ν, ⟨q, t60, g15, g16, g61, g62, g63, g64, g65, g66, g67, g68, g69, g70, g71, g72, g73, rfl, h0⟩, fun μ tm H h => by obtain ⟨q, t60, g15, g16, g61, g62, g63, g64, g65, g66, g67, g68, g69, g70, g71, g72, g73, rfl, hI⟩ := h; exact hs μ q t60 g15 g16 g61 g62 g63 g64 g65 g66 g67 g68 g69 g70 g71 g72 g73 H hI⟩
theorem impl_PursueOnce_n3 {a1 : Option Addr} {a2 : Option Addr} {b1 : Nat} {b2 : Nat} {b3 : Nat} {f1 : Nat} {found_8 : Bool} {g42 : Value} {g74 : Value} {g75 : Value} {g76 : Value} {g77 : Value} {g78 : Value} {g79 : Value} {g80 : Value} {g81 : Value} {g82 : Value} {g83 : Value} {g84 : Value} {g85 : Value} {g86 : Value} {g87 : Value} {g88 : Value} {g89 : Value} {list_a : Option Addr} {list_e : Nat} {list_n : Nat} {r1 : Bool} {r2 : Bool} {r3 : Bool} {r4 : Nat} {r5 : Nat} {r6 : Int} {r7 : Nat} {r8 : Nat} {scales_a : Option Addr} {scales_e : Nat} {scales_n : Nat} {t35 : Int} {t50 : Int} {t5_a : Option Addr} {t5_e : Nat} {t5_n : Nat} {t6 : Bool} {x1 : Nat} {Q : Post} {Inv : Nat → Nat → Int → AHeap → Prop} {μ : Nat} (μ' : Nat) {q : Nat} {t60 : Int} {g15 g16 g61 g62 g63 g64 g65 g66 g67 g68 g69 g70 g71 g72 g73 : Value} {H : AHeap} (hm : μ' < μ) (hI : Inv μ' q t60 H) : loopQ (impl_PursueOnce_I3 a1 a2 b1 b2 b3 f1 found_8 g42 g74 g75 g76 g77 g78 g79 g80 g81 g82 g83 g84 g85 g86 g87 g88 g89 list_a list_e list_n r1 r2 r3 r4 r5 r6 r7 r8 scales_a scales_e scales_n t35 t50 t5_a t5_e t5_n t6 x1 Inv) μ Q .normal (impl_PursueOnce_P3 a1 a2 b1 b2 b3 f1 found_8 g42 g74 g75 g76 g77 g78 g79 g80 g81 g82 g83 g84 g85 g86 g87 g88 g89 list_a list_e list_n r1 r2 r3 r4 r5 r6 r7 r8 scales_a scales_e scales_n t35 t50 t5_a t5_e t5_n t6 x1 q t60 g15 g16 g61 g62 g63 g64 g65 g66 g67 g68 g69 g70 g71 g72 g73) H := ⟨μ', hm, q, t60, g15, g16, g61, g62, g63, g64, g65, g66, g67, g68, g69, g70, g71, g72, g73, rfl, hI⟩
theorem impl_PursueOnce_x3_4 (a1 : Option Addr) (a2 : Option Addr) (b1 : Nat) (b2 : Nat) (b3 : Nat) (f1 : Nat) (found_8 : Bool) (g42 : Value) (g74 : Value) (g75 : Value) (g76 : Value) (g77 : Value) (g78 : Value) (g79 : Value) (g80 : Value) (g81 : Value) (g82 : Value) (g83 : Value) (g84 : Value) (g85 : Value) (g86 : Value) (g87 : Value) (g88 : Value) (g89 : Value) (list_a : Option Addr) (list_e : Nat) (list_n : Nat) (r1 : Bool) (r2 : Bool) (r3 : Bool) (r4 : Nat) (r5 : Nat) (r6 : Int) (r7 : Nat) (r8 : Nat) (scales_a : Option Addr) (scales_e : Nat) (scales_n : Nat) (t35 : Int) (t50 : Int) (t5_a : Option Addr) (t5_e : Nat) (t5_n : Nat) (t6 : Bool) (x1 : Nat) (q : Nat) (t60 : Int) (g15 g16 g61 g62 g63 g64 g65 g66 g67 g68 g69 g70 g71 g72 g73 : Value) (H : AHeap)  (R : Post) {I : Nat → List Value → AHeap → Prop} {μ : Nat} : loopQ I μ (blockQ 4 (seqQ (exK Try.prog E_impl_PursueOnce (cr (cr (cr (cl (cl (cr (cr (cl (cl (cr (cr (cr (cr (cl (cl (cr (cr (cl (cl (cr (cl (cr (cr (cr (bodyC Try.f45)))))))))))))))))))))))))) (blockQ 3 (seqQ (exK Try.prog E_impl_PursueOnce (cr (cr (cr (cl (cl (cr (cr (cr (cr (cl (cl (cr (cr (cl (cl (cr (cl (cr (cr (cr (bodyC Try.f45)))))))))))))))))))))) (R))))) (.exit 4) (impl_PursueOnce_P3 a1 a2 b1 b2 b3 f1 found_8 g42 g74 g75 g76 g77 g78 g79 g80 g81 g82 g83 g84 g85 g86 g87 g88 g89 list_a list_e list_n r1 r2 r3 r4 r5 r6 r7 r8 scales_a scales_e scales_n t35 t50 t5_a t5_e t5_n t6 x1 q t60 g15 g16 g61 g62 g63 g64 g65 g66 g67 g68 g69 g70 g71 g72 g73) H =
  (Br (!found_8) (isOwn H b2 ∧ (∃ l, rdN H b2 0 3 = some l) ∧ Lt (setN H b2 0 [.int .i64 t50, .float .f32 x1, .float .f32 q]) fun H12 => R .normal [.slice list_a list_n list_e, .slice scales_a scales_n scales_e, undef, undef, .pointer (some ⟨b1, 0, none⟩), .slice t5_a t5_n t5_e, .bool t6, .pointer (some ⟨b2, 0, none⟩), .bool true, undef, .float .f32 x1, .slice a1 r4 r5, .int .i64 r6, .int .i64 t50, .float .f32 q, g15, g16, undef, undef, undef, undef, undef, .slice list_a list_n list_e, .bool r1, .bool (!r1), .bool false, .slice scales_a scales_n scales_e, .int .i64 (scales_n : Int), .bool r2, .bool (!r2), .bool (!r2), undef, .agg #[.int .i64 0, .float .f32 0, .float .f32 0], .slice scales_a scales_n scales_e, .int .i64 (scales_n : Int), .int .i64 t35, .bool (decide ((t35 : Int) < (scales_n : Int))), .pointer (some ⟨b3, f1 + (t35 : Int).toNat * 1, none⟩), .float .f32 x1, .float .f32 x1, .bool r3, .bool (!r3), g42, .tuple #[.slice a1 r4 r5, .int .i64 r6], .float .f32 x1, .tuple #[.slice a1 r4 r5, .int .i64 r6], .slice a1 r4 r5, .int .i64 r6, .slice list_a list_n list_e, .int .i64 (list_n : Int), .int .i64 (IntKind.wrap .i64 (t50 + 1)), .bool (decide ((t50 : Int) < (list_n : Int))), .int .i64 t50, .slice a1 r4 r5, .int .i64 r6, .slice list_a list_n list_e, .int .i64 (list_n : Int), .int .i64 t50, .slice a2 r7 r8, .int .i64 (r7 : Int), .int .i64 t60, g61, g62, g63, g64, g65, g66, g67, g68, g69, g70, g71, g72, g73, .bool found_8, .bool (!found_8), .bool true, undef, undef, undef, undef, undef, undef, .bool true, .int .i64 t50, .float .f32 x1, .float .f32 q, .agg #[.int .i64 t50, .float .f32 x1, .float .f32 q], .int .i64 (IntKind.wrap .i64 (t50 + 1)), g89, undef, undef, undef, undef, undef, undef, undef, undef, undef, undef, undef, undef, undef, undef, undef, undef, undef, undef, undef, undef, undef, undef, undef, undef, undef, undef, undef, undef, undef, undef, undef, undef, undef, undef, undef] H12) (T_impl_size q H fun (r9 : Nat) (H13 : AHeap) => ∃ x4 : Nat,  rdC H13 b2 2 = some (.float .f32 x4) ∧ T_impl_size x4 H13 fun (r10 : Nat) (H14 : AHeap) => Br (flt .f32 r10 r9) (isOwn H14 b2 ∧ (∃ l, rdN H14 b2 0 3 = some l) ∧ Lt (setN H14 b2 0 [.int .i64 t50, .float .f32 x1, .float .f32 q]) fun H15 => R .normal [.slice list_a list_n list_e, .slice scales_a scales_n scales_e, undef, undef, .pointer (some ⟨b1, 0, none⟩), .slice t5_a t5_n t5_e, .bool t6, .pointer (some ⟨b2, 0, none⟩), .bool true, undef, .float .f32 x1, .slice a1 r4 r5, .int .i64 r6, .int .i64 t50, .float .f32 q, g15, g16, undef, undef, undef, undef, undef, .slice list_a list_n list_e, .bool r1, .bool (!r1), .bool false, .slice scales_a scales_n scales_e, .int .i64 (scales_n : Int), .bool r2, .bool (!r2), .bool (!r2), undef, .agg #[.int .i64 0, .float .f32 0, .float .f32 0], .slice scales_a scales_n scales_e, .int .i64 (scales_n : Int), .int .i64 t35, .bool (decide ((t35 : Int) < (scales_n : Int))), .pointer (some ⟨b3, f1 + (t35 : Int).toNat * 1, none⟩), .float .f32 x1, .float .f32 x1, .bool r3, .bool (!r3), g42, .tuple #[.slice a1 r4 r5, .int .i64 r6], .float .f32 x1, .tuple #[.slice a1 r4 r5, .int .i64 r6], .slice a1 r4 r5, .int .i64 r6, .slice list_a list_n list_e, .int .i64 (list_n : Int), .int .i64 (IntKind.wrap .i64 (t50 + 1)), .bool (decide ((t50 : Int) < (list_n : Int))), .int .i64 t50, .slice a1 r4 r5, .int .i64 r6, .slice list_a list_n list_e, .int .i64 (list_n : Int), .int .i64 t50, .slice a2 r7 r8, .int .i64 (r7 : Int), .int .i64 t60, g61, g62, g63, g64, g65, g66, g67, g68, g69, g70, g71, g72, g73, .bool found_8, .bool (!found_8), .bool false, .float .f32 q, .float .f32 r9, .pointer (some ⟨b2, 2, none⟩), .float .f32 x4, .float .f32 r10, .bool (flt .f32 r10 r9), .bool (flt .f32 r10 r9), .int .i64 t50, .float .f32 x1, .float .f32 q, .agg #[.int .i64 t50, .float .f32 x1, .float .f32 q], .int .i64 (IntKind.wrap .i64 (t50 + 1)), g89, undef, undef, undef, undef, undef, undef, undef, undef, undef, undef, undef, undef, undef, undef, undef, undef, undef, undef, undef, undef, undef, undef, undef, undef, undef, undef, undef, undef, undef, undef, undef, undef, undef, undef, undef] H15) (R .normal [.slice list_a list_n list_e, .slice scales_a scales_n scales_e, undef, undef, .pointer (some ⟨b1, 0, none⟩), .slice t5_a t5_n t5_e, .bool t6, .pointer (some ⟨b2, 0, none⟩), .bool found_8, undef, .float .f32 x1, .slice a1 r4 r5, .int .i64 r6, .int .i64 t50, .float .f32 q, g15, g16, undef, undef, undef, undef, undef, .slice list_a list_n list_e, .bool r1, .bool (!r1), .bool false, .slice scales_a scales_n scales_e, .int .i64 (scales_n : Int), .bool r2, .bool (!r2), .bool (!r2), undef, .agg #[.int .i64 0, .float .f32 0, .float .f32 0], .slice scales_a scales_n scales_e, .int .i64 (scales_n : Int), .int .i64 t35, .bool (decide ((t35 : Int) < (scales_n : Int))), .pointer (some ⟨b3, f1 + (t35 : Int).toNat * 1, none⟩), .float .f32 x1, .float .f32 x1, .bool r3, .bool (!r3), g42, .tuple #[.slice a1 r4 r5, .int .i64 r6], .float .f32 x1, .tuple #[.slice a1 r4 r5, .int .i64 r6], .slice a1 r4 r5, .int .i64 r6, .slice list_a list_n list_e, .int .i64 (list_n : Int), .int .i64 (IntKind.wrap .i64 (t50 + 1)), .bool (decide ((t50 : Int) < (list_n : Int))), .int .i64 t50, .slice a1 r4 r5, .int .i64 r6, .slice list_a list_n list_e, .int .i64 (list_n : Int), .int .i64 t50, .slice a2 r7 r8, .int .i64 (r7 : Int), .int .i64 t60, g61, g62, g63, g64, g65, g66, g67, g68, g69, g70, g71, g72, g73, .bool found_8, .bool (!found_8), .bool false, .float .f32 q, .float .f32 r9, .pointer (some ⟨b2, 2, none⟩), .float .f32 x4, .float .f32 r10, .bool (flt .f32 r10 r9), .bool (flt .f32 r10 r9), g84, g85, g86, g87, .int .i64 (IntKind.wrap .i64 (t50 + 1)), g89, undef, undef, undef, undef, undef, undef, undef, undef, undef, undef, undef, undef, undef, undef, undef, undef, undef, undef, undef, undef, undef, undef, undef, undef, undef, undef, undef, undef, undef, undef, undef, undef, undef, undef, undef] H14))) := by kernel_rfl
abbrev impl_PursueOnce_P4 (a3 : Option Addr) (b1 : Nat) (b2 : Nat) (b6 : Nat) (c7 : Int) (c8 : Nat) (c9 : Nat) (found : Bool) (g10 : Value) (g11 : Value) (g12 : Value) (g13 : Value) (g14 : Value) (g15 : Value) (g16 : Value) (g36 : Value) (g37 : Value) (g38 : Value) (g39 : Value) (g40 : Value) (g41 : Value) (g42 : Value) (g43 : Value) (g44 : Value) (g45 : Value) (g46 : Value) (g47 : Value) (g48 : Value) (g49 : Value) (g50 : Value) (g51 : Value) (g52 : Value) (g53 : Value) (g54 : Value) (g55 : Value) (g56 : Value) (g57 : Value) (g58 : Value) (g59 : Value) (g60 : Value) (g61 : Value) (g62 : Value) (g63 : Value) (g64 : Value) (g65 : Value) (g66 : Value) (g67 : Value) (g68 : Value) (g69 : Value) (g70 : Value) (g71 : Value) (g72 : Value) (g73 : Value) (g74 : Value) (g75 : Value) (g76 : Value) (g77 : Value) (g78 : Value) (g79 : Value) (g80 : Value) (g81 : Value) (g82 : Value) (g83 : Value) (g84 : Value) (g85 : Value) (g86 : Value) (g87 : Value) (g88 : Value) (g89 : Value) (list_a : Option Addr) (list_e : Nat) (list_n : Nat) (r1 : Bool) (r11 : Nat) (r12 : Nat) (r13 : Bool) (r2 : Bool) (scales_a : Option Addr) (scales_e : Nat) (scales_n : Nat) (t35 : Int) (t5_a : Option Addr) (t5_e : Nat) (t5_n : Nat) (t6 : Bool) (rest_a : Option Addr) (rest_n : Nat) (rest_e : Nat) (t103 : Int) (g20 g21 g104 g105 g106 g107 g108 g109 g110 g111 g112 g113 g114 g115 g116 g117 : Value) : List Value := [.slice list_a list_n list_e, .slice scales_a scales_n scales_e, undef, undef, .pointer (some ⟨b1, 0, none⟩), .slice t5_a t5_n t5_e, .bool t6, .pointer (some ⟨b2, 0, none⟩), .bool found, undef, g10, g11, g12, g13, g14, g15, g16, .slice a3 r11 r12, .bool r13, .slice rest_a rest_n rest_e, g20, g21, .slice list_a list_n list_e, .bool r1, .bool (!r1), .bool false, .slice scales_a scales_n scales_e, .int .i64 (scales_n : Int), .bool r2, .bool (!r2), .bool (!r2), undef, .agg #[.int .i64 0, .float .f32 0, .float .f32 0], .slice scales_a scales_n scales_e, .int .i64 (scales_n : Int), .int .i64 t35, g36, g37, g38, g39, g40, g41, g42, g43, g44, g45, g46, g47, g48, g49, g50, g51, g52, g53, g54, g55, g56, g57, g58, g59, g60, g61, g62, g63, g64, g65, g66, g67, g68, g69, g70, g71, g72, g73, g74, g75, g76, g77, g78, g79, g80, g81, g82, g83, g84, g85, g86, g87, g88, g89, .tuple #[.slice a3 r11 r12, .bool r13], .slice list_a list_n list_e, .int .i64 (list_n : Int), .agg #[.int .i64 c7, .float .f32 c8, .float .f32 c9], .tuple #[.slice a3 r11 r12, .bool r13], .slice a3 r11 r12, .bool r13, .bool r13, .bool (!r13), undef, .slice (some ⟨b6, 0, none⟩) 0 1, .slice list_a list_n list_e, .int .i64 (list_n : Int), .int .i64 t103, g104, g105, g106, g107, g108, g109, g110, g111, g112, g113, g114, g115, g116, g117, undef, undef, undef, undef, undef, undef, undef]
theorem impl_PursueOnce_r4 (a3 : Option Addr) (b1 : Nat) (b2 : Nat) (b6 : Nat) (c7 : Int) (c8 : Nat) (c9 : Nat) (found : Bool) (g10 : Value) (g11 : Value) (g12 : Value) (g13 : Value) (g14 : Value) (g15 : Value) (g16 : Value) (g36 : Value) (g37 : Value) (g38 : Value) (g39 : Value) (g40 : Value) (g41 : Value) (g42 : Value) (g43 : Value) (g44 : Value) (g45 : Value) (g46 : Value) (g47 : Value) (g48 : Value) (g49 : Value) (g50 : Value) (g51 : Value) (g52 : Value) (g53 : Value) (g54 : Value) (g55 : Value) (g56 : Value) (g57 : Value) (g58 : Value) (g59 : Value) (g60 : Value) (g61 : Value) (g62 : Value) (g63 : Value) (g64 : Value) (g65 : Value) (g66 : Value) (g67 : Value) (g68 : Value) (g69 : Value) (g70 : Value) (g71 : Value) (g72 : Value) (g73 : Value) (g74 : Value) (g75 : Value) (g76 : Value) (g77 : Value) (g78 : Value) (g79 : Value) (g80 : Value) (g81 : Value) (g82 : Value) (g83 : Value) (g84 : Value) (g85 : Value) (g86 : Value) (g87 : Value) (g88 : Value) (g89 : Value) (list_a : Option Addr) (list_e : Nat) (list_n : Nat) (r1 : Bool) (r11 : Nat) (r12 : Nat) (r13 : Bool) (r2 : Bool) (scales_a : Option Addr) (scales_e : Nat) (scales_n : Nat) (t35 : Int) (t5_a : Option Addr) (t5_e : Nat) (t5_n : Nat) (t6 : Bool) (rest_a : Option Addr) (rest_n : Nat) (rest_e : Nat) (t103 : Int) (g20 g21 g104 g105 g106 g107 g108 g109 g110 g111 g112 g113 g114 g115 g116 g117 : Value) (H : AHeap) (R : Post) : exK Try.prog E_impl_PursueOnce (cl (cl (cr (cl (cr (cr (cr (cr (cr (cr (cr (bodyC Try.f45)))))))))))) (impl_PursueOnce_P4 a3 b1 b2 b6 c7 c8 c9 found g10 g11 g12 g13 g14 g15 g16 g36 g37 g38 g39 g40 g41 g42 g43 g44 g45 g46 g47 g48 g49 g50 g51 g52 g53 g54 g55 g56 g57 g58 g59 g60 g61 g62 g63 g64 g65 g66 g67 g68 g69 g70 g71 g72 g73 g74 g75 g76 g77 g78 g79 g80 g81 g82 g83 g84 g85 g86 g87 g88 g89 list_a list_e list_n r1 r11 r12 r13 r2 scales_a scales_e scales_n t35 t5_a t5_e t5_n t6 rest_a rest_n rest_e t103 g20 g21 g104 g105 g106 g107 g108 g109 g110 g111 g112 g113 g114 g115 g116 g117) H R =
  (Br (decide ((t103 : Int) < (list_n : Int))) ((0 : Int) ≤ t103 ∧ t103 < (list_n : Int) ∧ ∃ b7 f4, (list_a : Option Addr) = some ⟨b7, f4, none⟩ ∧ ∃ x5 : Nat,  rdC H b7 (f4 + (t103 : Int).toNat * 1) = some (.float .f32 x5) ∧ (0 : Int) ≤ t103 ∧ t103 < (r11 : Int) ∧ ∃ b8 f5, (a3 : Option Addr) = some ⟨b8, f5, none⟩ ∧ ∃ x6 : Nat,  rdC H b8 (f5 + (t103 : Int).toNat * 1) = some (.float .f32 x6) ∧ Al [.float .f32 (fsub .f32 x5 x6)] H fun b9 H19 => ∃ o1 w1 : List Value, ownB H19 rest_a rest_n rest_e 1 = some o1 ∧ rdS H19 (some ⟨b9, 0, none⟩) (1 * 1) = some w1 ∧ ((rest_a : Option Addr) = none → 0 < (1 : Nat)) ∧ (rest_n : Nat) + 1 < most ∧ Ap H19 (killB H19 rest_a ++ [some ⟨o1 ++ w1, true⟩]) fun b10 H20 => R .normal [.slice list_a list_n list_e, .slice scales_a scales_n scales_e, undef, undef, .pointer (some ⟨b1, 0, none⟩), .slice t5_a t5_n t5_e, .bool t6, .pointer (some ⟨b2, 0, none⟩), .bool found, undef, g10, g11, g12, g13, g14, g15, g16, .slice a3 r11 r12, .bool r13, .slice (some ⟨b10, 0, none⟩) (rest_n + 1) 1, .int .i64 t103, .float .f32 x5, .slice list_a list_n list_e, .bool r1, .bool (!r1), .bool false, .slice scales_a scales_n scales_e, .int .i64 (scales_n : Int), .bool r2, .bool (!r2), .bool (!r2), undef, .agg #[.int .i64 0, .float .f32 0, .float .f32 0], .slice scales_a scales_n scales_e, .int .i64 (scales_n : Int), .int .i64 t35, g36, g37, g38, g39, g40, g41, g42, g43, g44, g45, g46, g47, g48, g49, g50, g51, g52, g53, g54, g55, g56, g57, g58, g59, g60, g61, g62, g63, g64, g65, g66, g67, g68, g69, g70, g71, g72, g73, g74, g75, g76, g77, g78, g79, g80, g81, g82, g83, g84, g85, g86, g87, g88, g89, .tuple #[.slice a3 r11 r12, .bool r13], .slice list_a list_n list_e, .int .i64 (list_n : Int), .agg #[.int .i64 c7, .float .f32 c8, .float .f32 c9], .tuple #[.slice a3 r11 r12, .bool r13], .slice a3 r11 r12, .bool r13, .bool r13, .bool (!r13), undef, .slice (some ⟨b6, 0, none⟩) 0 1, .slice list_a list_n list_e, .int .i64 (list_n : Int), .int .i64 (IntKind.wrap .i64 (t103 + 1)), .bool (decide ((t103 : Int) < (list_n : Int))), .int .i64 t103, .pointer (some ⟨b7, f4 + (t103 : Int).toNat * 1, none⟩), .float .f32 x5, .slice rest_a rest_n rest_e, .float .f32 x5, .slice a3 r11 r12, .int .i64 t103, .pointer (some ⟨b8, f5 + (t103 : Int).toNat * 1, none⟩), .float .f32 x6, .float .f32 (fsub .f32 x5 x6), .slice (some ⟨b9, 0, none⟩) 1 1, .slice (some ⟨b10, 0, none⟩) (rest_n + 1) 1, .int .i64 (IntKind.wrap .i64 (t103 + 1)), undef, undef, undef, undef, undef, undef, undef] H20) (R (.exit 6) [.slice list_a list_n list_e, .slice scales_a scales_n scales_e, undef, undef, .pointer (some ⟨b1, 0, none⟩), .slice t5_a t5_n t5_e, .bool t6, .pointer (some ⟨b2, 0, none⟩), .bool found, undef, g10, g11, g12, g13, g14, g15, g16, .slice a3 r11 r12, .bool r13, .slice rest_a rest_n rest_e, g20, g21, .slice list_a list_n list_e, .bool r1, .bool (!r1), .bool false, .slice scales_a scales_n scales_e, .int .i64 (scales_n : Int), .bool r2, .bool (!r2), .bool (!r2), undef, .agg #[.int .i64 0, .float .f32 0, .float .f32 0], .slice scales_a scales_n scales_e, .int .i64 (scales_n : Int), .int .i64 t35, g36, g37, g38, g39, g40, g41, g42, g43, g44, g45, g46, g47, g48, g49, g50, g51, g52, g53, g54, g55, g56, g57, g58, g59, g60, g61, g62, g63, g64, g65, g66, g67, g68, g69, g70, g71, g72, g73, g74, g75, g76, g77, g78, g79, g80, g81, g82, g83, g84, g85, g86, g87, g88, g89, .tuple #[.slice a3 r11 r12, .bool r13], .slice list_a list_n list_e, .int .i64 (list_n : Int), .agg #[.int .i64 c7, .float .f32 c8, .float .f32 c9], .tuple #[.slice a3 r11 r12, .bool r13], .slice a3 r11 r12, .bool r13, .bool r13, .bool (!r13), undef, .slice (some ⟨b6, 0, none⟩) 0 1, .slice list_a list_n list_e, .int .i64 (list_n : Int), .int .i64 t103, .bool (decide ((t103 : Int) < (list_n : Int))), g105, g106, g107, g108, g109, g110, g111, g112, g113, g114, g115, g116, g117, undef, undef, undef, undef, undef, undef, undef] H)) := by kernel_rfl
def impl_PursueOnce_I4 (a3 : Option Addr) (b1 : Nat) (b2 : Nat) (b6 : Nat) (c7 : Int) (c8 : Nat) (c9 : Nat) (found : Bool) (g10 : Value) (g11 : Value) (g12 : Value) (g13 : Value) (g14 : Value) (g15 : Value) (g16 : Value) (g36 : Value) (g37 : Value) (g38 : Value) (g39 : Value) (g40 : Value) (g41 : Value) (g42 : Value) (g43 : Value) (g44 : Value) (g45 : Value) (g46 : Value) (g47 : Value) (g48 : Value) (g49 : Value) (g50 : Value) (g51 : Value) (g52 : Value) (g53 : Value) (g54 : Value) (g55 : Value) (g56 : Value) (g57 : Value) (g58 : Value) (g59 : Value) (g60 : Value) (g61 : Value) (g62 : Value) (g63 : Value) (g64 : Value) (g65 : Value) (g66 : Value) (g67 : Value) (g68 : Value) (g69 : Value) (g70 : Value) (g71 : Value) (g72 : Value) (g73 : Value) (g74 : Value) (g75 : Value) (g76 : Value) (g77 : Value) (g78 : Value) (g79 : Value) (g80 : Value) (g81 : Value) (g82 : Value) (g83 : Value) (g84 : Value) (g85 : Value) (g86 : Value) (g87 : Value) (g88 : Value) (g89 : Value) (list_a : Option Addr) (list_e : Nat) (list_n : Nat) (r1 : Bool) (r11 : Nat) (r12 : Nat) (r13 : Bool) (r2 : Bool) (scales_a : Option Addr) (scales_e : Nat) (scales_n : Nat) (t35 : Int) (t5_a : Option Addr) (t5_e : Nat) (t5_n : Nat) (t6 : Bool) (Inv : Nat → (Option Addr) → Nat → Nat → Int → AHeap → Prop) : Nat → List Value → AHeap → Prop := fun μ tm H => ∃ (rest_a : Option Addr), ∃ (rest_n : Nat), ∃ (rest_e : Nat), ∃ (t103 : Int), ∃ g20 g21 g104 g105 g106 g107 g108 g109 g110 g111 g112 g113 g114 g115 g116 g117, tm = (impl_PursueOnce_P4 a3 b1 b2 b6 c7 c8 c9 found g10 g11 g12 g13 g14 g15 g16 g36 g37 g38 g39 g40 g41 g42 g43 g44 g45 g46 g47 g48 g49 g50 g51 g52 g53 g54 g55 g56 g57 g58 g59 g60 g61 g62 g63 g64 g65 g66 g67 g68 g69 g70 g71 g72 g73 g74 g75 g76 g77 g78 g79 g80 g81 g82 g83 g84 g85 g86 g87 g88 g89 list_a list_e list_n r1 r11 r12 r13 r2 scales_a scales_e scales_n t35 t5_a t5_e t5_n t6 rest_a rest_n rest_e t103 g20 g21 g104 g105 g106 g107 g108 g109 g110 g111 g112 g113 g114 g115 g116 g117) ∧ Inv μ rest_a rest_n rest_e t103 H
theorem impl_PursueOnce_L4 (a3 : Option Addr) (b1 : Nat) (b2 : Nat) (b6 : Nat) (c7 : Int) (c8 : Nat) (c9 : Nat) (found : Bool) (g10 : Value) (g11 : Value) (g12 : Value) (g13 : Value) (g14 : Value) (g15 : Value) (g16 : Value) (g36 : Value) (g37 : Value) (g38 : Value) (g39 : Value) (g40 : Value) (g41 : Value) (g42 : Value) (g43 : Value) (g44 : Value) (g45 : Value) (g46 : Value) (g47 : Value) (g48 : Value) (g49 : Value) (g50 : Value) (g51 : Value) (g52 : Value) (g53 : Value) (g54 : Value) (g55 : Value) (g56 : Value) (g57 : Value) (g58 : Value) (g59 : Value) (g60 : Value) (g61 : Value) (g62 : Value) (g63 : Value) (g64 : Value) (g65 : Value) (g66 : Value) (g67 : Value) (g68 : Value) (g69 : Value) (g70 : Value) (g71 : Value) (g72 : Value) (g73 : Value) (g74 : Value) (g75 : Value) (g76 : Value) (g77 : Value) (g78 : Value) (g79 : Value) (g80 : Value) (g81 : Value) (g82 : Value) (g83 : Value) (g84 : Value) (g85 : Value) (g86 : Value) (g87 : Value) (g88 : Value) (g89 : Value) (list_a : Option Addr) (list_e : Nat) (list_n : Nat) (r1 : Bool) (r11 : Nat) (r12 : Nat) (r13 : Bool) (r2 : Bool) (scales_a : Option Addr) (scales_e : Nat) (scales_n : Nat) (t35 : Int) (t5_a : Option Addr) (t5_e : Nat) (t5_n : Nat) (t6 : Bool) {Q : Post} (Inv : Nat → (Option Addr) → Nat → Nat → Int → AHeap → Prop) (ν : Nat) (rest_a : Option Addr) (rest_n : Nat) (rest_e : Nat) (t103 : Int) (g20 g21 g104 g105 g106 g107 g108 g109 g110 g111 g112 g113 g114 g115 g116 g117 : Value) (H : AHeap) (h0 : Inv ν rest_a rest_n rest_e t103 H)
    (hs : ∀ (μ : Nat) (rest_a : Option Addr) (rest_n : Nat) (rest_e : Nat) (t103 : Int) (g20 g21 g104 g105 g106 g107 g108 g109 g110 g111 g112 g113 g114 g115 g116 g117 : Value) (H : AHeap), Inv μ rest_a rest_n rest_e t103 H → exK Try.prog E_impl_PursueOnce (cl (cl (cr (cl (cr (cr (cr (cr (cr (cr (cr (bodyC Try.f45)))))))))))) (impl_PursueOnce_P4 a3 b1 b2 b6 c7 c8 c9 found g10 g11 g12 g13 g14 g15 g16 g36 g37 g38 g39 g40 g41 g42 g43 g44 g45 g46 g47 g48 g49 g50 g51 g52 g53 g54 g55 g56 g57 g58 g59 g60 g61 g62 g63 g64 g65 g66 g67 g68 g69 g70 g71 g72 g73 g74 g75 g76 g77 g78 g79 g80 g81 g82 g83 g84 g85 g86 g87 g88 g89 list_a list_e list_n r1 r11 r12 r13 r2 scales_a scales_e scales_n t35 t5_a t5_e t5_n t6 rest_a rest_n rest_e t103 g20 g21 g104 g105 g106 g107 g108 g109 g110 g111 g112 g113 g114 g115 g116 g117) H (loopQ (impl_PursueOnce_I4 a3 b1 b2 b6 c7 c8 c9 found g10 g11 g12 g13 g14 g15 g16 g36 g37 g38 g39 g40 g41 g42 g43 g44 g45 g46 g47 g48 g49 g50 g51 g52 g53 g54 g55 g56 g57 g58 g59 g60 g61 g62 g63 g64 g65 g66 g67 g68 g69 g70 g71 g72 g73 g74 g75 g76 g77 g78 g79 g80 g81 g82 g83 g84 g85 g86 g87 g88 g89 list_a list_e list_n r1 r11 r12 r13 r2 scales_a scales_e scales_n t35 t5_a t5_e t5_n t6 Inv) μ Q)) : loopK (exK Try.prog E_impl_PursueOnce (cl (cl (cr (cl (cr (cr (cr (cr (cr (cr (cr (bodyC Try.f45))))))))))))) (impl_PursueOnce_P4 a3 b1 b2 b6 c7 c8 c9 found g10 g11 g12 g13 g14 g15 g16 g36 g37 g38 g39 g40 g41 g42 g43 g44 g45 g46 g47 g48 g49 g50 g51 g52 g53 g54 g55 g56 g57 g58 g59 g60 g61 g62 g63 g64 g65 g66 g67 g68 g69 g70 g71 g72 g73 g74 g75 g76 g77 g78 g79 g80 g81 g82 g83 g84 g85 g86 g87 g88 g89 list_a list_e list_n r1 r11 r12 r13 r2 scales_a scales_e scales_n t35 t5_a t5_e t5_n t6 rest_a rest_n rest_e t103 g20 g21 g104 g105 g106 g107 g108 g109 g110 g111 g112 g113 g114 g115 g116 g117) H Q :=
  ⟨impl_PursueOnce_I4 a3 b1 b2 b6 c7 c8 c9 found g10 g11 g12 g13 g14 g15 g16 g36 g37 g38 g39 g40 g41 g42 g43 g44 g45 g46 g47 g48 g49 g50 g51 g52 g53 g54 g55 g56 g57 g58 g59 g60 g61 g62 g63 g64 g65 g66 g67 g68 g69 g70 g71 g72 g73 g74 g75 g76 g77 g78 g79 g80 g81 g82 g83 g84 g85 g86 g87 g88 g89 list_a list_e list_n r1 r11 r12 r13 r2 scales_a scales_e scales_n t35 t5_a t5_e t5_n t6 Inv, ν, ⟨rest_a, rest_n, rest_e, t103, g20, g21, g104, g105, g106, g107, g108, g109, g110, g111, g112, g113, g114, g115, g116, g117, rfl, h0⟩, fun μ tm H h => by obtain ⟨rest_a, rest_n, rest_e, t103, g20, g21, g104, g105, g106, g107, g108, g109, g110, g111, g112, g113, g114, g115, g116, g117, rfl, hI⟩ := h; exact hs μ rest_a rest_n rest_e t103 g20 g21 g104 g105 g106 g107 g108 g109 g110 g111 g112 g113 g114 g115 g116 g117 H hI⟩
theorem impl_PursueOnce_n4 {a3 : Option Addr} {b1 : Nat} {b2 : Nat} {b6 : Nat} {c7 : Int} {c8 : Nat} {c9 : Nat} {found : Bool} {g10 : Value} {g11 : Value} {g12 : Value} {g13 : Value} {g14 : Value} {g15 : Value} {g16 : Value} {g36 : Value} {g37 : Value} {g38 : Value} {g39 : Value} {g40 : Value} {g41 : Value} {g42 : Value} {g43 : Value} {g44 : Value} {g45 : Value} {g46 : Value} {g47 : Value} {g48 : Value} {g49 : Value} {g50 : Value} {g51 : Value} {g52 : Value} {g53 : Value} {g54 : Value} {g55 : Value} {g56 : Value} {g57 : Value} {g58 : Value} {g59 : Value} {g60 : Value} {g61 : Value} {g62 : Value} {g63 : Value} {g64 : Value} {g65 : Value} {g66 : Value} {g67 : Value} {g68 : Value} {g69 : Value} {g70 : Value} {g71 : Value} {g72 : Value} {g73 : Value} {g74 : Value} {g75 : Value} {g76 : Value} {g77 : Value} {g78 : Value} {g79 : Value} {g80 : Value} {g81 : Value} {g82 : Value} {g83 : Value} {g84 : Value} {g85 : Value} {g86 : Value} {g87 : Value} {g88 : Value} {g89 : Value} {list_a : Option Addr} {list_e : Nat} {list_n : Nat} {r1 : Bool} {r11 : Nat} {r12 : Nat} {r13 : Bool} {r2 : Bool} {scales_a : Option Addr} {scales_e : Nat} {scales_n : Nat} {t35 : Int} {t5_a : Option Addr} {t5_e : Nat} {t5_n : Nat} {t6 : Bool} {Q : Post} {Inv : Nat → (Option Addr) → Nat → Nat → Int → AHeap → Prop} {μ : Nat} (μ' : Nat) {rest_a : Option Addr} {rest_n : Nat} {rest_e : Nat} {t103 : Int} {g20 g21 g104 g105 g106 g107 g108 g109 g110 g111 g112 g113 g114 g115 g116 g117 : Value} {H : AHeap} (hm : μ' < μ) (hI : Inv μ' rest_a rest_n rest_e t103 H) : loopQ (impl_PursueOnce_I4 a3 b1 b2 b6 c7 c8 c9 found g10 g11 g12 g13 g14 g15 g16 g36 g37 g38 g39 g40 g41 g42 g43 g44 g45 g46 g47 g48 g49 g50 g51 g52 g53 g54 g55 g56 g57 g58 g59 g60 g61 g62 g63 g64 g65 g66 g67 g68 g69 g70 g71 g72 g73 g74 g75 g76 g77 g78 g79 g80 g81 g82 g83 g84 g85 g86 g87 g88 g89 list_a list_e list_n r1 r11 r12 r13 r2 scales_a scales_e scales_n t35 t5_a t5_e t5_n t6 Inv) μ Q .normal (impl_PursueOnce_P4 a3 b1 b2 b6 c7 c8 c9 found g10 g11 g12 g13 g14 g15 g16 g36 g37 g38 g39 g40 g41 g42 g43 g44 g45 g46 g47 g48 g49 g50 g51 g52 g53 g54 g55 g56 g57 g58 g59 g60 g61 g62 g63 g64 g65 g66 g67 g68 g69 g70 g71 g72 g73 g74 g75 g76 g77 g78 g79 g80 g81 g82 g83 g84 g85 g86 g87 g88 g89 list_a list_e list_n r1 r11 r12 r13 r2 scales_a scales_e scales_n t35 t5_a t5_e t5_n t6 rest_a rest_n rest_e t103 g20 g21 g104 g105 g106 g107 g108 g109 g110 g111 g112 g113 g114 g115 g116 g117) H := ⟨μ', hm, rest_a, rest_n, rest_e, t103, g20, g21, g104, g105, g106, g107, g108, g109, g110, g111, g112, g113, g114, g115, g116, g117, rfl, hI⟩
theorem impl_PursueOnce_x4_6 (a3 : Option Addr) (b1 : Nat) (b2 : Nat) (b6 : Nat) (c7 : Int) (c8 : Nat) (c9 : Nat) (found : Bool) (g10 : Value) (g11 : Value) (g12 : Value) (g13 : Value) (g14 : Value) (g15 : Value) (g16 : Value) (g36 : Value) (g37 : Value) (g38 : Value) (g39 : Value) (g40 : Value) (g41 : Value) (g42 : Value) (g43 : Value) (g44 : Value) (g45 : Value) (g46 : Value) (g47 : Value) (g48 : Value) (g49 : Value) (g50 : Value) (g51 : Value) (g52 : Value) (g53 : Value) (g54 : Value) (g55 : Value) (g56 : Value) (g57 : Value) (g58 : Value) (g59 : Value) (g60 : Value) (g61 : Value) (g62 : Value) (g63 : Value) (g64 : Value) (g65 : Value) (g66 : Value) (g67 : Value) (g68 : Value) (g69 : Value) (g70 : Value) (g71 : Value) (g72 : Value) (g73 : Value) (g74 : Value) (g75 : Value) (g76 : Value) (g77 : Value) (g78 : Value) (g79 : Value) (g80 : Value) (g81 : Value) (g82 : Value) (g83 : Value) (g84 : Value) (g85 : Value) (g86 : Value) (g87 : Value) (g88 : Value) (g89 : Value) (list_a : Option Addr) (list_e : Nat) (list_n : Nat) (r1 : Bool) (r11 : Nat) (r12 : Nat) (r13 : Bool) (r2 : Bool) (scales_a : Option Addr) (scales_e : Nat) (scales_n : Nat) (t35 : Int) (t5_a : Option Addr) (t5_e : Nat) (t5_n : Nat) (t6 : Bool) (rest_a : Option Addr) (rest_n : Nat) (rest_e : Nat) (t103 : Int) (g20 g21 g104 g105 g106 g107 g108 g109 g110 g111 g112 g113 g114 g115 g116 g117 : Value) (H : AHeap) (K : Value → AHeap → Prop)  {I : Nat → List Value → AHeap → Prop} {μ : Nat} : loopQ I μ (blockQ 6 (seqQ (exK Try.prog E_impl_PursueOnce (cr (cr (cr (cr (cr (cr (cr (cr (bodyC Try.f45)))))))))) (retK Try.prog Try.f45 K))) (.exit 6) (impl_PursueOnce_P4 a3 b1 b2 b6 c7 c8 c9 found g10 g11 g12 g13 g14 g15 g16 g36 g37 g38 g39 g40 g41 g42 g43 g44 g45 g46 g47 g48 g49 g50 g51 g52 g53 g54 g55 g56 g57 g58 g59 g60 g61 g62 g63 g64 g65 g66 g67 g68 g69 g70 g71 g72 g73 g74 g75 g76 g77 g78 g79 g80 g81 g82 g83 g84 g85 g86 g87 g88 g89 list_a list_e list_n r1 r11 r12 r13 r2 scales_a scales_e scales_n t35 t5_a t5_e t5_n t6 rest_a rest_n rest_e t103 g20 g21 g104 g105 g106 g107 g108 g109 g110 g111 g112 g113 g114 g115 g116 g117) H =
  (Al [.slice rest_a rest_n rest_e] H fun b11 H21 => T_impl_areFinite (some ⟨b11, 0, none⟩) 1 1 H21 fun (r14 : Bool) (H22 : AHeap) => Br (!r14) (isOwn H22 b1 ∧ (∃ l, rdN H22 b1 0 3 = some l) ∧ Lt (setN H22 b1 0 [.int .i64 0, .float .f32 0, .float .f32 0]) fun H23 => ∃ c13 : Int, ∃ c14 : Nat, ∃ c15 : Nat,  rdN H23 b1 0 3 = some [.int .i64 c13, .float .f32 c14, .float .f32 c15] ∧ K (.tuple #[.agg #[.int .i64 c13, .float .f32 c14, .float .f32 c15], .slice none 0 0, .bool false]) H23) (∃ c16 : Int, ∃ c17 : Nat, ∃ c18 : Nat,  rdN H22 b2 0 3 = some [.int .i64 c16, .float .f32 c17, .float .f32 c18] ∧ isOwn H22 b1 ∧ (∃ l, rdN H22 b1 0 3 = some l) ∧ Lt (setN H22 b1 0 [.int .i64 c16, .float .f32 c17, .float .f32 c18]) fun H24 => ∃ c19 : Int, ∃ c20 : Nat, ∃ c21 : Nat,  rdN H24 b1 0 3 = some [.int .i64 c19, .float .f32 c20, .float .f32 c21] ∧ K (.tuple #[.agg #[.int .i64 c19, .float .f32 c20, .float .f32 c21], .slice rest_a rest_n rest_e, .bool true]) H24)) := by kernel_rfl
theorem E_impl_PursueOnce_ok : ∀ g, FnOk Try.prog g (E_impl_PursueOnce g) := FnOk.envOf (by
  intro x hx
  simp only [List.mem_cons, List.not_mem_nil, or_false] at hx
  rcases hx with rfl | rfl | rfl | rfl | rfl | rfl | rfl | rfl
  · exact impl_isLong_ok
  · exact impl_within_ok
  · exact impl_isScale_ok
  · exact impl_realKernel_ok
  · exact impl_atomBy_ok
  · exact impl_size_ok
  · exact impl_AtomList_ok
  · exact impl_areFinite_ok)
set_option maxHeartbeats 1000000 in
theorem impl_PursueOnce_main (list_a : Option Addr) (list_n : Nat) (list_e : Nat) (scales_a : Option Addr) (scales_n : Nat) (scales_e : Nat) (H : AHeap) (K : Value → AHeap → Prop) (h : T_impl_PursueOnce list_a list_n list_e scales_a scales_n scales_e H fun (r1_Place : Int) (r1_Scale : Nat) (r1_Size : Nat) (r2_a : Option Addr) (r2_n : Nat) (r2_e : Nat) (r3 : Bool) (H' : AHeap) => K (.tuple #[.agg #[.int .i64 r1_Place, .float .f32 r1_Scale, .float .f32 r1_Size], .slice r2_a r2_n r2_e, .bool r3]) H') : bodyK Try.prog E_impl_PursueOnce Try.f45 [.slice list_a list_n list_e, .slice scales_a scales_n scales_e] H K := by
  rw [impl_PursueOnce_vc]
  obtain ⟨l_list, l_scales, i_list, i_scales, bd_314, bd_315, hk⟩ := h
  obtain rfl := i_list.eqn
  obtain rfl := i_scales.eqn
  have e : (p_impl_PursueOnce l_list l_scales) = _ := rfl
  have e := e.trans (p_impl_PursueOnce_eq l_list l_scales)
  have g0 := Grow.refl H
  refine Al.intro (fun b_1 H_1 hb_2 hl_3 g_4 o_5 => ?_)
  have l_7 := g_4.1
  have g_8 := g0.trans g_4
  have l_9 := g_8.1
  have w_313 := o_5.lt
  refine T_impl_isLong_i ⟨_, (i_list.grow g_8), o0, fun  H_2 g_10  => ?_⟩
  have l_11 := g_10.1
  have g_12 := g_8.trans g_10
  have l_13 := g_12.1
  have o_14 := o_5.grow g_10
  have w_15 := o_14.lt
  refine Br.intro (fun c_16 => ?_) (fun c_16 => ?_)
  · have e := e.trans (cond_t c_16)
    have c_16n := nf_of_t c_16
    refine Lt.setN (n := 3) o_14 (Nat.le_of_ble_eq_true rfl) rfl (fun H_3 hl_17 o_19 k_18 => ?_)
    have o_19 : Own H_3 b_1 [.int .i64 0, .float .f32 0, .float .f32 0] := o_19
    have l_20 := k_18.1
    have g_21 := g_12.keep (b := b_1) o3 k_18
    have l_22 := g_21.1
    have w_23 := o_19.lt
    refine ⟨0, 0, 0, (o_19.rdN (Nat.le_of_ble_eq_true rfl)).trans rfl, ?_⟩
    rw [e] at hk
    exact hk _ _ _ H_3 g_21 o15
  · have e := e.trans (cond_f c_16)
    have c_16n := nt_of_f c_16
    have c_16n' := impl_isLong_t c_16n
    refine T_impl_within_i ?_
    refine Br.intro (fun c_24 => ?_) (fun c_24 => ?_)
    · have e := e.trans (cond_t c_24)
      have c_24n := nf_of_t c_24
      refine Lt.setN (n := 3) o_14 (Nat.le_of_ble_eq_true rfl) rfl (fun H_4 hl_25 o_27 k_26 => ?_)
      have o_27 : Own H_4 b_1 [.int .i64 0, .float .f32 0, .float .f32 0] := o_27
      have l_28 := k_26.1
      have g_29 := g_12.keep (b := b_1) o3 k_26
      have l_30 := g_29.1
      have w_31 := o_27.lt
      refine ⟨0, 0, 0, (o_27.rdN (Nat.le_of_ble_eq_true rfl)).trans rfl, ?_⟩
      rw [e] at hk
      exact hk _ _ _ H_4 g_29 o15
    · have e := e.trans (cond_f c_24)
      have c_24n := nt_of_f c_24
      have c_24n' := impl_within_t c_24n
      refine Al.intro (fun b_32 H_5 hb_33 hl_34 g_35 o_36 => ?_)
      have l_38 := g_35.1
      have g_39 := g_12.trans g_35
      have l_40 := g_39.1
      have o_41 := o_14.grow g_35
      have w_42 := o_41.lt
      have w_312 := o_36.lt
      refine Lt.setN (n := 3) o_36 (Nat.le_of_ble_eq_true rfl) rfl (fun H_6 hl_43 o_45 k_44 => ?_)
      have o_45 : Own H_6 b_32 [.int .i64 0, .float .f32 0, .float .f32 0] := o_45
      have l_46 := k_44.1
      have g_47 := g_39.keep (b := b_32) o3 k_44
      have l_48 := g_47.1
      have o_49 := o_41.keep o3 k_44
      have w_50 := o_49.lt
      have w_311 := o_45.lt
      refine impl_PursueOnce_L1 _ _ _ _ _ _ _ _ _ _ (fun (μ : Nat) (t5_a : Option Addr) (t5_n : Nat) (t5_e : Nat) (t6 : Bool) (found : Bool) (t35 : Int) (H_7 : AHeap) => ∃ (q1_1 : Int), ∃ (q1_2 : Nat), ∃ (q1_3 : Nat), ∃ (q1_4 : Int), ∃ (q1_5 : Nat), ∃ (q1_6 : Nat), t5_a = none ∧ t5_n = 0 ∧ t5_e = 0 ∧ Own H_7 b_1 [.int .i64 q1_1, .float .f32 q1_2, .float .f32 q1_3] ∧ Own H_7 b_32 [.int .i64 q1_4, .float .f32 q1_5, .float .f32 q1_6] ∧ (b_32 ≠ b_1) ∧ Grow H H_7 ∧ (0 : Int) ≤ t35 ∧ t35 ≤ (l_scales.length : Int) ∧ (l_scales.length : Int) - t35 ≤ (μ : Int) ∧ p_impl_PursueOnce l_list l_scales = p_impl_PursueOnce_l1 l_list l_scales (μ + 1) t6 found t35 q1_1 q1_2 q1_3 q1_4 q1_5 q1_6) (Int.toNat ((l_scales.length : Int) - (0 : Int))) _ _ _ _ _ _ _ _ _ _ _ _ _ _ _ _ _ _ _ _ _ _ _ _ _ _ _ _ _ _ _ _ _ _ _ _ _ _ _ _ _ _ _ _ _ _ _ _ _ _ _ _ _ _ _ _ _ _ _ _ _ _ _ _ _ _ _ H_6 ?_ ?_
      · exact ⟨_, _, _, _, _, _, rfl, rfl, rfl, o_49, o_45, o3, g_47, o6, o6, o3, e⟩
      · intro μ t5_a t5_n t5_e t6 found t35 g10 g11 g12 g13 g14 g15 g16 g36 g37 g38 g39 g40 g41 g42 g43 g44 g45 g46 g47 g48 g49 g50 g51 g52 g53 g54 g55 g56 g57 g58 g59 g60 g61 g62 g63 g64 g65 g66 g67 g68 g69 g70 g71 g72 g73 g74 g75 g76 g77 g78 g79 g80 g81 g82 g83 g84 g85 g86 g87 g88 g89 H_7 hI
        obtain ⟨q1_1, q1_2, q1_3, q1_4, q1_5, q1_6, rfl, rfl, rfl, o_51, o_52, n_53, g_54, v_55, v_56, hμ, e⟩ := hI
        rw [impl_PursueOnce_r1]
        have e := e.trans (p_impl_PursueOnce_l1_s l_list l_scales μ t6 found t35 q1_1 q1_2 q1_3 q1_4 q1_5 q1_6)
        have w_57 := o_51.lt
        have w_58 := o_52.lt
        have l_59 := g_54.1
        refine Br.intro (fun c_60 => ?_) (fun c_60 => ?_)
        · have e := e.trans (cond_t c_60)
          have c_60' := of_decide_eq_true c_60
          obtain ⟨b_61, f_62, q_63⟩ := ((i_scales.grow g_54)).pos o0
          refine ⟨by omega, by omega, b_61, f_62, q_63, ?_⟩
          refine ⟨((l_scales).getD (t35 : Int).toNat 0), (i_scales).rd g_54 q_63 o3 _, ?_⟩
          refine T_impl_isScale_i ?_
          refine Br.intro (fun c_64 => ?_) (fun c_64 => ?_)
          · have e := e.trans (cond_t c_64)
            have c_64n := nf_of_t c_64
            refine Lt.setN (n := 3) o_51 (Nat.le_of_ble_eq_true rfl) rfl (fun H_8 hl_65 o_67 k_66 => ?_)
            have o_67 : Own H_8 b_1 [.int .i64 0, .float .f32 0, .float .f32 0] := o_67
            have l_68 := k_66.1
            have g_69 := g_54.keep (b := b_1) o3 k_66
            have l_70 := g_69.1
            have o_71 := o_52.keep o3 k_66
            have w_72 := o_71.lt
            have w_73 := o_67.lt
            rw [impl_PursueOnce_x1_ret]
            refine ⟨0, 0, 0, (o_67.rdN (Nat.le_of_ble_eq_true rfl)).trans rfl, ?_⟩
            rw [e] at hk
            exact hk _ _ _ H_8 g_69 o15
          · have e := e.trans (cond_f c_64)
            have c_64n := nt_of_f c_64
            refine T_impl_realKernel_i ⟨o14, fun a_74 n_75 e_76 H_9 g_79 r_77 => ?_⟩
            have z_78 := impl_realKernel_len (((l_scales).getD (t35 : Int).toNat 0)) o34
            have l_80 := g_79.1
            have g_81 := g_54.trans g_79
            have l_82 := g_81.1
            have o_83 := o_51.grow g_79
            have w_84 := o_83.lt
            have o_85 := o_52.grow g_79
            have w_86 := o_85.lt
            obtain rfl := r_77.isL.eqn
            have u_87 := r_77.up
            have u_88 := r_77.lo
            refine impl_PursueOnce_L2 _ _ _ _ _ _ _ _ _ _ _ _ _ _ _ _ _ _ _ _ _ _ _ _ _ (fun (μ2 : Nat) (found_8 : Bool) (t50 : Int) (H_10 : AHeap) => ∃ (q2_1 : Int), ∃ (q2_2 : Nat), ∃ (q2_3 : Nat), Own H_10 b_1 ([.int .i64 q1_1, .float .f32 q1_2, .float .f32 q1_3]) ∧ Own H_10 b_32 [.int .i64 q2_1, .float .f32 q2_2, .float .f32 q2_3] ∧ OwnS fF H_10 H_7.length a_74 (((p_impl_realKernel (((l_scales).getD (t35 : Int).toNat 0))).1).length) e_76 ((p_impl_realKernel (((l_scales).getD (t35 : Int).toNat 0))).1) ∧ (b_32 ≠ b_1) ∧ H_9.length ≤ H_10.length ∧ Grow H H_10 ∧ (0 : Int) ≤ t50 ∧ t50 ≤ (l_list.length : Int) ∧ (l_list.length : Int) - t50 ≤ (μ2 : Int) ∧ p_impl_PursueOnce l_list l_scales = p_impl_PursueOnce_l2 l_list l_scales t6 found t35 q1_1 q1_2 q1_3 q1_4 q1_5 q1_6 (fun (found_8 : Bool) (t50 : Int) (q2_1 : Int) (q2_2 : Nat) (q2_3 : Nat) => (p_impl_PursueOnce_l1 l_list l_scales μ t6 found_8 (t35 + 1) q1_1 q1_2 q1_3 q2_1 q2_2 q2_3)) (μ2 + 1) found_8 t50 q2_1 q2_2 q2_3) (Int.toNat ((l_list.length : Int) - (0 : Int))) _ _ _ _ _ _ _ _ _ _ _ _ _ _ _ _ _ _ _ _ _ _ _ _ _ _ _ _ _ _ _ _ _ _ _ _ _ _ _ _ _ _ _ _ H_9 ?_ ?_
            · exact ⟨_, _, _, o_83, o_85, r_77, o3, o3, g_81, o6, o6, o3, e⟩
            · intro μ2 found_8 t50 g13 g14 g15 g16 g51 g52 g53 g54 g55 g56 g57 g58 g59 g60 g61 g62 g63 g64 g65 g66 g67 g68 g69 g70 g71 g72 g73 g74 g75 g76 g77 g78 g79 g80 g81 g82 g83 g84 g85 g86 g87 g88 H_10 hI
              obtain ⟨q2_1, q2_2, q2_3, o_90, o_91, r_92, n_93, n_94, g_95, v_96, v_97, hμ, e⟩ := hI
              rw [impl_PursueOnce_r2]
              have e := e.trans (p_impl_PursueOnce_l2_s l_list l_scales t6 found t35 q1_1 q1_2 q1_3 q1_4 q1_5 q1_6 (fun (found_8 : Bool) (t50 : Int) (q2_1 : Int) (q2_2 : Nat) (q2_3 : Nat) => (p_impl_PursueOnce_l1 l_list l_scales μ t6 found_8 (t35 + 1) q1_1 q1_2 q1_3 q2_1 q2_2 q2_3)) μ2 found_8 t50 q2_1 q2_2 q2_3)
              have w_98 := o_90.lt
              have w_99 := o_91.lt
              have l_100 := g_95.1
              refine Br.intro (fun c_101 => ?_) (fun c_101 => ?_)
              · have e := e.trans (cond_t c_101)
                have c_101' := of_decide_eq_true c_101
                refine T_impl_atomBy_i ⟨_, r_92.isL, o0, o14, o14, o14, o14, o14, o14, fun a_102 n_103 e_104 H_11 g_107 r_105 => ?_⟩
                have z_106 := impl_atomBy_full ((p_impl_realKernel (((l_scales).getD (t35 : Int).toNat 0))).1) ((p_impl_realKernel (((l_scales).getD (t35 : Int).toNat 0))).2) (l_list.length : Int) t50 1065353216
                have l_108 := g_107.1
                have g_109 := g_95.trans g_107
                have l_110 := g_109.1
                have o_111 := o_90.grow g_107
                have w_112 := o_111.lt
                have o_113 := o_91.grow g_107
                have w_114 := o_113.lt
                have r_115 := r_92.grow g_107
                obtain rfl := r_105.isL.eqn
                have u_116 := r_105.up
                have u_117 := r_105.lo
                refine impl_PursueOnce_L3 _ _ _ _ _ _ _ _ _ _ _ _ _ _ _ _ _ _ _ _ _ _ _ _ _ _ _ _ _ _ _ _ _ _ _ _ _ _ _ _ _ _ _ _ _ (fun (μ3 : Nat) (q : Nat) (t60 : Int) (H_12 : AHeap) => ∃ (q3_1 : Int), ∃ (q3_2 : Nat), ∃ (q3_3 : Nat), Own H_12 b_1 ([.int .i64 q1_1, .float .f32 q1_2, .float .f32 q1_3]) ∧ Own H_12 b_32 [.int .i64 q3_1, .float .f32 q3_2, .float .f32 q3_3] ∧ OwnS fF H_12 H_7.length a_74 (((p_impl_realKernel (((l_scales).getD (t35 : Int).toNat 0))).1).length) e_76 ((p_impl_realKernel (((l_scales).getD (t35 : Int).toNat 0))).1) ∧ OwnS fF H_12 H_10.length a_102 (((p_impl_atomBy ((p_impl_realKernel (((l_scales).getD (t35 : Int).toNat 0))).1) ((p_impl_realKernel (((l_scales).getD (t35 : Int).toNat 0))).2) (l_list.length : Int) t50 1065353216)).length) e_104 ((p_impl_atomBy ((p_impl_realKernel (((l_scales).getD (t35 : Int).toNat 0))).1) ((p_impl_realKernel (((l_scales).getD (t35 : Int).toNat 0))).2) (l_list.length : Int) t50 1065353216)) ∧ (b_32 ≠ b_1) ∧ H_9.length ≤ H_12.length ∧ H_11.length ≤ H_12.length ∧ Grow H H_12 ∧ (0 : Int) ≤ t60 ∧ t60 ≤ (((p_impl_atomBy ((p_impl_realKernel (((l_scales).getD (t35 : Int).toNat 0))).1) ((p_impl_realKernel (((l_scales).getD (t35 : Int).toNat 0))).2) (l_list.length : Int) t50 1065353216)).length : Int) ∧ (((p_impl_atomBy ((p_impl_realKernel (((l_scales).getD (t35 : Int).toNat 0))).1) ((p_impl_realKernel (((l_scales).getD (t35 : Int).toNat 0))).2) (l_list.length : Int) t50 1065353216)).length : Int) - t60 ≤ (μ3 : Int) ∧ p_impl_PursueOnce l_list l_scales = p_impl_PursueOnce_l3 l_list l_scales t6 found t35 q1_1 q1_2 q1_3 q1_4 q1_5 q1_6 found_8 t50 q2_1 q2_2 q2_3 (fun (q : Nat) (t60 : Int) (q3_1 : Int) (q3_2 : Nat) (q3_3 : Nat) => (bif !found_8 then (p_impl_PursueOnce_l2 l_list l_scales t6 found t35 q1_1 q1_2 q1_3 q1_4 q1_5 q1_6 (fun (found_8 : Bool) (t50 : Int) (q2_1 : Int) (q2_2 : Nat) (q2_3 : Nat) => (p_impl_PursueOnce_l1 l_list l_scales μ t6 found_8 (t35 + 1) q1_1 q1_2 q1_3 q2_1 q2_2 q2_3)) μ2 true (t50 + 1) t50 (((l_scales).getD (t35 : Int).toNat 0)) q) else (bif flt .f32 (p_impl_size q3_3) (p_impl_size q) then (p_impl_PursueOnce_l2 l_list l_scales t6 found t35 q1_1 q1_2 q1_3 q1_4 q1_5 q1_6 (fun (found_8 : Bool) (t50 : Int) (q2_1 : Int) (q2_2 : Nat) (q2_3 : Nat) => (p_impl_PursueOnce_l1 l_list l_scales μ t6 found_8 (t35 + 1) q1_1 q1_2 q1_3 q2_1 q2_2 q2_3)) μ2 true (t50 + 1) t50 (((l_scales).getD (t35 : Int).toNat 0)) q) else (p_impl_PursueOnce_l2 l_list l_scales t6 found t35 q1_1 q1_2 q1_3 q1_4 q1_5 q1_6 (fun (found_8 : Bool) (t50 : Int) (q2_1 : Int) (q2_2 : Nat) (q2_3 : Nat) => (p_impl_PursueOnce_l1 l_list l_scales μ t6 found_8 (t35 + 1) q1_1 q1_2 q1_3 q2_1 q2_2 q2_3)) μ2 found_8 (t50 + 1) q3_1 q3_2 q3_3)))) (μ3 + 1) q t60 q3_1 q3_2 q3_3) (Int.toNat ((((p_impl_atomBy ((p_impl_realKernel (((l_scales).getD (t35 : Int).toNat 0))).1) ((p_impl_realKernel (((l_scales).getD (t35 : Int).toNat 0))).2) (l_list.length : Int) t50 1065353216)).length : Int) - (0 : Int))) _ _ _ _ _ _ _ _ _ _ _ _ _ _ _ _ _ H_11 ?_ ?_
                · exact ⟨_, _, _, o_111, o_113, r_115, r_105, o3, o3, o3, g_109, o6, o6, o3, e⟩
                · intro μ3 q t60 g15 g16 g61 g62 g63 g64 g65 g66 g67 g68 g69 g70 g71 g72 g73 H_12 hI
                  obtain ⟨q3_1, q3_2, q3_3, o_119, o_120, r_121, r_122, n_123, n_124, n_125, g_126, v_127, v_128, hμ, e⟩ := hI
                  rw [impl_PursueOnce_r3]
                  have e := e.trans (p_impl_PursueOnce_l3_s l_list l_scales t6 found t35 q1_1 q1_2 q1_3 q1_4 q1_5 q1_6 found_8 t50 q2_1 q2_2 q2_3 (fun (q : Nat) (t60 : Int) (q3_1 : Int) (q3_2 : Nat) (q3_3 : Nat) => (bif !found_8 then (p_impl_PursueOnce_l2 l_list l_scales t6 found t35 q1_1 q1_2 q1_3 q1_4 q1_5 q1_6 (fun (found_8 : Bool) (t50 : Int) (q2_1 : Int) (q2_2 : Nat) (q2_3 : Nat) => (p_impl_PursueOnce_l1 l_list l_scales μ t6 found_8 (t35 + 1) q1_1 q1_2 q1_3 q2_1 q2_2 q2_3)) μ2 true (t50 + 1) t50 (((l_scales).getD (t35 : Int).toNat 0)) q) else (bif flt .f32 (p_impl_size q3_3) (p_impl_size q) then (p_impl_PursueOnce_l2 l_list l_scales t6 found t35 q1_1 q1_2 q1_3 q1_4 q1_5 q1_6 (fun (found_8 : Bool) (t50 : Int) (q2_1 : Int) (q2_2 : Nat) (q2_3 : Nat) => (p_impl_PursueOnce_l1 l_list l_scales μ t6 found_8 (t35 + 1) q1_1 q1_2 q1_3 q2_1 q2_2 q2_3)) μ2 true (t50 + 1) t50 (((l_scales).getD (t35 : Int).toNat 0)) q) else (p_impl_PursueOnce_l2 l_list l_scales t6 found t35 q1_1 q1_2 q1_3 q1_4 q1_5 q1_6 (fun (found_8 : Bool) (t50 : Int) (q2_1 : Int) (q2_2 : Nat) (q2_3 : Nat) => (p_impl_PursueOnce_l1 l_list l_scales μ t6 found_8 (t35 + 1) q1_1 q1_2 q1_3 q2_1 q2_2 q2_3)) μ2 found_8 (t50 + 1) q3_1 q3_2 q3_3)))) μ3 q t60 q3_1 q3_2 q3_3)
                  have w_129 := o_119.lt
                  have w_130 := o_120.lt
                  have l_131 := g_126.1
                  refine Br.intro (fun c_132 => ?_) (fun c_132 => ?_)
                  · have e := e.trans (cond_t c_132)
                    have c_132' := of_decide_eq_true c_132
                    obtain ⟨b_133, f_134, q_135⟩ := (r_122.isL).pos o0
                    refine ⟨by omega, by omega, b_133, f_134, q_135, ?_⟩
                    refine ⟨(((p_impl_atomBy ((p_impl_realKernel (((l_scales).getD (t35 : Int).toNat 0))).1) ((p_impl_realKernel (((l_scales).getD (t35 : Int).toNat 0))).2) (l_list.length : Int) t50 1065353216)).getD (t60 : Int).toNat 0), (r_122.isL).rd (Grow.refl _) q_135 o3 _, ?_⟩
                    obtain ⟨b_136, f_137, q_138⟩ := ((i_list.grow g_126)).pos o0
                    refine ⟨by omega, by omega, b_136, f_137, q_138, ?_⟩
                    refine ⟨((l_list).getD (t60 : Int).toNat 0), (i_list).rd g_126 q_138 o3 _, ?_⟩
                    rw [show IntKind.wrap .i64 (t60 + 1) = (t60 + 1) from wrap64 o3 o3]
                    refine impl_PursueOnce_n3 (μ3 - 1) o11 ⟨_, _, _, o_119, o_120, r_121, r_122, o3, o3, o3, g_126, o1, o1, o11, (by rw [show μ3 - 1 + 1 = μ3 from by first | omega]; exact e)⟩
                  · have e := e.trans (cond_f c_132)
                    have c_132' := of_decide_eq_false c_132
                    rw [impl_PursueOnce_x3_4]
                    refine Br.intro (fun c_139 => ?_) (fun c_139 => ?_)
                    · have e := e.trans (cond_t c_139)
                      have c_139n := nf_of_t c_139
                      refine Lt.setN (n := 3) o_120 (Nat.le_of_ble_eq_true rfl) rfl (fun H_13 hl_140 o_142 k_141 => ?_)
                      have o_142 : Own H_13 b_32 [.int .i64 t50, .float .f32 (((l_scales).getD (t35 : Int).toNat 0)), .float .f32 q] := o_142
                      have l_143 := k_141.1
                      have g_144 := g_126.keep (b := b_32) o3 k_141
                      have l_145 := g_144.1
                      have o_146 := o_119.keep o3 k_141
                      have w_147 := o_146.lt
                      have r_148 := r_121.keep u_87 o3 k_141
                      have r_149 := r_122.keep u_116 o3 k_141
                      have w_150 := o_142.lt
                      rw [show IntKind.wrap .i64 (t50 + 1) = (t50 + 1) from wrap64 o3 o3]
                      refine impl_PursueOnce_n2 (μ2 - 1) o11 ⟨_, _, _, o_146, o_142, r_148, o3, o3, g_144, o1, o1, o11, (by rw [show μ2 - 1 + 1 = μ2 from by first | omega]; exact e)⟩
                    · have e := e.trans (cond_f c_139)
                      have c_139n := nt_of_f c_139
                      refine T_impl_size_i ?_
                      refine ⟨q3_3, (o_120.rdC _).trans rfl, ?_⟩
                      refine T_impl_size_i ?_
                      refine Br.intro (fun c_151 => ?_) (fun c_151 => ?_)
                      · have e := e.trans (cond_t c_151)
                        refine Lt.setN (n := 3) o_120 (Nat.le_of_ble_eq_true rfl) rfl (fun H_14 hl_152 o_154 k_153 => ?_)
                        have o_154 : Own H_14 b_32 [.int .i64 t50, .float .f32 (((l_scales).getD (t35 : Int).toNat 0)), .float .f32 q] := o_154
                        have l_155 := k_153.1
                        have g_156 := g_126.keep (b := b_32) o3 k_153
                        have l_157 := g_156.1
                        have o_158 := o_119.keep o3 k_153
                        have w_159 := o_158.lt
                        have r_160 := r_121.keep u_87 o3 k_153
                        have r_161 := r_122.keep u_116 o3 k_153
                        have w_162 := o_154.lt
                        rw [show IntKind.wrap .i64 (t50 + 1) = (t50 + 1) from wrap64 o3 o3]
                        refine impl_PursueOnce_n2 (μ2 - 1) o11 ⟨_, _, _, o_158, o_154, r_160, o3, o3, g_156, o1, o1, o11, (by rw [show μ2 - 1 + 1 = μ2 from by first | omega]; exact e)⟩
                      · have e := e.trans (cond_f c_151)
                        rw [show IntKind.wrap .i64 (t50 + 1) = (t50 + 1) from wrap64 o3 o3]
                        refine impl_PursueOnce_n2 (μ2 - 1) o11 ⟨_, _, _, o_119, o_120, r_121, o3, o3, g_126, o1, o1, o11, (by rw [show μ2 - 1 + 1 = μ2 from by first | omega]; exact e)⟩
              · have e := e.trans (cond_f c_101)
                have c_101' := of_decide_eq_false c_101
                rw [impl_PursueOnce_x2_2]
                rw [show IntKind.wrap .i64 (t35 + 1) = (t35 + 1) from wrap64 o3 o3]
                refine impl_PursueOnce_n1 (μ - 1) o11 ⟨_, _, _, _, _, _, rfl, rfl, rfl, o_90, o_91, o3, g_95, o1, o1, o11, (by rw [show μ - 1 + 1 = μ from by first | omega]; exact e)⟩
        · have e := e.trans (cond_f c_60)
          have c_60' := of_decide_eq_false c_60
          rw [impl_PursueOnce_x1_0]
          refine ⟨q1_4, q1_5, q1_6, (o_52.rdN (Nat.le_of_ble_eq_true rfl)).trans rfl, ?_⟩
          refine T_impl_AtomList_i (fun a_163 n_164 e_165 H_15 g_168 r_166 => ?_)
          have z_167 := impl_AtomList_len (l_list.length : Int) q1_4 q1_5 q1_6
          have l_169 := g_168.1
          have g_170 := g_54.trans g_168
          have l_171 := g_170.1
          have o_172 := o_51.grow g_168
          have w_173 := o_172.lt
          have o_174 := o_52.grow g_168
          have w_175 := o_174.lt
          obtain rfl := r_166.isL.eqn
          have u_176 := r_166.up
          have u_177 := r_166.lo
          refine Br.intro (fun c_179 => ?_) (fun c_179 => ?_)
          · have e := e.trans (cond_t c_179)
            have c_179n := nf_of_t c_179
            refine Lt.setN (n := 3) o_172 (Nat.le_of_ble_eq_true rfl) rfl (fun H_16 hl_180 o_182 k_181 => ?_)
            have o_182 : Own H_16 b_1 [.int .i64 0, .float .f32 0, .float .f32 0] := o_182
            have l_183 := k_181.1
            have g_184 := g_170.keep (b := b_1) o3 k_181
            have l_185 := g_184.1
            have o_186 := o_174.keep o3 k_181
            have w_187 := o_186.lt
            have r_188 := r_166.keep u_176 o3 k_181
            have w_189 := o_182.lt
            refine ⟨0, 0, 0, (o_182.rdN (Nat.le_of_ble_eq_true rfl)).trans rfl, ?_⟩
            rw [e] at hk
            exact hk _ _ _ H_16 g_184 o15
          · have e := e.trans (cond_f c_179)
            have c_179n := nt_of_f c_179
            refine Al.intro (fun b_190 H_17 hb_191 hl_192 g_193 o_194 => ?_)
            have o_194 : Own H_17 b_190 ((([] : List Nat)).map fF) := o_194
            have l_196 := g_193.1
            have g_197 := g_170.trans g_193
            have l_198 := g_197.1
            have o_199 := o_172.grow g_193
            have w_200 := o_199.lt
            have o_201 := o_174.grow g_193
            have w_202 := o_201.lt
            have r_203 := r_166.grow g_193
            have w_310 := o_194.lt
            refine impl_PursueOnce_L4 _ _ _ _ _ _ _ _ _ _ _ _ _ _ _ _ _ _ _ _ _ _ _ _ _ _ _ _ _ _ _ _ _ _ _ _ _ _ _ _ _ _ _ _ _ _ _ _ _ _ _ _ _ _ _ _ _ _ _ _ _ _ _ _ _ _ _ _ _ _ _ _ _ _ _ _ _ _ _ _ _ _ _ _ _ (fun (μ4 : Nat) (rest_a : Option Addr) (rest_n : Nat) (rest_e : Nat) (t103 : Int) (H_18 : AHeap) => ∃ (l_rest : List Nat), ∃ (b_204 : Nat), ∃ (q4_1 : Int), ∃ (q4_2 : Nat), ∃ (q4_3 : Nat), rest_a = some ⟨b_204, 0, none⟩ ∧ rest_n = l_rest.length ∧ rest_e = 1 ∧ Own H_18 b_204 (l_rest.map fF) ∧ Own H_18 b_1 [.int .i64 q4_1, .float .f32 q4_2, .float .f32 q4_3] ∧ Own H_18 b_32 ([.int .i64 q1_4, .float .f32 q1_5, .float .f32 q1_6]) ∧ OwnS fF H_18 H_7.length a_163 (((p_impl_AtomList (l_list.length : Int) q1_4 q1_5 q1_6).1).length) e_165 ((p_impl_AtomList (l_list.length : Int) q1_4 q1_5 q1_6).1) ∧ (b_32 ≠ b_1) ∧ (b_204 ≠ b_1) ∧ (b_204 ≠ b_32) ∧ H_15.length ≤ H_18.length ∧ (b_204 < H_7.length ∨ H_15.length ≤ b_204) ∧ Grow H H_18 ∧ H.length ≤ b_204 ∧ (0 : Int) ≤ t103 ∧ t103 ≤ (l_list.length : Int) ∧ (l_rest.length : Int) ≤ t103 - (0 : Int) + 0 ∧ (l_list.length : Int) - t103 ≤ (μ4 : Int) ∧ p_impl_PursueOnce l_list l_scales = p_impl_PursueOnce_l4 l_list l_scales t6 found t35 q1_1 q1_2 q1_3 q1_4 q1_5 q1_6 (fun (l_rest : List Nat) (t103 : Int) (q4_1 : Int) (q4_2 : Nat) (q4_3 : Nat) => (bif !((p_impl_areFinite ([l_rest]))) then ((0 : Int), 0, 0, [], false) else (q1_4, q1_5, q1_6, l_rest, true))) (μ4 + 1) l_rest t103 q4_1 q4_2 q4_3) (Int.toNat ((l_list.length : Int) - (0 : Int))) _ _ _ _ _ _ _ _ _ _ _ _ _ _ _ _ _ _ _ _ H_17 ?_ ?_
            · exact ⟨_, _, _, _, _, rfl, o7, rfl, o_194, o_199, o_201, r_203, o3, o3, o3, o3, o3, g_197, o3, o6, o6, o6, o3, e⟩
            · intro μ4 rest_a rest_n rest_e t103 g20 g21 g104 g105 g106 g107 g108 g109 g110 g111 g112 g113 g114 g115 g116 g117 H_18 hI
              obtain ⟨l_rest, b_204, q4_1, q4_2, q4_3, rfl, rfl, rfl, o_205, o_206, o_207, r_208, n_209, n_210, n_211, n_212, n_213, g_214, l_215, v_216, v_217, v_218, hμ, e⟩ := hI
              rw [impl_PursueOnce_r4]
              have e := e.trans (p_impl_PursueOnce_l4_s l_list l_scales t6 found t35 q1_1 q1_2 q1_3 q1_4 q1_5 q1_6 (fun (l_rest : List Nat) (t103 : Int) (q4_1 : Int) (q4_2 : Nat) (q4_3 : Nat) => (bif !((p_impl_areFinite ([l_rest]))) then ((0 : Int), 0, 0, [], false) else (q1_4, q1_5, q1_6, l_rest, true))) μ4 l_rest t103 q4_1 q4_2 q4_3)
              have hz := impl_AtomList_full (by assumption)
              have w_219 := o_206.lt
              have w_220 := o_207.lt
              have w_221 := o_205.lt
              have l_222 := g_214.1
              refine Br.intro (fun c_223 => ?_) (fun c_223 => ?_)
              · have e := e.trans (cond_t c_223)
                have c_223' := of_decide_eq_true c_223
                obtain ⟨b_224, f_225, q_226⟩ := ((i_list.grow g_214)).pos o0
                refine ⟨by omega, by omega, b_224, f_225, q_226, ?_⟩
                refine ⟨((l_list).getD (t103 : Int).toNat 0), (i_list).rd g_214 q_226 o3 _, ?_⟩
                obtain ⟨b_227, f_228, q_229⟩ := (r_208.isL).pos o0
                refine ⟨by omega, by omega, b_227, f_228, q_229, ?_⟩
                refine ⟨(((p_impl_AtomList (l_list.length : Int) q1_4 q1_5 q1_6).1).getD (t103 : Int).toNat 0), (r_208.isL).rd (Grow.refl _) q_229 o3 _, ?_⟩
                refine Al.intro (fun b_230 H_19 hb_231 hl_232 g_233 o_234 => ?_)
                have o_234 : Own H_19 b_230 (([(fsub .f32 (((l_list).getD (t103 : Int).toNat 0)) ((((p_impl_AtomList (l_list.length : Int) q1_4 q1_5 q1_6).1).getD (t103 : Int).toNat 0)))]).map fF) := o_234
                have l_236 := g_233.1
                have g_237 := g_214.trans g_233
                have l_238 := g_237.1
                have o_239 := o_206.grow g_233
                have w_240 := o_239.lt
                have o_241 := o_207.grow g_233
                have w_242 := o_241.lt
                have o_243 := o_205.grow g_233
                have w_244 := o_243.lt
                have r_245 := r_208.grow g_233
                have w_263 := o_234.lt
                refine ⟨_, _, o_243.ownB o8 rfl, (isl_rdS (o_234.isL o7)), (fun h => by cases h), o29, ?_⟩
                refine Ap.app o_243 rfl rfl (fun b_250 H_20 q_261 hl_246 o_247 k_248 => ?_)
                have o_247 := map_snoc o_247
                have l_251 := k_248.1
                have g_252 := g_237.keep (b := b_204) o3 k_248
                have l_253 := g_252.1
                have o_254 := o_239.keep o3 k_248
                have w_255 := o_254.lt
                have o_256 := o_241.keep o3 k_248
                have w_257 := o_256.lt
                have o_258 := o_234.keep o3 k_248
                have w_259 := o_258.lt
                have r_260 := r_245.keep u_176 o3 k_248
                have w_262 := o_247.lt
                rw [show IntKind.wrap .i64 (t103 + 1) = (t103 + 1) from wrap64 o3 o3]
                refine impl_PursueOnce_n4 (μ4 - 1) o11 ⟨_, _, _, _, _, rfl, o9, rfl, o_247, o_254, o_256, r_260, o3, o3, o3, o3, o3, g_252, o3, o1, o1, o1, o11, (by rw [show μ4 - 1 + 1 = μ4 from by first | omega]; exact e)⟩
              · have e := e.trans (cond_f c_223)
                have c_223' := of_decide_eq_false c_223
                rw [impl_PursueOnce_x4_6]
                refine Al.intro (fun b_264 H_21 hb_265 hl_266 g_267 o_268 => ?_)
                have l_270 := g_267.1
                have g_271 := g_214.trans g_267
                have l_272 := g_271.1
                have o_273 := o_206.grow g_267
                have w_274 := o_273.lt
                have o_275 := o_207.grow g_267
                have w_276 := o_275.lt
                have o_277 := o_205.grow g_267
                have w_278 := o_277.lt
                have r_279 := r_208.grow g_267
                have w_309 := o_268.lt
                refine T_impl_areFinite_i ⟨[l_rest], ⟨_, o_268.rdAll rfl, LLc.cons (o_277.isL o7) (LLc.nil _ _)⟩, o0, (by first | assumption | (intro y hy; simp only [List.mem_cons, List.not_mem_nil, or_false] at hy; first | omega | (subst hy; omega) | (rcases hy with rfl | rfl <;> omega) | (rcases hy with rfl | rfl | rfl <;> omega))), ?_⟩
                refine Br.intro (fun c_280 => ?_) (fun c_280 => ?_)
                · have e := e.trans (cond_t c_280)
                  have c_280n := nf_of_t c_280
                  refine Lt.setN (n := 3) o_273 (Nat.le_of_ble_eq_true rfl) rfl (fun H_22 hl_281 o_283 k_282 => ?_)
                  have o_283 : Own H_22 b_1 [.int .i64 0, .float .f32 0, .float .f32 0] := o_283
                  have l_284 := k_282.1
                  have g_285 := g_271.keep (b := b_1) o3 k_282
                  have l_286 := g_285.1
                  have o_287 := o_275.keep o3 k_282
                  have w_288 := o_287.lt
                  have o_289 := o_277.keep o3 k_282
                  have w_290 := o_289.lt
                  have o_291 := o_268.keep o3 k_282
                  have w_292 := o_291.lt
                  have r_293 := r_279.keep u_176 o3 k_282
                  have w_294 := o_283.lt
                  refine ⟨0, 0, 0, (o_283.rdN (Nat.le_of_ble_eq_true rfl)).trans rfl, ?_⟩
                  rw [e] at hk
                  exact hk _ _ _ H_22 g_285 o15
                · have e := e.trans (cond_f c_280)
                  have c_280n := nt_of_f c_280
                  refine ⟨q1_4, q1_5, q1_6, (o_275.rdN (Nat.le_of_ble_eq_true rfl)).trans rfl, ?_⟩
                  refine Lt.setN (n := 3) o_273 (Nat.le_of_ble_eq_true rfl) rfl (fun H_23 hl_295 o_297 k_296 => ?_)
                  have o_297 : Own H_23 b_1 [.int .i64 q1_4, .float .f32 q1_5, .float .f32 q1_6] := o_297
                  have l_298 := k_296.1
                  have g_299 := g_271.keep (b := b_1) o3 k_296
                  have l_300 := g_299.1
                  have o_301 := o_275.keep o3 k_296
                  have w_302 := o_301.lt
                  have o_303 := o_277.keep o3 k_296
                  have w_304 := o_303.lt
                  have o_305 := o_268.keep o3 k_296
                  have w_306 := o_305.lt
                  have r_307 := r_279.keep u_176 o3 k_296
                  have w_308 := o_297.lt
                  refine ⟨q1_4, q1_5, q1_6, (o_297.rdN (Nat.le_of_ble_eq_true rfl)).trans rfl, ?_⟩
                  rw [e] at hk
                  exact hk _ _ _ H_23 g_299 (o_303.ownS o7 o3)
theorem impl_PursueOnce_ok : FnOk Try.prog 45 S_impl_PursueOnce := by
  refine FnOk.body mix_ok E_impl_PursueOnce_ok Try.func45 rfl (by kernel_rfl) (by kernel_rfl) ?_ ?_ ?_ ?_ ?_
  · intro args H K K' h hk
    simp only [S_impl_PursueOnce] at *
    unfold F_impl_PursueOnce at *
    split at hk
    · obtain ⟨l_list, l_scales, i_list, i_scales, bd_314, bd_315, k⟩ := hk
      exact ⟨l_list, l_scales, i_list, i_scales, bd_314, bd_315, (fun r2_a r2_n r2_e H' gg ow0 => h _ _ (k r2_a r2_n r2_e H' gg ow0))⟩
    · exact hk.elim
  · intro hq; cases hq
  · intro args H K hk
    simp only [S_impl_PursueOnce] at *
    unfold F_impl_PursueOnce at *
    split at hk
    · obtain ⟨l_list, l_scales, i_list, i_scales, bd_314, bd_315, k⟩ := hk
      exact liveS fun a n e H1 g o => ⟨_, _, k a n e H1 g o⟩
    · exact hk.elim
  · intro _ args H K hk
    simp only [S_impl_PursueOnce] at *
    unfold F_impl_PursueOnce at *
    split at hk
    · obtain ⟨l_list, l_scales, i_list, i_scales, bd_314, bd_315, k⟩ := hk
      exact ⟨l_list, l_scales, i_list, i_scales, bd_314, bd_315, (fun r2_a r2_n r2_e H' gg ow0 => ⟨gg, k r2_a r2_n r2_e H' gg ow0⟩)⟩
    · exact hk.elim
  · have mm := @impl_PursueOnce_main
    revert mm
    generalize bodyK Try.prog E_impl_PursueOnce Try.f45 = Q
    intro mm args H K hk
    simp only [S_impl_PursueOnce] at *
    unfold F_impl_PursueOnce at *
    split at hk
    · exact mm _ _ _ _ _ _ H K hk
    · exact hk.elim
def p_laws_sameFloat (a : Nat) (b : Nat) : Bool := ((bif !(feq .f64 a a) then (bif !(feq .f64 a a) then !(feq .f64 b b) else false) else (bif !(feq .f64 b b) then (bif !(feq .f64 a a) then !(feq .f64 b b) else false) else (bif feq .f64 a 0 then (bif feq .f64 b 0 then (flt .f64 0 (fdiv .f64 4607182418800017408 a)) == (flt .f64 0 (fdiv .f64 4607182418800017408 b)) else feq .f64 a b) else feq .f64 a b))))
def p_laws_sameFloat_eq := @p_laws_sameFloat.eq_1
def T_laws_sameFloat (a : Nat) (b : Nat) (H : AHeap) (K : Bool → AHeap → Prop) : Prop := K (p_laws_sameFloat a b) H

theorem T_laws_sameFloat_i {a : Nat} {b : Nat} {H : AHeap} {K : Bool → AHeap → Prop} (h : K (p_laws_sameFloat a b) H) : T_laws_sameFloat a b H K := h
/-! laws_sameFloat: function 60 -/
def E_laws_sameFloat : Env := envOf []
def F_laws_sameFloat : List Value → AHeap → (Value → AHeap → Prop) → Prop
  | [.float .f64 a, .float .f64 b], H, K => T_laws_sameFloat a b H fun (r1 : Bool) (H' : AHeap) => K (.bool r1) H'
  | _, _, _ => False
def S_laws_sameFloat : FSpec := { F := F_laws_sameFloat, quiet := true, tame := false }
theorem laws_sameFloat_vc (a : Nat) (b : Nat) (H : AHeap) (K : Value → AHeap → Prop) : bodyK Try.prog E_laws_sameFloat Try.f60 [.float .f64 a, .float .f64 b] H K =
  (Br (!(feq .f64 a a)) (Br (!(feq .f64 a a)) (K (.bool (!(feq .f64 b b))) H) (K (.bool false) H)) (Br (!(feq .f64 b b)) (Br (!(feq .f64 a a)) (K (.bool (!(feq .f64 b b))) H) (K (.bool false) H)) (Br (feq .f64 a 0) (Br (feq .f64 b 0) (K (.bool ((flt .f64 0 (fdiv .f64 4607182418800017408 a)) == (flt .f64 0 (fdiv .f64 4607182418800017408 b)))) H) (K (.bool (feq .f64 a b)) H)) (K (.bool (feq .f64 a b)) H)))) := by kernel_rfl
theorem E_laws_sameFloat_ok : ∀ g, FnOk Try.prog g (E_laws_sameFloat g) := FnOk.envOf (by
  intro x hx; cases hx)
set_option maxHeartbeats 1000000 in
theorem laws_sameFloat_main (a : Nat) (b : Nat) (H : AHeap) (K : Value → AHeap → Prop) (h : T_laws_sameFloat a b H fun (r1 : Bool) (H' : AHeap) => K (.bool r1) H') : bodyK Try.prog E_laws_sameFloat Try.f60 [.float .f64 a, .float .f64 b] H K := by
  rw [laws_sameFloat_vc]
  unfold T_laws_sameFloat p_laws_sameFloat at h
  repeat' (first | exact h | (exfalso; simp_all; done) | (refine ⟨by decide, ?_⟩) | (refine Br.intro (fun hb => ?_) (fun hb => ?_) <;> (try simp only [hb, cond_true, cond_false, Bool.not_true, Bool.not_false] at h)))
theorem laws_sameFloat_ok : FnOk Try.prog 60 S_laws_sameFloat := by
  refine FnOk.body mix_ok E_laws_sameFloat_ok Try.func60 rfl (by kernel_rfl) (by kernel_rfl) ?_ ?_ ?_ ?_ ?_
  · intro args H K K' h hk
    simp only [S_laws_sameFloat] at *
    unfold F_laws_sameFloat at *
    split at hk
    · have k := hk
      exact h _ _ k
    · exact hk.elim
  · intro _ args H K hk
    simp only [S_laws_sameFloat] at *
    unfold F_laws_sameFloat at *
    split at hk
    · have k := hk
      exact ⟨_, k, fun K' k' => k'⟩
    · exact hk.elim
  · intro args H K hk
    simp only [S_laws_sameFloat] at *
    unfold F_laws_sameFloat at *
    split at hk
    · have k := hk
      exact ⟨_, _, k⟩
    · exact hk.elim
  · intro hq; cases hq
  · have mm := @laws_sameFloat_main
    revert mm
    generalize bodyK Try.prog E_laws_sameFloat Try.f60 = Q
    intro mm args H K hk
    simp only [S_laws_sameFloat] at *
    unfold F_laws_sameFloat at *
    split at hk
    · exact mm _ _ H K hk
    · exact hk.elim

def p_laws_eqAtom (a_Place : Int) (a_Scale : Nat) (a_Size : Nat) (b_Place : Int) (b_Scale : Nat) (b_Size : Nat) : Bool := ((bif (a_Place : Int) != b_Place then false else (bif !((p_laws_sameFloat (fwide a_Scale) (fwide b_Scale))) then false else (bif !((p_laws_sameFloat (fwide a_Size) (fwide b_Size))) then false else true))))
def p_laws_eqAtom_eq := @p_laws_eqAtom.eq_1
def T_laws_eqAtom (a_Place : Int) (a_Scale : Nat) (a_Size : Nat) (b_Place : Int) (b_Scale : Nat) (b_Size : Nat) (H : AHeap) (K : Bool → AHeap → Prop) : Prop := ((∀ H' : AHeap, Grow H H' → K (p_laws_eqAtom a_Place a_Scale a_Size b_Place b_Scale b_Size) H'))
theorem T_laws_eqAtom_i {a_Place : Int} {a_Scale : Nat} {a_Size : Nat} {b_Place : Int} {b_Scale : Nat} {b_Size : Nat} {H : AHeap} {K : Bool → AHeap → Prop} (h : ((∀ H' : AHeap, Grow H H' → K (p_laws_eqAtom a_Place a_Scale a_Size b_Place b_Scale b_Size) H'))) : T_laws_eqAtom a_Place a_Scale a_Size b_Place b_Scale b_Size H K := h

/-! laws_eqAtom: function 46 -/
def E_laws_eqAtom : Env := envOf [(60, S_laws_sameFloat)]
def F_laws_eqAtom : List Value → AHeap → (Value → AHeap → Prop) → Prop
  | [.agg ⟨[.int .i64 a_Place, .float .f32 a_Scale, .float .f32 a_Size]⟩, .agg ⟨[.int .i64 b_Place, .float .f32 b_Scale, .float .f32 b_Size]⟩], H, K => T_laws_eqAtom a_Place a_Scale a_Size b_Place b_Scale b_Size H fun (r1 : Bool) (H' : AHeap) => K (.bool r1) H'
  | _, _, _ => False
def S_laws_eqAtom : FSpec := { F := F_laws_eqAtom, quiet := false, tame := true }
theorem laws_eqAtom_vc (a_Place : Int) (a_Scale : Nat) (a_Size : Nat) (b_Place : Int) (b_Scale : Nat) (b_Size : Nat) (H : AHeap) (K : Value → AHeap → Prop) : bodyK Try.prog E_laws_eqAtom Try.f46 [.agg #[.int .i64 a_Place, .float .f32 a_Scale, .float .f32 a_Size], .agg #[.int .i64 b_Place, .float .f32 b_Scale, .float .f32 b_Size]] H K =
  (Al [.int .i64 a_Place, .float .f32 a_Scale, .float .f32 a_Size] H fun b1 H1 => Al [.int .i64 b_Place, .float .f32 b_Scale, .float .f32 b_Size] H1 fun b2 H2 => ∃ x1 : Int,  rdC H2 b1 0 = some (.int .i64 x1) ∧ ∃ x2 : Int,  rdC H2 b2 0 = some (.int .i64 x2) ∧ Br ((x1 : Int) != x2) (K (.bool false) H2) (∃ x3 : Nat,  rdC H2 b1 1 = some (.float .f32 x3) ∧ ∃ x4 : Nat,  rdC H2 b2 1 = some (.float .f32 x4) ∧ T_laws_sameFloat (fwide x3) (fwide x4) H2 fun (r1 : Bool) (H3 : AHeap) => Br (!r1) (K (.bool false) H3) (∃ x5 : Nat,  rdC H3 b1 2 = some (.float .f32 x5) ∧ ∃ x6 : Nat,  rdC H3 b2 2 = some (.float .f32 x6) ∧ T_laws_sameFloat (fwide x5) (fwide x6) H3 fun (r2 : Bool) (H4 : AHeap) => Br (!r2) (K (.bool false) H4) (K (.bool true) H4)))) := by kernel_rfl
theorem E_laws_eqAtom_ok : ∀ g, FnOk Try.prog g (E_laws_eqAtom g) := FnOk.envOf (by
  intro x hx
  simp only [List.mem_cons, List.not_mem_nil, or_false] at hx
  subst hx; exact laws_sameFloat_ok)
set_option maxHeartbeats 1000000 in
theorem laws_eqAtom_main (a_Place : Int) (a_Scale : Nat) (a_Size : Nat) (b_Place : Int) (b_Scale : Nat) (b_Size : Nat) (H : AHeap) (K : Value → AHeap → Prop) (h : T_laws_eqAtom a_Place a_Scale a_Size b_Place b_Scale b_Size H fun (r1 : Bool) (H' : AHeap) => K (.bool r1) H') : bodyK Try.prog E_laws_eqAtom Try.f46 [.agg #[.int .i64 a_Place, .float .f32 a_Scale, .float .f32 a_Size], .agg #[.int .i64 b_Place, .float .f32 b_Scale, .float .f32 b_Size]] H K := by
  rw [laws_eqAtom_vc]
  have hk := h
  unfold T_laws_eqAtom at hk
  have e : (p_laws_eqAtom a_Place a_Scale a_Size b_Place b_Scale b_Size) = _ := rfl
  have e := e.trans (p_laws_eqAtom_eq a_Place a_Scale a_Size b_Place b_Scale b_Size)
  have g0 := Grow.refl H
  refine Al.intro (fun b_1 H_1 hb_2 hl_3 g_4 o_5 => ?_)
  have l_7 := g_4.1
  have g_8 := g0.trans g_4
  have l_9 := g_8.1
  have w_25 := o_5.lt
  refine Al.intro (fun b_10 H_2 hb_11 hl_12 g_13 o_14 => ?_)
  have l_16 := g_13.1
  have g_17 := g_8.trans g_13
  have l_18 := g_17.1
  have o_19 := o_5.grow g_13
  have w_20 := o_19.lt
  have w_24 := o_14.lt
  refine ⟨a_Place, (o_19.rdC _).trans rfl, ?_⟩
  refine ⟨b_Place, (o_14.rdC _).trans rfl, ?_⟩
  refine Br.intro (fun c_21 => ?_) (fun c_21 => ?_)
  · have e := e.trans (cond_t c_21)
    have c_21' := ine_t c_21
    rw [e] at hk
    exact hk  H_2 g_17 
  · have e := e.trans (cond_f c_21)
    have c_21' := ine_f c_21
    refine ⟨a_Scale, (o_19.rdC _).trans rfl, ?_⟩
    refine ⟨b_Scale, (o_14.rdC _).trans rfl, ?_⟩
    refine T_laws_sameFloat_i ?_
    refine Br.intro (fun c_22 => ?_) (fun c_22 => ?_)
    · have e := e.trans (cond_t c_22)
      have c_22n := nf_of_t c_22
      rw [e] at hk
      exact hk  H_2 g_17 
    · have e := e.trans (cond_f c_22)
      have c_22n := nt_of_f c_22
      refine ⟨a_Size, (o_19.rdC _).trans rfl, ?_⟩
      refine ⟨b_Size, (o_14.rdC _).trans rfl, ?_⟩
      refine T_laws_sameFloat_i ?_
      refine Br.intro (fun c_23 => ?_) (fun c_23 => ?_)
      · have e := e.trans (cond_t c_23)
        have c_23n := nf_of_t c_23
        rw [e] at hk
        exact hk  H_2 g_17 
      · have e := e.trans (cond_f c_23)
        have c_23n := nt_of_f c_23
        rw [e] at hk
        exact hk  H_2 g_17 
theorem laws_eqAtom_ok : FnOk Try.prog 46 S_laws_eqAtom := by
  refine FnOk.body mix_ok E_laws_eqAtom_ok Try.func46 rfl (by kernel_rfl) (by kernel_rfl) ?_ ?_ ?_ ?_ ?_
  · intro args H K K' h hk
    simp only [S_laws_eqAtom] at *
    unfold F_laws_eqAtom at *
    split at hk
    · have k := hk
      exact fun  H' gg  => h _ _ (k  H' gg )
    · exact hk.elim
  · intro hq; cases hq
  · intro args H K hk
    simp only [S_laws_eqAtom] at *
    unfold F_laws_eqAtom at *
    split at hk
    · have k := hk
      exact ⟨_, _, k H (Grow.refl H)⟩
    · exact hk.elim
  · intro _ args H K hk
    simp only [S_laws_eqAtom] at *
    unfold F_laws_eqAtom at *
    split at hk
    · have k := hk
      exact fun  H' gg  => ⟨gg, k  H' gg ⟩
    · exact hk.elim
  · have mm := @laws_eqAtom_main
    revert mm
    generalize bodyK Try.prog E_laws_eqAtom Try.f46 = Q
    intro mm args H K hk
    simp only [S_laws_eqAtom] at *
    unfold F_laws_eqAtom at *
    split at hk
    · exact mm _ _ _ _ _ _ H K hk
    · exact hk.elim

def p_laws_eqFloat32S_l1 (l_a : List Nat) (l_b : List Nat) : Nat → Bool → Int → Bool
  | 0, _, _ => false
  | μ + 1, t4, i => (bif decide ((i : Int) < (l_a.length : Int)) then (bif !((p_laws_sameFloat (fwide (((l_a).getD (i : Int).toNat 0))) (fwide (((l_b).getD (i : Int).toNat 0))))) then false else (p_laws_eqFloat32S_l1 l_a l_b μ t4 (i + 1))) else true)
def p_laws_eqFloat32S_l1_s := fun l_a l_b μ t4 i => @p_laws_eqFloat32S_l1.eq_2 l_a l_b t4 i μ
def p_laws_eqFloat32S (l_a : List Nat) (l_b : List Nat) : Bool := ((bif ((l_a.length : Int) : Int) != (l_b.length : Int) then false else (p_laws_eqFloat32S_l1 l_a l_b (Int.toNat ((l_a.length : Int) - (0 : Int)) + 1) false (0 : Int))))
def p_laws_eqFloat32S_eq := @p_laws_eqFloat32S.eq_1
def T_laws_eqFloat32S (a_a : Option Addr) (a_n : Nat) (a_e : Nat) (b_a : Option Addr) (b_n : Nat) (b_e : Nat) (H : AHeap) (K : Bool → AHeap → Prop) : Prop := ∃ (l_a : List Nat), ∃ (l_b : List Nat), IsL fF H a_a a_n l_a ∧ IsL fF H b_a b_n l_b ∧ l_a.length < 1073741824 ∧ l_b.length < 1073741824 ∧ K (p_laws_eqFloat32S l_a l_b) H
theorem T_laws_eqFloat32S_i {a_a : Option Addr} {a_n : Nat} {a_e : Nat} {b_a : Option Addr} {b_n : Nat} {b_e : Nat} {H : AHeap} {K : Bool → AHeap → Prop} (h : ∃ (l_a : List Nat), ∃ (l_b : List Nat), IsL fF H a_a a_n l_a ∧ IsL fF H b_a b_n l_b ∧ l_a.length < 1073741824 ∧ l_b.length < 1073741824 ∧ K (p_laws_eqFloat32S l_a l_b) H) : T_laws_eqFloat32S a_a a_n a_e b_a b_n b_e H K := h
theorem laws_sameFloat_self (y : Nat) : p_laws_sameFloat y y = true := by
  rw [p_laws_sameFloat_eq]
  cases feq .f64 y y <;> simp
theorem laws_eqFloat32S_go (l : List Nat) : ∀ (μ : Nat) (t : Bool) (i : Nat), l.length - i < μ → p_laws_eqFloat32S_l1 l l μ t (i : Int) = true := by
  intro μ
  induction μ with
  | zero => intro t i h; omega
  | succ μ ih =>
    intro t i hm
    rw [p_laws_eqFloat32S_l1_s]
    by_cases h : i < l.length
    · rw [decide_eq_true (show (i : Int) < (l.length : Int) by omega), cond_true, laws_sameFloat_self]
      simp only [Bool.not_true, cond_false]
      exact ih t (i + 1) o3
    · rw [decide_eq_false (show ¬ (i : Int) < (l.length : Int) by omega), cond_false]
theorem laws_eqFloat32S_self (l : List Nat) : p_laws_eqFloat32S l l = true := by
  rw [p_laws_eqFloat32S_eq]
  have h0 : ((l.length : Int) != (l.length : Int)) = false := by simp
  rw [h0, cond_false]
  exact laws_eqFloat32S_go l _ false 0 o3
/-! laws_eqFloat32S: function 14 -/
def E_laws_eqFloat32S : Env := envOf [(60, S_laws_sameFloat)]
def F_laws_eqFloat32S : List Value → AHeap → (Value → AHeap → Prop) → Prop
  | [.slice a_a a_n a_e, .slice b_a b_n b_e], H, K => T_laws_eqFloat32S a_a a_n a_e b_a b_n b_e H fun (r1 : Bool) (H' : AHeap) => K (.bool r1) H'
  | _, _, _ => False
def S_laws_eqFloat32S : FSpec := { F := F_laws_eqFloat32S, quiet := true, tame := false }
theorem laws_eqFloat32S_vc (a_a : Option Addr) (a_n : Nat) (a_e : Nat) (b_a : Option Addr) (b_n : Nat) (b_e : Nat) (H : AHeap) (K : Value → AHeap → Prop) : bodyK Try.prog E_laws_eqFloat32S Try.f14 [.slice a_a a_n a_e, .slice b_a b_n b_e] H K =
  (Br (((a_n : Int) : Int) != (b_n : Int)) (K (.bool false) H) (loopK (exK Try.prog E_laws_eqFloat32S (cl (cl (cr (cl (cr (cr (bodyC Try.f14)))))))) [.slice a_a a_n a_e, .slice b_a b_n b_e, undef, undef, .bool false, .int .i64 0, .slice a_a a_n a_e, .int .i64 (a_n : Int), .slice b_a b_n b_e, .int .i64 (b_n : Int), .bool (((a_n : Int) : Int) != (b_n : Int)), undef, undef, undef, undef, undef, undef, undef, undef, undef, undef, undef, undef, undef, undef, undef, undef, undef, undef] H (blockQ 0 (seqQ (exK Try.prog E_laws_eqFloat32S (cr (cr (cr (bodyC Try.f14))))) (retK Try.prog Try.f14 K))))) := by kernel_rfl
abbrev laws_eqFloat32S_P1 (a_a : Option Addr) (a_e : Nat) (a_n : Nat) (b_a : Option Addr) (b_e : Nat) (b_n : Nat) (t4 : Bool) (i : Int) (g11 g12 g13 g14 g15 g16 g17 g18 g19 g20 g21 g22 g23 g24 g25 g26 g27 g28 : Value) : List Value := [.slice a_a a_n a_e, .slice b_a b_n b_e, undef, undef, .bool t4, .int .i64 i, .slice a_a a_n a_e, .int .i64 (a_n : Int), .slice b_a b_n b_e, .int .i64 (b_n : Int), .bool (((a_n : Int) : Int) != (b_n : Int)), g11, g12, g13, g14, g15, g16, g17, g18, g19, g20, g21, g22, g23, g24, g25, g26, g27, g28]
theorem laws_eqFloat32S_r1 (a_a : Option Addr) (a_e : Nat) (a_n : Nat) (b_a : Option Addr) (b_e : Nat) (b_n : Nat) (t4 : Bool) (i : Int) (g11 g12 g13 g14 g15 g16 g17 g18 g19 g20 g21 g22 g23 g24 g25 g26 g27 g28 : Value) (H : AHeap) (R : Post) : exK Try.prog E_laws_eqFloat32S (cl (cl (cr (cl (cr (cr (bodyC Try.f14))))))) (laws_eqFloat32S_P1 a_a a_e a_n b_a b_e b_n t4 i g11 g12 g13 g14 g15 g16 g17 g18 g19 g20 g21 g22 g23 g24 g25 g26 g27 g28) H R =
  (Br (decide ((i : Int) < (a_n : Int))) ((0 : Int) ≤ i ∧ i < (a_n : Int) ∧ ∃ b1 f1, (a_a : Option Addr) = some ⟨b1, f1, none⟩ ∧ ∃ x1 : Nat,  rdC H b1 (f1 + (i : Int).toNat * 1) = some (.float .f32 x1) ∧ (0 : Int) ≤ i ∧ i < (b_n : Int) ∧ ∃ b2 f2, (b_a : Option Addr) = some ⟨b2, f2, none⟩ ∧ ∃ x2 : Nat,  rdC H b2 (f2 + (i : Int).toNat * 1) = some (.float .f32 x2) ∧ T_laws_sameFloat (fwide x1) (fwide x2) H fun (r1 : Bool) (H1 : AHeap) => Br (!r1) (R .ret [.slice a_a a_n a_e, .slice b_a b_n b_e, undef, undef, .bool false, .int .i64 i, .slice a_a a_n a_e, .int .i64 (a_n : Int), .slice b_a b_n b_e, .int .i64 (b_n : Int), .bool (((a_n : Int) : Int) != (b_n : Int)), .int .i64 i, .slice a_a a_n a_e, .int .i64 (a_n : Int), .bool (decide ((i : Int) < (a_n : Int))), g15, g16, .slice a_a a_n a_e, .int .i64 i, .pointer (some ⟨b1, f1 + (i : Int).toNat * 1, none⟩), .float .f32 x1, .float .f64 (fwide x1), .slice b_a b_n b_e, .int .i64 i, .pointer (some ⟨b2, f2 + (i : Int).toNat * 1, none⟩), .float .f32 x2, .float .f64 (fwide x2), .bool r1, .bool (!r1)] H1) (R .normal [.slice a_a a_n a_e, .slice b_a b_n b_e, undef, undef, .bool t4, .int .i64 (IntKind.wrap .i64 (i + 1)), .slice a_a a_n a_e, .int .i64 (a_n : Int), .slice b_a b_n b_e, .int .i64 (b_n : Int), .bool (((a_n : Int) : Int) != (b_n : Int)), .int .i64 i, .slice a_a a_n a_e, .int .i64 (a_n : Int), .bool (decide ((i : Int) < (a_n : Int))), .int .i64 i, .int .i64 (IntKind.wrap .i64 (i + 1)), .slice a_a a_n a_e, .int .i64 i, .pointer (some ⟨b1, f1 + (i : Int).toNat * 1, none⟩), .float .f32 x1, .float .f64 (fwide x1), .slice b_a b_n b_e, .int .i64 i, .pointer (some ⟨b2, f2 + (i : Int).toNat * 1, none⟩), .float .f32 x2, .float .f64 (fwide x2), .bool r1, .bool (!r1)] H1)) (R (.exit 0) [.slice a_a a_n a_e, .slice b_a b_n b_e, undef, undef, .bool t4, .int .i64 i, .slice a_a a_n a_e, .int .i64 (a_n : Int), .slice b_a b_n b_e, .int .i64 (b_n : Int), .bool (((a_n : Int) : Int) != (b_n : Int)), .int .i64 i, .slice a_a a_n a_e, .int .i64 (a_n : Int), .bool (decide ((i : Int) < (a_n : Int))), g15, g16, g17, g18, g19, g20, g21, g22, g23, g24, g25, g26, g27, g28] H)) := by kernel_rfl
def laws_eqFloat32S_I1 (a_a : Option Addr) (a_e : Nat) (a_n : Nat) (b_a : Option Addr) (b_e : Nat) (b_n : Nat) (Inv : Nat → Bool → Int → AHeap → Prop) : Nat → List Value → AHeap → Prop := fun μ tm H => ∃ (t4 : Bool), ∃ (i : Int), ∃ g11 g12 g13 g14 g15 g16 g17 g18 g19 g20 g21 g22 g23 g24 g25 g26 g27 g28, tm = (laws_eqFloat32S_P1 a_a a_e a_n b_a b_e b_n t4 i g11 g12 g13 g14 g15 g16 g17 g18 g19 g20 g21 g22 g23 g24 g25 g26 g27 g28) ∧ Inv μ t4 i H
theorem laws_eqFloat32S_L1 (a_a : Option Addr) (a_e : Nat) (a_n : Nat) (b_a : Option Addr) (b_e : Nat) (b_n : Nat) {Q : Post} (Inv : Nat → Bool → Int → AHeap → Prop) (ν : Nat) (t4 : Bool) (i : Int) (g11 g12 g13 g14 g15 g16 g17 g18 g19 g20 g21 g22 g23 g24 g25 g26 g27 g28 : Value) (H : AHeap) (h0 : Inv ν t4 i H)
    (hs : ∀ (μ : Nat) (t4 : Bool) (i : Int) (g11 g12 g13 g14 g15 g16 g17 g18 g19 g20 g21 g22 g23 g24 g25 g26 g27 g28 : Value) (H : AHeap), Inv μ t4 i H → exK Try.prog E_laws_eqFloat32S (cl (cl (cr (cl (cr (cr (bodyC Try.f14))))))) (laws_eqFloat32S_P1 a_a a_e a_n b_a b_e b_n t4 i g11 g12 g13 g14 g15 g16 g17 g18 g19 g20 g21 g22 g23 g24 g25 g26 g27 g28) H (loopQ (laws_eqFloat32S_I1 a_a a_e a_n b_a b_e b_n Inv) μ Q)) : loopK (exK Try.prog E_laws_eqFloat32S (cl (cl (cr (cl (cr (cr (bodyC Try.f14)))))))) (laws_eqFloat32S_P1 a_a a_e a_n b_a b_e b_n t4 i g11 g12 g13 g14 g15 g16 g17 g18 g19 g20 g21 g22 g23 g24 g25 g26 g27 g28) H Q :=
  ⟨laws_eqFloat32S_I1 a_a a_e a_n b_a b_e b_n Inv, ν, ⟨t4, i, g11, g12, g13, g14, g15, g16, g17, g18, g19, g20, g21, g22, g23, g24, g25, g26, g27, g28, rfl, h0⟩, fun μ tm H h => by obtain ⟨t4, i, g11, g12, g13, g14, g15, g16, g17, g18, g19, g20, g21, g22, g23, g24, g25, g26, g27, g28, rfl, hI⟩ := h; exact hs μ t4 i g11 g12 g13 g14 g15 g16 g17 g18 g19 g20 g21 g22 g23 g24 g25 g26 g27 g28 H hI⟩
theorem laws_eqFloat32S_n1 {a_a : Option Addr} {a_e : Nat} {a_n : Nat} {b_a : Option Addr} {b_e : Nat} {b_n : Nat} {Q : Post} {Inv : Nat → Bool → Int → AHeap → Prop} {μ : Nat} (μ' : Nat) {t4 : Bool} {i : Int} {g11 g12 g13 g14 g15 g16 g17 g18 g19 g20 g21 g22 g23 g24 g25 g26 g27 g28 : Value} {H : AHeap} (hm : μ' < μ) (hI : Inv μ' t4 i H) : loopQ (laws_eqFloat32S_I1 a_a a_e a_n b_a b_e b_n Inv) μ Q .normal (laws_eqFloat32S_P1 a_a a_e a_n b_a b_e b_n t4 i g11 g12 g13 g14 g15 g16 g17 g18 g19 g20 g21 g22 g23 g24 g25 g26 g27 g28) H := ⟨μ', hm, t4, i, g11, g12, g13, g14, g15, g16, g17, g18, g19, g20, g21, g22, g23, g24, g25, g26, g27, g28, rfl, hI⟩
theorem laws_eqFloat32S_x1_0 (a_a : Option Addr) (a_e : Nat) (a_n : Nat) (b_a : Option Addr) (b_e : Nat) (b_n : Nat) (t4 : Bool) (i : Int) (g11 g12 g13 g14 g15 g16 g17 g18 g19 g20 g21 g22 g23 g24 g25 g26 g27 g28 : Value) (H : AHeap) (K : Value → AHeap → Prop)  {I : Nat → List Value → AHeap → Prop} {μ : Nat} : loopQ I μ (blockQ 0 (seqQ (exK Try.prog E_laws_eqFloat32S (cr (cr (cr (bodyC Try.f14))))) (retK Try.prog Try.f14 K))) (.exit 0) (laws_eqFloat32S_P1 a_a a_e a_n b_a b_e b_n t4 i g11 g12 g13 g14 g15 g16 g17 g18 g19 g20 g21 g22 g23 g24 g25 g26 g27 g28) H =
  (K (.bool true) H) := by kernel_rfl
theorem laws_eqFloat32S_x1_ret (a_a : Option Addr) (a_e : Nat) (a_n : Nat) (b_a : Option Addr) (b_e : Nat) (b_n : Nat) (t4 : Bool) (i : Int) (g11 g12 g13 g14 g15 g16 g17 g18 g19 g20 g21 g22 g23 g24 g25 g26 g27 g28 : Value) (H : AHeap) (K : Value → AHeap → Prop)  {I : Nat → List Value → AHeap → Prop} {μ : Nat} : loopQ I μ (blockQ 0 (seqQ (exK Try.prog E_laws_eqFloat32S (cr (cr (cr (bodyC Try.f14))))) (retK Try.prog Try.f14 K))) .ret (laws_eqFloat32S_P1 a_a a_e a_n b_a b_e b_n t4 i g11 g12 g13 g14 g15 g16 g17 g18 g19 g20 g21 g22 g23 g24 g25 g26 g27 g28) H =
  (K (.bool t4) H) := by kernel_rfl
theorem E_laws_eqFloat32S_ok : ∀ g, FnOk Try.prog g (E_laws_eqFloat32S g) := FnOk.envOf (by
  intro x hx
  simp only [List.mem_cons, List.not_mem_nil, or_false] at hx
  subst hx; exact laws_sameFloat_ok)
set_option maxHeartbeats 1000000 in
theorem laws_eqFloat32S_main (a_a : Option Addr) (a_n : Nat) (a_e : Nat) (b_a : Option Addr) (b_n : Nat) (b_e : Nat) (H : AHeap) (K : Value → AHeap → Prop) (h : T_laws_eqFloat32S a_a a_n a_e b_a b_n b_e H fun (r1 : Bool) (H' : AHeap) => K (.bool r1) H') : bodyK Try.prog E_laws_eqFloat32S Try.f14 [.slice a_a a_n a_e, .slice b_a b_n b_e] H K := by
  rw [laws_eqFloat32S_vc]
  obtain ⟨l_a, l_b, i_a, i_b, bd_13, bd_14, hk⟩ := h
  obtain rfl := i_a.eqn
  obtain rfl := i_b.eqn
  have e : (p_laws_eqFloat32S l_a l_b) = _ := rfl
  have e := e.trans (p_laws_eqFloat32S_eq l_a l_b)
  have g0 := Grow.refl H
  refine Br.intro (fun c_1 => ?_) (fun c_1 => ?_)
  · have e := e.trans (cond_t c_1)
    have c_1' := ine_t c_1
    rw [e] at hk
    exact hk
  · have e := e.trans (cond_f c_1)
    have c_1' := ine_f c_1
    refine laws_eqFloat32S_L1 _ _ _ _ _ _ (fun (μ : Nat) (t4 : Bool) (i : Int) (H_1 : AHeap) => H = H_1 ∧ (0 : Int) ≤ i ∧ i ≤ (l_a.length : Int) ∧ (l_a.length : Int) - i ≤ (μ : Int) ∧ p_laws_eqFloat32S l_a l_b = p_laws_eqFloat32S_l1 l_a l_b (μ + 1) t4 i) (Int.toNat ((l_a.length : Int) - (0 : Int))) _ _ _ _ _ _ _ _ _ _ _ _ _ _ _ _ _ _ _ _ H ?_ ?_
    · exact ⟨rfl, o6, o6, o3, e⟩
    · intro μ t4 i g11 g12 g13 g14 g15 g16 g17 g18 g19 g20 g21 g22 g23 g24 g25 g26 g27 g28 H_1 hI
      obtain ⟨rfl, v_2, v_3, hμ, e⟩ := hI
      rw [laws_eqFloat32S_r1]
      have e := e.trans (p_laws_eqFloat32S_l1_s l_a l_b μ t4 i)
      have l_4 := g0.1
      refine Br.intro (fun c_5 => ?_) (fun c_5 => ?_)
      · have e := e.trans (cond_t c_5)
        have c_5' := of_decide_eq_true c_5
        obtain ⟨b_6, f_7, q_8⟩ := ((i_a.grow g0)).pos o0
        refine ⟨by omega, by omega, b_6, f_7, q_8, ?_⟩
        refine ⟨((l_a).getD (i : Int).toNat 0), (i_a).rd g0 q_8 o3 _, ?_⟩
        obtain ⟨b_9, f_10, q_11⟩ := ((i_b.grow g0)).pos o0
        refine ⟨by omega, by omega, b_9, f_10, q_11, ?_⟩
        refine ⟨((l_b).getD (i : Int).toNat 0), (i_b).rd g0 q_11 o3 _, ?_⟩
        refine T_laws_sameFloat_i ?_
        refine Br.intro (fun c_12 => ?_) (fun c_12 => ?_)
        · have e := e.trans (cond_t c_12)
          have c_12n := nf_of_t c_12
          rw [laws_eqFloat32S_x1_ret]
          rw [e] at hk
          exact hk
        · have e := e.trans (cond_f c_12)
          have c_12n := nt_of_f c_12
          rw [show IntKind.wrap .i64 (i + 1) = (i + 1) from wrap64 o3 o3]
          refine laws_eqFloat32S_n1 (μ - 1) o11 ⟨rfl, o1, o1, o11, (by rw [show μ - 1 + 1 = μ from by first | omega]; exact e)⟩
      · have e := e.trans (cond_f c_5)
        have c_5' := of_decide_eq_false c_5
        rw [laws_eqFloat32S_x1_0]
        rw [e] at hk
        exact hk
theorem laws_eqFloat32S_ok : FnOk Try.prog 14 S_laws_eqFloat32S := by
  refine FnOk.body mix_ok E_laws_eqFloat32S_ok Try.func14 rfl (by kernel_rfl) (by kernel_rfl) ?_ ?_ ?_ ?_ ?_
  · intro args H K K' h hk
    simp only [S_laws_eqFloat32S] at *
    unfold F_laws_eqFloat32S at *
    split at hk
    · obtain ⟨l_a, l_b, i_a, i_b, bd_13, bd_14, k⟩ := hk
      exact ⟨l_a, l_b, i_a, i_b, bd_13, bd_14, h _ _ k⟩
    · exact hk.elim
  · intro _ args H K hk
    simp only [S_laws_eqFloat32S] at *
    unfold F_laws_eqFloat32S at *
    split at hk
    · obtain ⟨l_a, l_b, i_a, i_b, bd_13, bd_14, k⟩ := hk
      exact ⟨_, k, fun K' k' => ⟨l_a, l_b, i_a, i_b, bd_13, bd_14, k'⟩⟩
    · exact hk.elim
  · intro args H K hk
    simp only [S_laws_eqFloat32S] at *
    unfold F_laws_eqFloat32S at *
    split at hk
    · obtain ⟨l_a, l_b, i_a, i_b, bd_13, bd_14, k⟩ := hk
      exact ⟨_, _, k⟩
    · exact hk.elim
  · intro hq; cases hq
  · have mm := @laws_eqFloat32S_main
    revert mm
    generalize bodyK Try.prog E_laws_eqFloat32S Try.f14 = Q
    intro mm args H K hk
    simp only [S_laws_eqFloat32S] at *
    unfold F_laws_eqFloat32S at *
    split at hk
    · exact mm _ _ _ _ _ _ H K hk
    · exact hk.elim

def p_laws_markFloat32S_l1 (l_a : List Nat) (k : Int) : Nat → Int → Int → (List Nat) → Int × (List Nat)
  | 0, _, _, _ => (0, [])
  | μ + 1, k_1, i, y1_1 => (bif decide ((i : Int) < (l_a.length : Int)) then (p_laws_markFloat32S_l1 l_a k μ (IntKind.wrap .i64 (k_1 + 1)) (i + 1) (((y1_1).set (i : Int).toNat (FloatKind.nearest .f32 k_1)))) else (k_1, y1_1))
def p_laws_markFloat32S_l1_s := fun l_a k μ k_1 i y1_1 => @p_laws_markFloat32S_l1.eq_2 l_a k k_1 i y1_1 μ
def p_laws_markFloat32S (l_a : List Nat) (k : Int) : Int × (List Nat) := (p_laws_markFloat32S_l1 l_a k (Int.toNat ((l_a.length : Int) - (0 : Int)) + 1) k (0 : Int) l_a)
def p_laws_markFloat32S_eq := @p_laws_markFloat32S.eq_1
def T_laws_markFloat32S (a_a : Option Addr) (a_n : Nat) (a_e : Nat) (k : Int) (H : AHeap) (K : Int → AHeap → Prop) : Prop := ∃ lo : Nat, ∃ (l_a : List Nat), OwnS fF H lo a_a a_n a_e l_a ∧ l_a.length < 1073741824 ∧ ((∀ H' : AHeap, KeepA a_a H H' → OwnS fF H' lo a_a a_n a_e (marks (FloatKind.nearest .f32) k l_a.length) → K (wk k l_a.length) H'))
theorem T_laws_markFloat32S_i {a_a : Option Addr} {a_n : Nat} {a_e : Nat} {k : Int} {H : AHeap} {K : Int → AHeap → Prop} (h : ∃ lo : Nat, ∃ (l_a : List Nat), OwnS fF H lo a_a a_n a_e l_a ∧ l_a.length < 1073741824 ∧ ((∀ H' : AHeap, KeepA a_a H H' → OwnS fF H' lo a_a a_n a_e (marks (FloatKind.nearest .f32) k l_a.length) → K (wk k l_a.length) H'))) : T_laws_markFloat32S a_a a_n a_e k H K := h
theorem laws_markFloat32S_go (l : List Nat) (k0 : Int) : ∀ (μ : Nat) (k : Int) (i : Nat) (ys : List Nat), ys.length = l.length → i ≤ l.length → l.length - i < μ →
    p_laws_markFloat32S_l1 l k0 μ k (i : Int) ys = (wk k (l.length - i), ys.take i ++ marks (FloatKind.nearest .f32) k (l.length - i)) := by
  intro μ
  induction μ with
  | zero => intro k i ys _ _ h; omega
  | succ μ ih =>
    intro k i ys hy hi hm
    rw [p_laws_markFloat32S_l1_s]
    by_cases h : i < l.length
    · rw [decide_eq_true (show (i : Int) < (l.length : Int) by omega), cond_true, Int.toNat_natCast]
      have := ih (IntKind.wrap .i64 (k + 1)) (i + 1) (ys.set i ((FloatKind.nearest .f32) k)) (by simp [hy]) o3 o3
      obtain ⟨d, hd⟩ : ∃ d, l.length - i = d + 1 := ⟨l.length - i - 1, by omega⟩
      rw [show l.length - (i + 1) = d by omega] at this
      rw [hd, wk, marks]
      refine Eq.trans this ?_
      rw [List.take_add_one, List.getElem?_set_self o3, List.take_set_of_le (Nat.le_refl i)]
      simp
    · rw [decide_eq_false (show ¬ (i : Int) < (l.length : Int) by omega), cond_false]
      rw [show l.length - i = 0 by omega, wk, marks, List.append_nil, List.take_of_length_le o3]
theorem laws_markFloat32S_val (l : List Nat) (k : Int) : p_laws_markFloat32S l k = (wk k l.length, marks (FloatKind.nearest .f32) k l.length) := by
  rw [p_laws_markFloat32S_eq]
  have := laws_markFloat32S_go l k (Int.toNat ((l.length : Int) - 0) + 1) k 0 l rfl o3 o3
  simpa using this
/-! laws_markFloat32S: function 15 -/
def E_laws_markFloat32S : Env := envOf []
def F_laws_markFloat32S : List Value → AHeap → (Value → AHeap → Prop) → Prop
  | [.slice a_a a_n a_e, .int .i64 k], H, K => T_laws_markFloat32S a_a a_n a_e k H fun (r1 : Int) (H' : AHeap) => K (.int .i64 r1) H'
  | _, _, _ => False
def S_laws_markFloat32S : FSpec := { F := F_laws_markFloat32S, quiet := false, tame := false }
theorem laws_markFloat32S_vc (a_a : Option Addr) (a_n : Nat) (a_e : Nat) (k : Int) (H : AHeap) (K : Value → AHeap → Prop) : bodyK Try.prog E_laws_markFloat32S Try.f15 [.slice a_a a_n a_e, .int .i64 k] H K =
  (loopK (exK Try.prog E_laws_markFloat32S (cl (cl (cr (cl (cr (bodyC Try.f15))))))) [.slice a_a a_n a_e, .int .i64 k, undef, undef, .int .i64 0, .int .i64 0, undef, undef, undef, undef, undef, undef, undef, undef, undef, undef, undef, undef, undef, undef] H (blockQ 0 (seqQ (exK Try.prog E_laws_markFloat32S (cr (cr (bodyC Try.f15)))) (retK Try.prog Try.f15 K)))) := by kernel_rfl
abbrev laws_markFloat32S_P1 (a_a : Option Addr) (a_e : Nat) (a_n : Nat) (k_1 : Int) (i : Int) (g6 g7 g8 g9 g10 g11 g12 g13 g14 g15 g16 g17 g18 : Value) : List Value := [.slice a_a a_n a_e, .int .i64 k_1, undef, undef, .int .i64 0, .int .i64 i, g6, g7, g8, g9, g10, g11, g12, g13, g14, g15, g16, g17, g18, undef]
theorem laws_markFloat32S_r1 (a_a : Option Addr) (a_e : Nat) (a_n : Nat) (k_1 : Int) (i : Int) (g6 g7 g8 g9 g10 g11 g12 g13 g14 g15 g16 g17 g18 : Value) (H : AHeap) (R : Post) : exK Try.prog E_laws_markFloat32S (cl (cl (cr (cl (cr (bodyC Try.f15)))))) (laws_markFloat32S_P1 a_a a_e a_n k_1 i g6 g7 g8 g9 g10 g11 g12 g13 g14 g15 g16 g17 g18) H R =
  (Br (decide ((i : Int) < (a_n : Int))) ((0 : Int) ≤ i ∧ i < (a_n : Int) ∧ ∃ b1 f1, (a_a : Option Addr) = some ⟨b1, f1, none⟩ ∧ isOwn H b1 ∧ (∃ l, rdN H b1 (f1 + (i : Int).toNat * 1) 1 = some l) ∧ Lt (setC H b1 (f1 + (i : Int).toNat * 1) (.float .f32 (FloatKind.nearest .f32 k_1))) fun H1 => R .normal [.slice a_a a_n a_e, .int .i64 (IntKind.wrap .i64 (k_1 + 1)), undef, undef, .int .i64 0, .int .i64 (IntKind.wrap .i64 (i + 1)), .int .i64 i, .slice a_a a_n a_e, .int .i64 (a_n : Int), .bool (decide ((i : Int) < (a_n : Int))), .int .i64 i, .int .i64 (IntKind.wrap .i64 (i + 1)), .slice a_a a_n a_e, .int .i64 i, .int .i64 k_1, .float .f32 (FloatKind.nearest .f32 k_1), .pointer (some ⟨b1, f1 + (i : Int).toNat * 1, none⟩), .int .i64 k_1, .int .i64 (IntKind.wrap .i64 (k_1 + 1)), undef] H1) (R (.exit 0) [.slice a_a a_n a_e, .int .i64 k_1, undef, undef, .int .i64 0, .int .i64 i, .int .i64 i, .slice a_a a_n a_e, .int .i64 (a_n : Int), .bool (decide ((i : Int) < (a_n : Int))), g10, g11, g12, g13, g14, g15, g16, g17, g18, undef] H)) := by kernel_rfl
def laws_markFloat32S_I1 (a_a : Option Addr) (a_e : Nat) (a_n : Nat) (Inv : Nat → Int → Int → AHeap → Prop) : Nat → List Value → AHeap → Prop := fun μ tm H => ∃ (k_1 : Int), ∃ (i : Int), ∃ g6 g7 g8 g9 g10 g11 g12 g13 g14 g15 g16 g17 g18, tm = (laws_markFloat32S_P1 a_a a_e a_n k_1 i g6 g7 g8 g9 g10 g11 g12 g13 g14 g15 g16 g17 g18) ∧ Inv μ k_1 i H
theorem laws_markFloat32S_L1 (a_a : Option Addr) (a_e : Nat) (a_n : Nat) {Q : Post} (Inv : Nat → Int → Int → AHeap → Prop) (ν : Nat) (k_1 : Int) (i : Int) (g6 g7 g8 g9 g10 g11 g12 g13 g14 g15 g16 g17 g18 : Value) (H : AHeap) (h0 : Inv ν k_1 i H)
    (hs : ∀ (μ : Nat) (k_1 : Int) (i : Int) (g6 g7 g8 g9 g10 g11 g12 g13 g14 g15 g16 g17 g18 : Value) (H : AHeap), Inv μ k_1 i H → exK Try.prog E_laws_markFloat32S (cl (cl (cr (cl (cr (bodyC Try.f15)))))) (laws_markFloat32S_P1 a_a a_e a_n k_1 i g6 g7 g8 g9 g10 g11 g12 g13 g14 g15 g16 g17 g18) H (loopQ (laws_markFloat32S_I1 a_a a_e a_n Inv) μ Q)) : loopK (exK Try.prog E_laws_markFloat32S (cl (cl (cr (cl (cr (bodyC Try.f15))))))) (laws_markFloat32S_P1 a_a a_e a_n k_1 i g6 g7 g8 g9 g10 g11 g12 g13 g14 g15 g16 g17 g18) H Q :=
  ⟨laws_markFloat32S_I1 a_a a_e a_n Inv, ν, ⟨k_1, i, g6, g7, g8, g9, g10, g11, g12, g13, g14, g15, g16, g17, g18, rfl, h0⟩, fun μ tm H h => by obtain ⟨k_1, i, g6, g7, g8, g9, g10, g11, g12, g13, g14, g15, g16, g17, g18, rfl, hI⟩ := h; exact hs μ k_1 i g6 g7 g8 g9 g10 g11 g12 g13 g14 g15 g16 g17 g18 H hI⟩
theorem laws_markFloat32S_n1 {a_a : Option Addr} {a_e : Nat} {a_n : Nat} {Q : Post} {Inv : Nat → Int → Int → AHeap → Prop} {μ : Nat} (μ' : Nat) {k_1 : Int} {i : Int} {g6 g7 g8 g9 g10 g11 g12 g13 g14 g15 g16 g17 g18 : Value} {H : AHeap} (hm : μ' < μ) (hI : Inv μ' k_1 i H) : loopQ (laws_markFloat32S_I1 a_a a_e a_n Inv) μ Q .normal (laws_markFloat32S_P1 a_a a_e a_n k_1 i g6 g7 g8 g9 g10 g11 g12 g13 g14 g15 g16 g17 g18) H := ⟨μ', hm, k_1, i, g6, g7, g8, g9, g10, g11, g12, g13, g14, g15, g16, g17, g18, rfl, hI⟩
theorem laws_markFloat32S_x1_0 (a_a : Option Addr) (a_e : Nat) (a_n : Nat) (k_1 : Int) (i : Int) (g6 g7 g8 g9 g10 g11 g12 g13 g14 g15 g16 g17 g18 : Value) (H : AHeap) (K : Value → AHeap → Prop)  {I : Nat → List Value → AHeap → Prop} {μ : Nat} : loopQ I μ (blockQ 0 (seqQ (exK Try.prog E_laws_markFloat32S (cr (cr (bodyC Try.f15)))) (retK Try.prog Try.f15 K))) (.exit 0) (laws_markFloat32S_P1 a_a a_e a_n k_1 i g6 g7 g8 g9 g10 g11 g12 g13 g14 g15 g16 g17 g18) H =
  (K (.int .i64 k_1) H) := by kernel_rfl
theorem E_laws_markFloat32S_ok : ∀ g, FnOk Try.prog g (E_laws_markFloat32S g) := FnOk.envOf (by
  intro x hx; cases hx)
set_option maxHeartbeats 1000000 in
theorem laws_markFloat32S_main (a_a : Option Addr) (a_n : Nat) (a_e : Nat) (k : Int) (H : AHeap) (K : Value → AHeap → Prop) (h : T_laws_markFloat32S a_a a_n a_e k H fun (r1 : Int) (H' : AHeap) => K (.int .i64 r1) H') : bodyK Try.prog E_laws_markFloat32S Try.f15 [.slice a_a a_n a_e, .int .i64 k] H K := by
  rw [laws_markFloat32S_vc]
  obtain ⟨lo, l_a, i_a, bd_18, hk⟩ := h
  have hk : (∀ H' : AHeap, KeepA a_a H H' → OwnS fF H' lo a_a a_n a_e ((p_laws_markFloat32S l_a k).2) → (fun (r1 : Int) (H' : AHeap) => K (.int .i64 r1) H') ((p_laws_markFloat32S l_a k).1) H') := by rw [laws_markFloat32S_val l_a k]; exact hk
  obtain rfl := i_a.len
  have up_m := i_a.up
  have lo_m := i_a.lo
  have e : (p_laws_markFloat32S l_a k) = _ := rfl
  have e := e.trans (p_laws_markFloat32S_eq l_a k)
  have g0 := KeepA.refl a_a H
  refine laws_markFloat32S_L1 _ _ _ (fun (μ : Nat) (k_1 : Int) (i : Int) (H_1 : AHeap) => ∃ (y1_1 : List Nat), OwnS fF H_1 lo a_a l_a.length a_e y1_1 ∧ y1_1.length = (l_a).length ∧ H.length ≤ H_1.length ∧ KeepA a_a H H_1 ∧ (0 : Int) ≤ i ∧ i ≤ (l_a.length : Int) ∧ (l_a.length : Int) - i ≤ (μ : Int) ∧ p_laws_markFloat32S l_a k = p_laws_markFloat32S_l1 l_a k (μ + 1) k_1 i y1_1) (Int.toNat ((l_a.length : Int) - (0 : Int))) _ _ _ _ _ _ _ _ _ _ _ _ _ _ _ H ?_ ?_
  · exact ⟨_, i_a, o28, o3, g0, o6, o6, o3, e⟩
  · intro μ k_1 i g6 g7 g8 g9 g10 g11 g12 g13 g14 g15 g16 g17 g18 H_1 hI
    obtain ⟨y1_1, r_1, y_2, n_3, g_4, v_5, v_6, hμ, e⟩ := hI
    rw [laws_markFloat32S_r1]
    have e := e.trans (p_laws_markFloat32S_l1_s l_a k μ k_1 i y1_1)
    have l_7 := g_4.1
    refine Br.intro (fun c_8 => ?_) (fun c_8 => ?_)
    · have e := e.trans (cond_t c_8)
      have c_8' := of_decide_eq_true c_8
      obtain ⟨b_9, f_10, q_11⟩ := (r_1.isL).pos o0
      refine ⟨by omega, by omega, b_9, f_10, q_11, ?_⟩
      refine Lt.setS r_1 q_11 (by first | omega | (simp only [List.length_set]; (first | omega | (simp only [List.length_set, List.length_replicate, List.length_append, List.length_cons, List.length_nil, List.length_take, List.length_drop, marks_length]; done) | (simp only [List.length_set, List.length_replicate, List.length_append, List.length_cons, List.length_nil, List.length_take, List.length_drop, marks_length]; omega)))) (fun H_2 hl_12 o_14 k_13 => ?_)
      have l_15 := k_13.1
      have g_16 := g_4.transA k_13
      have l_17 := g_16.1
      rw [show IntKind.wrap .i64 (i + 1) = (i + 1) from wrap64 o3 o3]
      refine laws_markFloat32S_n1 (μ - 1) o11 ⟨_, o_14, o20, o3, g_16, o1, o1, o11, (by rw [show μ - 1 + 1 = μ from by first | omega]; exact e)⟩
    · have e := e.trans (cond_f c_8)
      have c_8' := of_decide_eq_false c_8
      rw [laws_markFloat32S_x1_0]
      rw [e] at hk
      exact hk H_1 g_4 r_1
theorem laws_markFloat32S_ok : FnOk Try.prog 15 S_laws_markFloat32S := by
  refine FnOk.body mix_ok E_laws_markFloat32S_ok Try.func15 rfl (by kernel_rfl) (by kernel_rfl) ?_ ?_ ?_ ?_ ?_
  · intro args H K K' h hk
    simp only [S_laws_markFloat32S] at *
    unfold F_laws_markFloat32S at *
    split at hk
    · obtain ⟨lo, l_a, i_a, bd_18, k⟩ := hk
      exact ⟨lo, l_a, i_a, bd_18, (fun H' gg ow => h _ _ (k H' gg ow))⟩
    · exact hk.elim
  · intro hq; cases hq
  · intro args H K hk
    simp only [S_laws_markFloat32S] at *
    unfold F_laws_markFloat32S at *
    split at hk
    · obtain ⟨lo, l_a, i_a, bd_18, k⟩ := hk
      exact (i_a.put _ (by rw [marks_length])).elim fun H1 h => ⟨_, _, k H1 h.1 h.2⟩
    · exact hk.elim
  · intro hq; cases hq
  · have mm := @laws_markFloat32S_main
    revert mm
    generalize bodyK Try.prog E_laws_markFloat32S Try.f15 = Q
    intro mm args H K hk
    simp only [S_laws_markFloat32S] at *
    unfold F_laws_markFloat32S at *
    split at hk
    · exact mm _ _ _ _ H K hk
    · exact hk.elim

def p_laws_heldFloat32S_l1 (l_a : List Nat) (k : Int) : Nat → Int → Int → Int → Int
  | 0, _, _, _ => 0
  | μ + 1, k_1, t4, i => (bif decide ((i : Int) < (l_a.length : Int)) then (bif !(feq .f32 (((l_a).getD (i : Int).toNat 0)) (FloatKind.nearest .f32 k_1)) then ((-1) : Int) else (p_laws_heldFloat32S_l1 l_a k μ (IntKind.wrap .i64 (k_1 + 1)) t4 (i + 1))) else k_1)
def p_laws_heldFloat32S_l1_s := fun l_a k μ k_1 t4 i => @p_laws_heldFloat32S_l1.eq_2 l_a k k_1 t4 i μ
def p_laws_heldFloat32S (l_a : List Nat) (k : Int) : Int := (p_laws_heldFloat32S_l1 l_a k (Int.toNat ((l_a.length : Int) - (0 : Int)) + 1) k (0 : Int) (0 : Int))
def p_laws_heldFloat32S_eq := @p_laws_heldFloat32S.eq_1
def T_laws_heldFloat32S (a_a : Option Addr) (a_n : Nat) (a_e : Nat) (k : Int) (H : AHeap) (K : Int → AHeap → Prop) : Prop := ∃ (l_a : List Nat), IsL fF H a_a a_n l_a ∧ l_a.length < 1073741824 ∧ K (p_laws_heldFloat32S l_a k) H
theorem T_laws_heldFloat32S_i {a_a : Option Addr} {a_n : Nat} {a_e : Nat} {k : Int} {H : AHeap} {K : Int → AHeap → Prop} (h : ∃ (l_a : List Nat), IsL fF H a_a a_n l_a ∧ l_a.length < 1073741824 ∧ K (p_laws_heldFloat32S l_a k) H) : T_laws_heldFloat32S a_a a_n a_e k H K := h
theorem laws_heldFloat32S_go (k0 : Int) : ∀ (μ : Nat) (i : Nat) (pre : List Nat) (k t : Int) (n : Nat), pre.length = i → n < μ →
    p_laws_heldFloat32S_l1 (pre ++ marks (FloatKind.nearest .f32) k n) k0 μ k t (i : Int) = wk k n := by
  intro μ
  induction μ with
  | zero => intro i pre k t n _ h; omega
  | succ μ ih =>
    intro i pre k t n hp hm
    rw [p_laws_heldFloat32S_l1_s]
    have hl : (pre ++ marks (FloatKind.nearest .f32) k n).length = i + n := by rw [List.length_append, hp, marks_length]
    rw [hl]
    cases n with
    | zero => rw [decide_eq_false (show ¬ (i : Int) < ((i + 0 : Nat) : Int) by omega), cond_false]; rfl
    | succ n =>
      rw [decide_eq_true (show (i : Int) < ((i + (n + 1) : Nat) : Int) by omega), cond_true, Int.toNat_natCast]
      have hx : (pre ++ marks (FloatKind.nearest .f32) k (n + 1)).getD i 0 = (FloatKind.nearest .f32) k := by
        rw [List.getD_eq_getElem?_getD, List.getElem?_append_right o3, hp, Nat.sub_self]; rfl
      rw [hx]
      have hq : (!(feq .f32 (FloatKind.nearest .f32 k) (FloatKind.nearest .f32 k))) = false := by rw [feq_nearest]; rfl
      simp only [hq, cond_false]
      have := ih (i + 1) (pre ++ [(FloatKind.nearest .f32) k]) (IntKind.wrap .i64 (k + 1)) t n (by simp [hp]) o3
      rw [List.append_assoc] at this
      rw [wk]; exact this
theorem laws_heldFloat32S_marks (k : Int) (n : Nat) : p_laws_heldFloat32S (marks (FloatKind.nearest .f32) k n) k = wk k n := by
  rw [p_laws_heldFloat32S_eq]
  have := laws_heldFloat32S_go k (Int.toNat (((marks (FloatKind.nearest .f32) k n).length : Int) - 0) + 1) 0 [] k 0 n rfl (by rw [marks_length]; omega)
  simpa using this
/-! laws_heldFloat32S: function 16 -/
def E_laws_heldFloat32S : Env := envOf []
def F_laws_heldFloat32S : List Value → AHeap → (Value → AHeap → Prop) → Prop
  | [.slice a_a a_n a_e, .int .i64 k], H, K => T_laws_heldFloat32S a_a a_n a_e k H fun (r1 : Int) (H' : AHeap) => K (.int .i64 r1) H'
  | _, _, _ => False
def S_laws_heldFloat32S : FSpec := { F := F_laws_heldFloat32S, quiet := true, tame := false }
theorem laws_heldFloat32S_vc (a_a : Option Addr) (a_n : Nat) (a_e : Nat) (k : Int) (H : AHeap) (K : Value → AHeap → Prop) : bodyK Try.prog E_laws_heldFloat32S Try.f16 [.slice a_a a_n a_e, .int .i64 k] H K =
  (loopK (exK Try.prog E_laws_heldFloat32S (cl (cl (cr (cl (cr (bodyC Try.f16))))))) [.slice a_a a_n a_e, .int .i64 k, undef, undef, .int .i64 0, .int .i64 0, undef, undef, undef, undef, undef, undef, undef, undef, undef, undef, undef, undef, undef, undef, undef, undef] H (blockQ 0 (seqQ (exK Try.prog E_laws_heldFloat32S (cr (cr (bodyC Try.f16)))) (retK Try.prog Try.f16 K)))) := by kernel_rfl
abbrev laws_heldFloat32S_P1 (a_a : Option Addr) (a_e : Nat) (a_n : Nat) (k_1 : Int) (t4 : Int) (i : Int) (g6 g7 g8 g9 g10 g11 g12 g13 g14 g15 g16 g17 g18 g19 g20 : Value) : List Value := [.slice a_a a_n a_e, .int .i64 k_1, undef, undef, .int .i64 t4, .int .i64 i, g6, g7, g8, g9, g10, g11, g12, g13, g14, g15, g16, g17, g18, g19, g20, undef]
theorem laws_heldFloat32S_r1 (a_a : Option Addr) (a_e : Nat) (a_n : Nat) (k_1 : Int) (t4 : Int) (i : Int) (g6 g7 g8 g9 g10 g11 g12 g13 g14 g15 g16 g17 g18 g19 g20 : Value) (H : AHeap) (R : Post) : exK Try.prog E_laws_heldFloat32S (cl (cl (cr (cl (cr (bodyC Try.f16)))))) (laws_heldFloat32S_P1 a_a a_e a_n k_1 t4 i g6 g7 g8 g9 g10 g11 g12 g13 g14 g15 g16 g17 g18 g19 g20) H R =
  (Br (decide ((i : Int) < (a_n : Int))) ((0 : Int) ≤ i ∧ i < (a_n : Int) ∧ ∃ b1 f1, (a_a : Option Addr) = some ⟨b1, f1, none⟩ ∧ ∃ x1 : Nat,  rdC H b1 (f1 + (i : Int).toNat * 1) = some (.float .f32 x1) ∧ Br (!(feq .f32 x1 (FloatKind.nearest .f32 k_1))) (R .ret [.slice a_a a_n a_e, .int .i64 k_1, undef, undef, .int .i64 (-1), .int .i64 i, .int .i64 i, .slice a_a a_n a_e, .int .i64 (a_n : Int), .bool (decide ((i : Int) < (a_n : Int))), g10, g11, .slice a_a a_n a_e, .int .i64 i, .pointer (some ⟨b1, f1 + (i : Int).toNat * 1, none⟩), .float .f32 x1, .int .i64 k_1, .float .f32 (FloatKind.nearest .f32 k_1), .bool (!(feq .f32 x1 (FloatKind.nearest .f32 k_1))), g19, g20, undef] H) (R .normal [.slice a_a a_n a_e, .int .i64 (IntKind.wrap .i64 (k_1 + 1)), undef, undef, .int .i64 t4, .int .i64 (IntKind.wrap .i64 (i + 1)), .int .i64 i, .slice a_a a_n a_e, .int .i64 (a_n : Int), .bool (decide ((i : Int) < (a_n : Int))), .int .i64 i, .int .i64 (IntKind.wrap .i64 (i + 1)), .slice a_a a_n a_e, .int .i64 i, .pointer (some ⟨b1, f1 + (i : Int).toNat * 1, none⟩), .float .f32 x1, .int .i64 k_1, .float .f32 (FloatKind.nearest .f32 k_1), .bool (!(feq .f32 x1 (FloatKind.nearest .f32 k_1))), .int .i64 k_1, .int .i64 (IntKind.wrap .i64 (k_1 + 1)), undef] H)) (R (.exit 0) [.slice a_a a_n a_e, .int .i64 k_1, undef, undef, .int .i64 t4, .int .i64 i, .int .i64 i, .slice a_a a_n a_e, .int .i64 (a_n : Int), .bool (decide ((i : Int) < (a_n : Int))), g10, g11, g12, g13, g14, g15, g16, g17, g18, g19, g20, undef] H)) := by kernel_rfl
def laws_heldFloat32S_I1 (a_a : Option Addr) (a_e : Nat) (a_n : Nat) (Inv : Nat → Int → Int → Int → AHeap → Prop) : Nat → List Value → AHeap → Prop := fun μ tm H => ∃ (k_1 : Int), ∃ (t4 : Int), ∃ (i : Int), ∃ g6 g7 g8 g9 g10 g11 g12 g13 g14 g15 g16 g17 g18 g19 g20, tm = (laws_heldFloat32S_P1 a_a a_e a_n k_1 t4 i g6 g7 g8 g9 g10 g11 g12 g13 g14 g15 g16 g17 g18 g19 g20) ∧ Inv μ k_1 t4 i H
theorem laws_heldFloat32S_L1 (a_a : Option Addr) (a_e : Nat) (a_n : Nat) {Q : Post} (Inv : Nat → Int → Int → Int → AHeap → Prop) (ν : Nat) (k_1 : Int) (t4 : Int) (i : Int) (g6 g7 g8 g9 g10 g11 g12 g13 g14 g15 g16 g17 g18 g19 g20 : Value) (H : AHeap) (h0 : Inv ν k_1 t4 i H)
    (hs : ∀ (μ : Nat) (k_1 : Int) (t4 : Int) (i : Int) (g6 g7 g8 g9 g10 g11 g12 g13 g14 g15 g16 g17 g18 g19 g20 : Value) (H : AHeap), Inv μ k_1 t4 i H → exK Try.prog E_laws_heldFloat32S (cl (cl (cr (cl (cr (bodyC Try.f16)))))) (laws_heldFloat32S_P1 a_a a_e a_n k_1 t4 i g6 g7 g8 g9 g10 g11 g12 g13 g14 g15 g16 g17 g18 g19 g20) H (loopQ (laws_heldFloat32S_I1 a_a a_e a_n Inv) μ Q)) : loopK (exK Try.prog E_laws_heldFloat32S (cl (cl (cr (cl (cr (bodyC Try.f16))))))) (laws_heldFloat32S_P1 a_a a_e a_n k_1 t4 i g6 g7 g8 g9 g10 g11 g12 g13 g14 g15 g16 g17 g18 g19 g20) H Q :=
  ⟨laws_heldFloat32S_I1 a_a a_e a_n Inv, ν, ⟨k_1, t4, i, g6, g7, g8, g9, g10, g11, g12, g13, g14, g15, g16, g17, g18, g19, g20, rfl, h0⟩, fun μ tm H h => by obtain ⟨k_1, t4, i, g6, g7, g8, g9, g10, g11, g12, g13, g14, g15, g16, g17, g18, g19, g20, rfl, hI⟩ := h; exact hs μ k_1 t4 i g6 g7 g8 g9 g10 g11 g12 g13 g14 g15 g16 g17 g18 g19 g20 H hI⟩
theorem laws_heldFloat32S_n1 {a_a : Option Addr} {a_e : Nat} {a_n : Nat} {Q : Post} {Inv : Nat → Int → Int → Int → AHeap → Prop} {μ : Nat} (μ' : Nat) {k_1 : Int} {t4 : Int} {i : Int} {g6 g7 g8 g9 g10 g11 g12 g13 g14 g15 g16 g17 g18 g19 g20 : Value} {H : AHeap} (hm : μ' < μ) (hI : Inv μ' k_1 t4 i H) : loopQ (laws_heldFloat32S_I1 a_a a_e a_n Inv) μ Q .normal (laws_heldFloat32S_P1 a_a a_e a_n k_1 t4 i g6 g7 g8 g9 g10 g11 g12 g13 g14 g15 g16 g17 g18 g19 g20) H := ⟨μ', hm, k_1, t4, i, g6, g7, g8, g9, g10, g11, g12, g13, g14, g15, g16, g17, g18, g19, g20, rfl, hI⟩
theorem laws_heldFloat32S_x1_0 (a_a : Option Addr) (a_e : Nat) (a_n : Nat) (k_1 : Int) (t4 : Int) (i : Int) (g6 g7 g8 g9 g10 g11 g12 g13 g14 g15 g16 g17 g18 g19 g20 : Value) (H : AHeap) (K : Value → AHeap → Prop)  {I : Nat → List Value → AHeap → Prop} {μ : Nat} : loopQ I μ (blockQ 0 (seqQ (exK Try.prog E_laws_heldFloat32S (cr (cr (bodyC Try.f16)))) (retK Try.prog Try.f16 K))) (.exit 0) (laws_heldFloat32S_P1 a_a a_e a_n k_1 t4 i g6 g7 g8 g9 g10 g11 g12 g13 g14 g15 g16 g17 g18 g19 g20) H =
  (K (.int .i64 k_1) H) := by kernel_rfl
theorem laws_heldFloat32S_x1_ret (a_a : Option Addr) (a_e : Nat) (a_n : Nat) (k_1 : Int) (t4 : Int) (i : Int) (g6 g7 g8 g9 g10 g11 g12 g13 g14 g15 g16 g17 g18 g19 g20 : Value) (H : AHeap) (K : Value → AHeap → Prop)  {I : Nat → List Value → AHeap → Prop} {μ : Nat} : loopQ I μ (blockQ 0 (seqQ (exK Try.prog E_laws_heldFloat32S (cr (cr (bodyC Try.f16)))) (retK Try.prog Try.f16 K))) .ret (laws_heldFloat32S_P1 a_a a_e a_n k_1 t4 i g6 g7 g8 g9 g10 g11 g12 g13 g14 g15 g16 g17 g18 g19 g20) H =
  (K (.int .i64 t4) H) := by kernel_rfl
theorem E_laws_heldFloat32S_ok : ∀ g, FnOk Try.prog g (E_laws_heldFloat32S g) := FnOk.envOf (by
  intro x hx; cases hx)
set_option maxHeartbeats 1000000 in
theorem laws_heldFloat32S_main (a_a : Option Addr) (a_n : Nat) (a_e : Nat) (k : Int) (H : AHeap) (K : Value → AHeap → Prop) (h : T_laws_heldFloat32S a_a a_n a_e k H fun (r1 : Int) (H' : AHeap) => K (.int .i64 r1) H') : bodyK Try.prog E_laws_heldFloat32S Try.f16 [.slice a_a a_n a_e, .int .i64 k] H K := by
  rw [laws_heldFloat32S_vc]
  obtain ⟨l_a, i_a, bd_9, hk⟩ := h
  obtain rfl := i_a.eqn
  have e : (p_laws_heldFloat32S l_a k) = _ := rfl
  have e := e.trans (p_laws_heldFloat32S_eq l_a k)
  have g0 := Grow.refl H
  refine laws_heldFloat32S_L1 _ _ _ (fun (μ : Nat) (k_1 : Int) (t4 : Int) (i : Int) (H_1 : AHeap) => H = H_1 ∧ (0 : Int) ≤ i ∧ i ≤ (l_a.length : Int) ∧ (l_a.length : Int) - i ≤ (μ : Int) ∧ p_laws_heldFloat32S l_a k = p_laws_heldFloat32S_l1 l_a k (μ + 1) k_1 t4 i) (Int.toNat ((l_a.length : Int) - (0 : Int))) _ _ _ _ _ _ _ _ _ _ _ _ _ _ _ _ _ _ H ?_ ?_
  · exact ⟨rfl, o6, o6, o3, e⟩
  · intro μ k_1 t4 i g6 g7 g8 g9 g10 g11 g12 g13 g14 g15 g16 g17 g18 g19 g20 H_1 hI
    obtain ⟨rfl, v_1, v_2, hμ, e⟩ := hI
    rw [laws_heldFloat32S_r1]
    have e := e.trans (p_laws_heldFloat32S_l1_s l_a k μ k_1 t4 i)
    have l_3 := g0.1
    refine Br.intro (fun c_4 => ?_) (fun c_4 => ?_)
    · have e := e.trans (cond_t c_4)
      have c_4' := of_decide_eq_true c_4
      obtain ⟨b_5, f_6, q_7⟩ := ((i_a.grow g0)).pos o0
      refine ⟨by omega, by omega, b_5, f_6, q_7, ?_⟩
      refine ⟨((l_a).getD (i : Int).toNat 0), (i_a).rd g0 q_7 o3 _, ?_⟩
      refine Br.intro (fun c_8 => ?_) (fun c_8 => ?_)
      · have e := e.trans (cond_t c_8)
        have c_8n := nf_of_t c_8
        rw [laws_heldFloat32S_x1_ret]
        rw [e] at hk
        exact hk
      · have e := e.trans (cond_f c_8)
        have c_8n := nt_of_f c_8
        rw [show IntKind.wrap .i64 (i + 1) = (i + 1) from wrap64 o3 o3]
        refine laws_heldFloat32S_n1 (μ - 1) o11 ⟨rfl, o1, o1, o11, (by rw [show μ - 1 + 1 = μ from by first | omega]; exact e)⟩
    · have e := e.trans (cond_f c_4)
      have c_4' := of_decide_eq_false c_4
      rw [laws_heldFloat32S_x1_0]
      rw [e] at hk
      exact hk
theorem laws_heldFloat32S_ok : FnOk Try.prog 16 S_laws_heldFloat32S := by
  refine FnOk.body mix_ok E_laws_heldFloat32S_ok Try.func16 rfl (by kernel_rfl) (by kernel_rfl) ?_ ?_ ?_ ?_ ?_
  · intro args H K K' h hk
    simp only [S_laws_heldFloat32S] at *
    unfold F_laws_heldFloat32S at *
    split at hk
    · obtain ⟨l_a, i_a, bd_9, k⟩ := hk
      exact ⟨l_a, i_a, bd_9, h _ _ k⟩
    · exact hk.elim
  · intro _ args H K hk
    simp only [S_laws_heldFloat32S] at *
    unfold F_laws_heldFloat32S at *
    split at hk
    · obtain ⟨l_a, i_a, bd_9, k⟩ := hk
      exact ⟨_, k, fun K' k' => ⟨l_a, i_a, bd_9, k'⟩⟩
    · exact hk.elim
  · intro args H K hk
    simp only [S_laws_heldFloat32S] at *
    unfold F_laws_heldFloat32S at *
    split at hk
    · obtain ⟨l_a, i_a, bd_9, k⟩ := hk
      exact ⟨_, _, k⟩
    · exact hk.elim
  · intro hq; cases hq
  · have mm := @laws_heldFloat32S_main
    revert mm
    generalize bodyK Try.prog E_laws_heldFloat32S Try.f16 = Q
    intro mm args H K hk
    simp only [S_laws_heldFloat32S] at *
    unfold F_laws_heldFloat32S at *
    split at hk
    · exact mm _ _ _ _ H K hk
    · exact hk.elim
end Go.Proofs.Ytghkkclonabpkab.Ai
