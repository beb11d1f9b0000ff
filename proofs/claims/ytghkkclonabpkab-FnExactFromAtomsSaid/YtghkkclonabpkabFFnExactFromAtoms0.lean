/- What functions of the program come to on the abstract machine, and that they do so; printed by a program of mine around proofs of mine. -/
import Derived.Test.YtghkkclonabpkabProg
import Derived.Test.YtghkkclonabpkabAp
import Derived.Test.YtghkkclonabpkabOt
import Derived.Test.YtghkkclonabpkabPu
set_option linter.unusedVariables false
set_option linter.unusedSimpArgs false
set_option linter.defProp false
set_option maxRecDepth 100000
namespace Go.Proofs.Ytghkkclonabpkab.Ai
open Go
attribute [local irreducible] bodyK
theorem mix_ok : Try.prog.follows .mixedOrders = true := by kernel_rfl

def p_laws_szAtomS (l_a : List (Int × Nat × Nat)) (left : Int) : Int := (bif decide ((IntKind.wrap .i64 (left - (l_a.length : Int)) : Int) < 0) then ((-1) : Int) else IntKind.wrap .i64 (left - (l_a.length : Int)))
def p_laws_szAtomS_eq := @p_laws_szAtomS.eq_1
def T_laws_szAtomS (a_a : Option Addr) (a_n : Nat) (a_e : Nat) (left : Int) (H : AHeap) (K : Int → AHeap → Prop) : Prop := ∃ (l_a : List (Int × Nat × Nat)), IsT fA H a_a a_n l_a ∧ K (p_laws_szAtomS l_a left) H
theorem T_laws_szAtomS_i {a_a : Option Addr} {a_n : Nat} {a_e : Nat} {left : Int} {H : AHeap} {K : Int → AHeap → Prop} (h : ∃ (l_a : List (Int × Nat × Nat)), IsT fA H a_a a_n l_a ∧ K (p_laws_szAtomS l_a left) H) : T_laws_szAtomS a_a a_n a_e left H K := h
theorem o4 {P : Prop} (h : P := by omega) : P := h
theorem laws_szAtomS_f (l : List (Int × Nat × Nat)) (left : Int) : 0 ≤ left → left ≤ 1048576 → l.length ≤ 9223372036854775807 → p_laws_szAtomS l left < 0 ∨ (l.length : Int) ≤ left ∧ p_laws_szAtomS l left = left - l.length := by
  intro h0 h1 h2
  rw [p_laws_szAtomS_eq, wrap64 o4 o4]
  by_cases h : left - (l.length : Int) < 0
  · rw [decide_eq_true h, cond_true]; left; decide
  · rw [decide_eq_false h, cond_false]; right; omega
/-! laws_szAtomS: function 38 -/
def E_laws_szAtomS : Env := envOf []
def F_laws_szAtomS : List Value → AHeap → (Value → AHeap → Prop) → Prop
  | [.slice a_a a_n a_e, .int .i64 left], H, K => T_laws_szAtomS a_a a_n a_e left H fun (r1 : Int) (H' : AHeap) => K (.int .i64 r1) H'
  | _, _, _ => False
def S_laws_szAtomS : FSpec := { F := F_laws_szAtomS, quiet := true, tame := false }
theorem laws_szAtomS_vc (a_a : Option Addr) (a_n : Nat) (a_e : Nat) (left : Int) (H : AHeap) (K : Value → AHeap → Prop) : bodyK Try.prog E_laws_szAtomS Try.f38 [.slice a_a a_n a_e, .int .i64 left] H K =
  (Br (decide ((IntKind.wrap .i64 (left - (a_n : Int)) : Int) < 0)) (K (.int .i64 (-1)) H) (K (.int .i64 (IntKind.wrap .i64 (left - (a_n : Int)))) H)) := by kernel_rfl
theorem E_laws_szAtomS_ok : ∀ g, FnOk Try.prog g (E_laws_szAtomS g) := FnOk.envOf (by
  intro x hx; cases hx)
set_option maxHeartbeats 1000000 in
theorem laws_szAtomS_main (a_a : Option Addr) (a_n : Nat) (a_e : Nat) (left : Int) (H : AHeap) (K : Value → AHeap → Prop) (h : T_laws_szAtomS a_a a_n a_e left H fun (r1 : Int) (H' : AHeap) => K (.int .i64 r1) H') : bodyK Try.prog E_laws_szAtomS Try.f38 [.slice a_a a_n a_e, .int .i64 left] H K := by
  rw [laws_szAtomS_vc]
  obtain ⟨l_a, i_a, hk⟩ := h
  obtain rfl := i_a.eqn
  have e : (p_laws_szAtomS l_a left) = _ := rfl
  have e := e.trans (p_laws_szAtomS_eq l_a left)
  have g0 := Grow.refl H
  refine Br.intro (fun c_1 => ?_) (fun c_1 => ?_)
  · have e := e.trans (cond_t c_1)
    have c_1' := of_decide_eq_true c_1
    rw [e] at hk
    exact hk
  · have e := e.trans (cond_f c_1)
    have c_1' := of_decide_eq_false c_1
    rw [e] at hk
    exact hk
theorem laws_szAtomS_ok : FnOk Try.prog 38 S_laws_szAtomS := by
  refine FnOk.body mix_ok E_laws_szAtomS_ok Try.func38 rfl (by kernel_rfl) (by kernel_rfl) ?_ ?_ ?_ ?_ ?_
  · intro args H K K' h hk
    simp only [S_laws_szAtomS] at *
    unfold F_laws_szAtomS at *
    split at hk
    · obtain ⟨l_a, i_a, k⟩ := hk
      exact ⟨l_a, i_a, h _ _ k⟩
    · exact hk.elim
  · intro _ args H K hk
    simp only [S_laws_szAtomS] at *
    unfold F_laws_szAtomS at *
    split at hk
    · obtain ⟨l_a, i_a, k⟩ := hk
      exact ⟨_, k, fun K' k' => ⟨l_a, i_a, k'⟩⟩
    · exact hk.elim
  · intro args H K hk
    simp only [S_laws_szAtomS] at *
    unfold F_laws_szAtomS at *
    split at hk
    · obtain ⟨l_a, i_a, k⟩ := hk
      exact ⟨_, _, k⟩
    · exact hk.elim
  · intro hq; cases hq
  · have mm := @laws_szAtomS_main
    revert mm
    generalize bodyK Try.prog E_laws_szAtomS Try.f38 = Q
    intro mm args H K hk
    simp only [S_laws_szAtomS] at *
    unfold F_laws_szAtomS at *
    split at hk
    · exact mm _ _ _ _ H K hk
    · exact hk.elim

def p_laws_toAtom (a_Place : Int) (a_Scale : Nat) (a_Size : Nat) : Int × Nat × Nat := (a_Place, a_Scale, a_Size)
def p_laws_toAtom_eq := @p_laws_toAtom.eq_1
def T_laws_toAtom (a_Place : Int) (a_Scale : Nat) (a_Size : Nat) (H : AHeap) (K : Int → Nat → Nat → AHeap → Prop) : Prop := ((∀ H' : AHeap, Grow H H' → K ((p_laws_toAtom a_Place a_Scale a_Size).1) ((p_laws_toAtom a_Place a_Scale a_Size).2.1) ((p_laws_toAtom a_Place a_Scale a_Size).2.2) H'))
theorem T_laws_toAtom_i {a_Place : Int} {a_Scale : Nat} {a_Size : Nat} {H : AHeap} {K : Int → Nat → Nat → AHeap → Prop} (h : ((∀ H' : AHeap, Grow H H' → K ((p_laws_toAtom a_Place a_Scale a_Size).1) ((p_laws_toAtom a_Place a_Scale a_Size).2.1) ((p_laws_toAtom a_Place a_Scale a_Size).2.2) H'))) : T_laws_toAtom a_Place a_Scale a_Size H K := h

/-! laws_toAtom: function 12 -/
def E_laws_toAtom : Env := envOf []
def F_laws_toAtom : List Value → AHeap → (Value → AHeap → Prop) → Prop
  | [.agg ⟨[.int .i64 a_Place, .float .f32 a_Scale, .float .f32 a_Size]⟩], H, K => T_laws_toAtom a_Place a_Scale a_Size H fun (r1_Place : Int) (r1_Scale : Nat) (r1_Size : Nat) (H' : AHeap) => K (.agg #[.int .i64 r1_Place, .float .f32 r1_Scale, .float .f32 r1_Size]) H'
  | _, _, _ => False
def S_laws_toAtom : FSpec := { F := F_laws_toAtom, quiet := false, tame := true }
theorem laws_toAtom_vc (a_Place : Int) (a_Scale : Nat) (a_Size : Nat) (H : AHeap) (K : Value → AHeap → Prop) : bodyK Try.prog E_laws_toAtom Try.f12 [.agg #[.int .i64 a_Place, .float .f32 a_Scale, .float .f32 a_Size]] H K =
  (Al [.int .i64 a_Place, .float .f32 a_Scale, .float .f32 a_Size] H fun b1 H1 => Al [.int .i64 0, .float .f32 0, .float .f32 0] H1 fun b2 H2 => Al [.int .i64 0, .float .f32 0, .float .f32 0] H2 fun b3 H3 => ∃ x1 : Int,  rdC H3 b1 0 = some (.int .i64 x1) ∧ isOwn H3 b3 ∧ (∃ l, rdN H3 b3 0 1 = some l) ∧ Lt (setC H3 b3 0 (.int .i64 x1)) fun H4 => ∃ x2 : Nat,  rdC H4 b1 1 = some (.float .f32 x2) ∧ isOwn H4 b3 ∧ (∃ l, rdN H4 b3 1 1 = some l) ∧ Lt (setC H4 b3 1 (.float .f32 x2)) fun H5 => ∃ x3 : Nat,  rdC H5 b1 2 = some (.float .f32 x3) ∧ isOwn H5 b3 ∧ (∃ l, rdN H5 b3 2 1 = some l) ∧ Lt (setC H5 b3 2 (.float .f32 x3)) fun H6 => ∃ c1 : Int, ∃ c2 : Nat, ∃ c3 : Nat,  rdN H6 b3 0 3 = some [.int .i64 c1, .float .f32 c2, .float .f32 c3] ∧ isOwn H6 b2 ∧ (∃ l, rdN H6 b2 0 3 = some l) ∧ Lt (setN H6 b2 0 [.int .i64 c1, .float .f32 c2, .float .f32 c3]) fun H7 => ∃ c4 : Int, ∃ c5 : Nat, ∃ c6 : Nat,  rdN H7 b2 0 3 = some [.int .i64 c4, .float .f32 c5, .float .f32 c6] ∧ K (.agg #[.int .i64 c4, .float .f32 c5, .float .f32 c6]) H7) := by kernel_rfl
theorem E_laws_toAtom_ok : ∀ g, FnOk Try.prog g (E_laws_toAtom g) := FnOk.envOf (by
  intro x hx; cases hx)
set_option maxHeartbeats 1000000 in
theorem laws_toAtom_main (a_Place : Int) (a_Scale : Nat) (a_Size : Nat) (H : AHeap) (K : Value → AHeap → Prop) (h : T_laws_toAtom a_Place a_Scale a_Size H fun (r1_Place : Int) (r1_Scale : Nat) (r1_Size : Nat) (H' : AHeap) => K (.agg #[.int .i64 r1_Place, .float .f32 r1_Scale, .float .f32 r1_Size]) H') : bodyK Try.prog E_laws_toAtom Try.f12 [.agg #[.int .i64 a_Place, .float .f32 a_Scale, .float .f32 a_Size]] H K := by
  rw [laws_toAtom_vc]
  have hk := h
  unfold T_laws_toAtom at hk
  have e : (p_laws_toAtom a_Place a_Scale a_Size) = _ := rfl
  have e := e.trans (p_laws_toAtom_eq a_Place a_Scale a_Size)
  have g0 := Grow.refl H
  refine Al.intro (fun b_1 H_1 hb_2 hl_3 g_4 o_5 => ?_)
  have l_7 := g_4.1
  have g_8 := g0.trans g_4
  have l_9 := g_8.1
  have w_80 := o_5.lt
  refine Al.intro (fun b_10 H_2 hb_11 hl_12 g_13 o_14 => ?_)
  have l_16 := g_13.1
  have g_17 := g_8.trans g_13
  have l_18 := g_17.1
  have o_19 := o_5.grow g_13
  have w_20 := o_19.lt
  have w_79 := o_14.lt
  refine Al.intro (fun b_21 H_3 hb_22 hl_23 g_24 o_25 => ?_)
  have l_27 := g_24.1
  have g_28 := g_17.trans g_24
  have l_29 := g_28.1
  have o_30 := o_19.grow g_24
  have w_31 := o_30.lt
  have o_32 := o_14.grow g_24
  have w_33 := o_32.lt
  have w_78 := o_25.lt
  refine ⟨a_Place, (o_30.rdC _).trans rfl, ?_⟩
  refine Lt.set o_25 (Nat.le_of_ble_eq_true rfl) (fun H_4 hl_34 o_36 k_35 => ?_)
  have o_36 : Own H_4 b_21 [.int .i64 a_Place, .float .f32 0, .float .f32 0] := o_36
  have l_37 := k_35.1
  have g_38 := g_28.keep (b := b_21) o4 k_35
  have l_39 := g_38.1
  have o_40 := o_30.keep o4 k_35
  have w_41 := o_40.lt
  have o_42 := o_32.keep o4 k_35
  have w_43 := o_42.lt
  have w_77 := o_36.lt
  refine ⟨a_Scale, (o_40.rdC _).trans rfl, ?_⟩
  refine Lt.set o_36 (Nat.le_of_ble_eq_true rfl) (fun H_5 hl_44 o_46 k_45 => ?_)
  have o_46 : Own H_5 b_21 [.int .i64 a_Place, .float .f32 a_Scale, .float .f32 0] := o_46
  have l_47 := k_45.1
  have g_48 := g_38.keep (b := b_21) o4 k_45
  have l_49 := g_48.1
  have o_50 := o_40.keep o4 k_45
  have w_51 := o_50.lt
  have o_52 := o_42.keep o4 k_45
  have w_53 := o_52.lt
  have w_76 := o_46.lt
  refine ⟨a_Size, (o_50.rdC _).trans rfl, ?_⟩
  refine Lt.set o_46 (Nat.le_of_ble_eq_true rfl) (fun H_6 hl_54 o_56 k_55 => ?_)
  have o_56 : Own H_6 b_21 [.int .i64 a_Place, .float .f32 a_Scale, .float .f32 a_Size] := o_56
  have l_57 := k_55.1
  have g_58 := g_48.keep (b := b_21) o4 k_55
  have l_59 := g_58.1
  have o_60 := o_50.keep o4 k_55
  have w_61 := o_60.lt
  have o_62 := o_52.keep o4 k_55
  have w_63 := o_62.lt
  have w_75 := o_56.lt
  refine ⟨a_Place, a_Scale, a_Size, (o_56.rdN (Nat.le_of_ble_eq_true rfl)).trans rfl, ?_⟩
  refine Lt.setN (n := 3) o_62 (Nat.le_of_ble_eq_true rfl) rfl (fun H_7 hl_64 o_66 k_65 => ?_)
  have o_66 : Own H_7 b_10 [.int .i64 a_Place, .float .f32 a_Scale, .float .f32 a_Size] := o_66
  have l_67 := k_65.1
  have g_68 := g_58.keep (b := b_10) o4 k_65
  have l_69 := g_68.1
  have o_70 := o_60.keep o4 k_65
  have w_71 := o_70.lt
  have o_72 := o_56.keep o4 k_65
  have w_73 := o_72.lt
  have w_74 := o_66.lt
  refine ⟨a_Place, a_Scale, a_Size, (o_66.rdN (Nat.le_of_ble_eq_true rfl)).trans rfl, ?_⟩
  rw [e] at hk
  exact hk  H_7 g_68 
theorem laws_toAtom_ok : FnOk Try.prog 12 S_laws_toAtom := by
  refine FnOk.body mix_ok E_laws_toAtom_ok Try.func12 rfl (by kernel_rfl) (by kernel_rfl) ?_ ?_ ?_ ?_ ?_
  · intro args H K K' h hk
    simp only [S_laws_toAtom] at *
    unfold F_laws_toAtom at *
    split at hk
    · have k := hk
      exact fun  H' gg  => h _ _ (k  H' gg )
    · exact hk.elim
  · intro hq; cases hq
  · intro args H K hk
    simp only [S_laws_toAtom] at *
    unfold F_laws_toAtom at *
    split at hk
    · have k := hk
      exact ⟨_, _, k H (Grow.refl H)⟩
    · exact hk.elim
  · intro _ args H K hk
    simp only [S_laws_toAtom] at *
    unfold F_laws_toAtom at *
    split at hk
    · have k := hk
      exact fun  H' gg  => ⟨gg, k  H' gg ⟩
    · exact hk.elim
  · have mm := @laws_toAtom_main
    revert mm
    generalize bodyK Try.prog E_laws_toAtom Try.f12 = Q
    intro mm args H K hk
    simp only [S_laws_toAtom] at *
    unfold F_laws_toAtom at *
    split at hk
    · exact mm _ _ _ H K hk
    · exact hk.elim

def p_laws_toAtomS_l1 (l_a : List (Int × Nat × Nat)) : Nat → Int → (List (Int × Nat × Nat)) → (List (Int × Nat × Nat))
  | 0, _, _ => []
  | μ + 1, i, y1_1 => (bif decide ((i : Int) < (l_a.length : Int)) then (p_laws_toAtomS_l1 l_a μ (i + 1) (((y1_1).set (i : Int).toNat (((p_laws_toAtom ((((l_a).getD (i : Int).toNat (0, 0, 0))).1) ((((l_a).getD (i : Int).toNat (0, 0, 0))).2.1) ((((l_a).getD (i : Int).toNat (0, 0, 0))).2.2)).1 : Int), ((p_laws_toAtom ((((l_a).getD (i : Int).toNat (0, 0, 0))).1) ((((l_a).getD (i : Int).toNat (0, 0, 0))).2.1) ((((l_a).getD (i : Int).toNat (0, 0, 0))).2.2)).2.1), ((p_laws_toAtom ((((l_a).getD (i : Int).toNat (0, 0, 0))).1) ((((l_a).getD (i : Int).toNat (0, 0, 0))).2.1) ((((l_a).getD (i : Int).toNat (0, 0, 0))).2.2)).2.2))))) else y1_1)
def p_laws_toAtomS_l1_s := fun l_a μ i y1_1 => @p_laws_toAtomS_l1.eq_2 l_a i y1_1 μ
def p_laws_toAtomS (l_a : List (Int × Nat × Nat)) : (List (Int × Nat × Nat)) := (p_laws_toAtomS_l1 l_a (Int.toNat ((l_a.length : Int) - (0 : Int)) + 1) (0 : Int) (List.replicate (((l_a.length : Int)).toNat) (0, 0, 0)))
def p_laws_toAtomS_eq := @p_laws_toAtomS.eq_1
def T_laws_toAtomS (a_a : Option Addr) (a_n : Nat) (a_e : Nat) (H : AHeap) (K : (Option Addr) → Nat → Nat → AHeap → Prop) : Prop := ∃ (l_a : List (Int × Nat × Nat)), IsT fA H a_a a_n l_a ∧ l_a.length < 1073741824 ∧ ((∀ (r1_a : Option Addr) (r1_n r1_e : Nat), ∀ H' : AHeap, Grow H H' → OwnT fA H' H.length r1_a r1_n r1_e l_a → K r1_a r1_n r1_e H'))
theorem T_laws_toAtomS_i {a_a : Option Addr} {a_n : Nat} {a_e : Nat} {H : AHeap} {K : (Option Addr) → Nat → Nat → AHeap → Prop} (h : ∃ (l_a : List (Int × Nat × Nat)), IsT fA H a_a a_n l_a ∧ l_a.length < 1073741824 ∧ ((∀ (r1_a : Option Addr) (r1_n r1_e : Nat), ∀ H' : AHeap, Grow H H' → OwnT fA H' H.length r1_a r1_n r1_e l_a → K r1_a r1_n r1_e H'))) : T_laws_toAtomS a_a a_n a_e H K := h
theorem laws_toAtomS_go (l : List (Int × Nat × Nat)) : ∀ (μ : Nat) (i : Nat) (ys : List (Int × Nat × Nat)), ys.length = l.length → i ≤ l.length → l.length - i < μ →
    p_laws_toAtomS_l1 l μ (i : Int) (l.take i ++ ys.drop i) = l := by
  intro μ
  induction μ with
  | zero => intro i ys _ _ h; omega
  | succ μ ih =>
    intro i ys hy hi hm
    rw [p_laws_toAtomS_l1_s]
    by_cases h : i < l.length
    · rw [decide_eq_true (show (i : Int) < (l.length : Int) by omega), cond_true]
      have hx : l[i]? = some (l.getD i (0, 0, 0)) := by rw [List.getD_eq_getElem?_getD, List.getElem?_eq_getElem h]; rfl
      rw [Int.toNat_natCast]
      have e : ∀ y : Int × Nat × Nat, (((p_laws_toAtom y.1 y.2.1 y.2.2).1 : Int), (p_laws_toAtom y.1 y.2.1 y.2.2).2.1, (p_laws_toAtom y.1 y.2.1 y.2.2).2.2) = y := fun y => rfl
      rw [e, set_front l ys i o4 hy.symm _ hx]
      exact ih (i + 1) ys hy o4 o4
    · rw [decide_eq_false (show ¬ (i : Int) < (l.length : Int) by omega), cond_false]
      rw [List.take_of_length_le o4, List.drop_eq_nil_of_le o4, List.append_nil]
theorem laws_toAtomS_id (l : List (Int × Nat × Nat)) : p_laws_toAtomS l = l := by
  rw [p_laws_toAtomS_eq]
  have := laws_toAtomS_go l (Int.toNat ((l.length : Int) - 0) + 1) 0 (List.replicate ((l.length : Int)).toNat (0, 0, 0)) (by simp) o4 o4
  simpa using this
/-! laws_toAtomS: function 40 -/
def E_laws_toAtomS : Env := envOf [(12, S_laws_toAtom)]
def F_laws_toAtomS : List Value → AHeap → (Value → AHeap → Prop) → Prop
  | [.slice a_a a_n a_e], H, K => T_laws_toAtomS a_a a_n a_e H fun (r1_a : Option Addr) (r1_n : Nat) (r1_e : Nat) (H' : AHeap) => K (.slice r1_a r1_n r1_e) H'
  | _, _, _ => False
def S_laws_toAtomS : FSpec := { F := F_laws_toAtomS, quiet := false, tame := true }
theorem laws_toAtomS_vc (a_a : Option Addr) (a_n : Nat) (a_e : Nat) (H : AHeap) (K : Value → AHeap → Prop) : bodyK Try.prog E_laws_toAtomS Try.f40 [.slice a_a a_n a_e] H K =
  ((0 : Int) ≤ (a_n : Int) ∧ (a_n : Int) = (a_n : Int) ∧ (a_n : Int) < (most : Int) ∧ Al (zerosOf (.agg #[.int .i64 0, .float .f32 0, .float .f32 0]) ((a_n : Int)).toNat) H fun b1 H1 => loopK (exK Try.prog E_laws_toAtomS (cl (cl (cr (cl (cr (cr (bodyC Try.f40)))))))) [.slice a_a a_n a_e, undef, .slice none 0 0, .slice (some ⟨b1, 0, none⟩) (((a_n : Int)).toNat) 3, .int .i64 0, .slice a_a a_n a_e, .int .i64 (a_n : Int), .slice (some ⟨b1, 0, none⟩) (((a_n : Int)).toNat) 3, undef, undef, undef, undef, undef, undef, undef, undef, undef, undef, undef, undef, undef, undef, undef] H1 (blockQ 0 (seqQ (exK Try.prog E_laws_toAtomS (cr (cr (cr (bodyC Try.f40))))) (retK Try.prog Try.f40 K)))) := by kernel_rfl
abbrev laws_toAtomS_P1 (a_a : Option Addr) (a_e : Nat) (a_n : Nat) (b1 : Nat) (i : Int) (g8 g9 g10 g11 g12 g13 g14 g15 g16 g17 g18 g19 g20 g21 : Value) : List Value := [.slice a_a a_n a_e, undef, .slice none 0 0, .slice (some ⟨b1, 0, none⟩) (((a_n : Int)).toNat) 3, .int .i64 i, .slice a_a a_n a_e, .int .i64 (a_n : Int), .slice (some ⟨b1, 0, none⟩) (((a_n : Int)).toNat) 3, g8, g9, g10, g11, g12, g13, g14, g15, g16, g17, g18, g19, g20, g21, undef]
theorem laws_toAtomS_r1 (a_a : Option Addr) (a_e : Nat) (a_n : Nat) (b1 : Nat) (i : Int) (g8 g9 g10 g11 g12 g13 g14 g15 g16 g17 g18 g19 g20 g21 : Value) (H : AHeap) (R : Post) : exK Try.prog E_laws_toAtomS (cl (cl (cr (cl (cr (cr (bodyC Try.f40))))))) (laws_toAtomS_P1 a_a a_e a_n b1 i g8 g9 g10 g11 g12 g13 g14 g15 g16 g17 g18 g19 g20 g21) H R =
  (Br (decide ((i : Int) < (a_n : Int))) ((0 : Int) ≤ i ∧ i < (a_n : Int) ∧ ∃ b2 f1, (a_a : Option Addr) = some ⟨b2, f1, none⟩ ∧ ∃ c1 : Int, ∃ c2 : Nat, ∃ c3 : Nat,  rdN H b2 (f1 + (i : Int).toNat * 3) 3 = some [.int .i64 c1, .float .f32 c2, .float .f32 c3] ∧ T_laws_toAtom c1 c2 c3 H fun (r1 : Int) (r2 : Nat) (r3 : Nat) (H2 : AHeap) => (0 : Int) ≤ i ∧ i < (((a_n : Int)).toNat : Int) ∧ ∃ b3 f2, (some ⟨b1, 0, none⟩ : Option Addr) = some ⟨b3, f2, none⟩ ∧ isOwn H2 b3 ∧ (∃ l, rdN H2 b3 (f2 + (i : Int).toNat * 3) 3 = some l) ∧ Lt (setN H2 b3 (f2 + (i : Int).toNat * 3) [.int .i64 r1, .float .f32 r2, .float .f32 r3]) fun H3 => R .normal [.slice a_a a_n a_e, undef, .slice none 0 0, .slice (some ⟨b1, 0, none⟩) (((a_n : Int)).toNat) 3, .int .i64 (IntKind.wrap .i64 (i + 1)), .slice a_a a_n a_e, .int .i64 (a_n : Int), .slice (some ⟨b1, 0, none⟩) (((a_n : Int)).toNat) 3, .int .i64 i, .slice a_a a_n a_e, .int .i64 (a_n : Int), .bool (decide ((i : Int) < (a_n : Int))), .int .i64 i, .int .i64 (IntKind.wrap .i64 (i + 1)), .slice (some ⟨b1, 0, none⟩) (((a_n : Int)).toNat) 3, .int .i64 i, .slice a_a a_n a_e, .int .i64 i, .pointer (some ⟨b2, f1 + (i : Int).toNat * 3, none⟩), .agg #[.int .i64 c1, .float .f32 c2, .float .f32 c3], .agg #[.int .i64 r1, .float .f32 r2, .float .f32 r3], .pointer (some ⟨b3, f2 + (i : Int).toNat * 3, none⟩), undef] H3) (R (.exit 0) [.slice a_a a_n a_e, undef, .slice none 0 0, .slice (some ⟨b1, 0, none⟩) (((a_n : Int)).toNat) 3, .int .i64 i, .slice a_a a_n a_e, .int .i64 (a_n : Int), .slice (some ⟨b1, 0, none⟩) (((a_n : Int)).toNat) 3, .int .i64 i, .slice a_a a_n a_e, .int .i64 (a_n : Int), .bool (decide ((i : Int) < (a_n : Int))), g12, g13, g14, g15, g16, g17, g18, g19, g20, g21, undef] H)) := by kernel_rfl
def laws_toAtomS_I1 (a_a : Option Addr) (a_e : Nat) (a_n : Nat) (b1 : Nat) (Inv : Nat → Int → AHeap → Prop) : Nat → List Value → AHeap → Prop := fun μ tm H => ∃ (i : Int), ∃ g8 g9 g10 g11 g12 g13 g14 g15 g16 g17 g18 g19 g20 g21, tm = (laws_toAtomS_P1 a_a a_e a_n b1 i g8 g9 g10 g11 g12 g13 g14 g15 g16 g17 g18 g19 g20 g21) ∧ Inv μ i H
theorem laws_toAtomS_L1 (a_a : Option Addr) (a_e : Nat) (a_n : Nat) (b1 : Nat) {Q : Post} (Inv : Nat → Int → AHeap → Prop) (ν : Nat) (i : Int) (g8 g9 g10 g11 g12 g13 g14 g15 g16 g17 g18 g19 g20 g21 : Value) (H : AHeap) (h0 : Inv ν i H)
    (hs : ∀ (μ : Nat) (i : Int) (g8 g9 g10 g11 g12 g13 g14 g15 g16 g17 g18 g19 g20 g21 : Value) (H : AHeap), Inv μ i H → exK Try.prog E_laws_toAtomS (cl (cl (cr (cl (cr (cr (bodyC Try.f40))))))) (laws_toAtomS_P1 a_a a_e a_n b1 i g8 g9 g10 g11 g12 g13 g14 g15 g16 g17 g18 g19 g20 g21) H (loopQ (laws_toAtomS_I1 a_a a_e a_n b1 Inv) μ Q)) : loopK (exK Try.prog E_laws_toAtomS (cl (cl (cr (cl (cr (cr (bodyC Try.f40)))))))) (laws_toAtomS_P1 a_a a_e a_n b1 i g8 g9 g10 g11 g12 g13 g14 g15 g16 g17 g18 g19 g20 g21) H Q :=
  ⟨laws_toAtomS_I1 a_a a_e a_n b1 Inv, ν, ⟨i, g8, g9, g10, g11, g12, g13, g14, g15, g16, g17, g18, g19, g20, g21, rfl, h0⟩, fun μ tm H h => by obtain ⟨i, g8, g9, g10, g11, g12, g13, g14, g15, g16, g17, g18, g19, g20, g21, rfl, hI⟩ := h; exact hs μ i g8 g9 g10 g11 g12 g13 g14 g15 g16 g17 g18 g19 g20 g21 H hI⟩
theorem laws_toAtomS_n1 {a_a : Option Addr} {a_e : Nat} {a_n : Nat} {b1 : Nat} {Q : Post} {Inv : Nat → Int → AHeap → Prop} {μ : Nat} (μ' : Nat) {i : Int} {g8 g9 g10 g11 g12 g13 g14 g15 g16 g17 g18 g19 g20 g21 : Value} {H : AHeap} (hm : μ' < μ) (hI : Inv μ' i H) : loopQ (laws_toAtomS_I1 a_a a_e a_n b1 Inv) μ Q .normal (laws_toAtomS_P1 a_a a_e a_n b1 i g8 g9 g10 g11 g12 g13 g14 g15 g16 g17 g18 g19 g20 g21) H := ⟨μ', hm, i, g8, g9, g10, g11, g12, g13, g14, g15, g16, g17, g18, g19, g20, g21, rfl, hI⟩
theorem laws_toAtomS_x1_0 (a_a : Option Addr) (a_e : Nat) (a_n : Nat) (b1 : Nat) (i : Int) (g8 g9 g10 g11 g12 g13 g14 g15 g16 g17 g18 g19 g20 g21 : Value) (H : AHeap) (K : Value → AHeap → Prop)  {I : Nat → List Value → AHeap → Prop} {μ : Nat} : loopQ I μ (blockQ 0 (seqQ (exK Try.prog E_laws_toAtomS (cr (cr (cr (bodyC Try.f40))))) (retK Try.prog Try.f40 K))) (.exit 0) (laws_toAtomS_P1 a_a a_e a_n b1 i g8 g9 g10 g11 g12 g13 g14 g15 g16 g17 g18 g19 g20 g21) H =
  (K (.slice (some ⟨b1, 0, none⟩) (((a_n : Int)).toNat) 3) H) := by kernel_rfl
theorem E_laws_toAtomS_ok : ∀ g, FnOk Try.prog g (E_laws_toAtomS g) := FnOk.envOf (by
  intro x hx
  simp only [List.mem_cons, List.not_mem_nil, or_false] at hx
  subst hx; exact laws_toAtom_ok)
theorem o24 {P : Prop} (h : P := by have := most_eq; omega) : P := h
theorem o20 {P : Prop} (h : P := by first | rfl | assumption | omega | (simp; done)) : P := h
theorem o5 {P : Prop} (h : P := by first | omega | (simp; done) | (simp; omega)) : P := h
theorem o0 {P : Prop} (h : P := by first | omega | (simp only [List.length_set, List.length_replicate, List.length_append, List.length_cons, List.length_nil, List.length_take, List.length_drop, marks_length]; done) | (simp only [List.length_set, List.length_replicate, List.length_append, List.length_cons, List.length_nil, List.length_take, List.length_drop, marks_length]; omega)) : P := h
theorem o12 {P : Prop} (h : P := by first | omega) : P := h
theorem o13 {P : Prop} (h : P := by first | assumption | omega | (simp only [List.length_set]; first | rfl | assumption | omega)) : P := h
theorem o1 {P : Prop} (h : P := by first | omega | (simp only [List.length_append, List.length_cons, List.length_nil, List.length_set]; done) | (simp only [List.length_append, List.length_cons, List.length_nil, List.length_set]; omega)) : P := h
theorem o19 {P : Prop} (h : P := by first | (simp only [List.length_replicate]; done) | omega | (simp; omega)) : P := h
set_option maxHeartbeats 1000000 in
theorem laws_toAtomS_main (a_a : Option Addr) (a_n : Nat) (a_e : Nat) (H : AHeap) (K : Value → AHeap → Prop) (h : T_laws_toAtomS a_a a_n a_e H fun (r1_a : Option Addr) (r1_n : Nat) (r1_e : Nat) (H' : AHeap) => K (.slice r1_a r1_n r1_e) H') : bodyK Try.prog E_laws_toAtomS Try.f40 [.slice a_a a_n a_e] H K := by
  rw [laws_toAtomS_vc]
  obtain ⟨l_a, i_a, bd_35, hk⟩ := h
  have hk : (∀ (r1_a : Option Addr) (r1_n r1_e : Nat), ∀ H' : AHeap, Grow H H' → OwnT fA H' H.length r1_a r1_n r1_e (p_laws_toAtomS l_a) → (fun (r1_a : Option Addr) (r1_n : Nat) (r1_e : Nat) (H' : AHeap) => K (.slice r1_a r1_n r1_e) H') r1_a r1_n r1_e H') := by rw [laws_toAtomS_id l_a]; exact hk
  obtain rfl := i_a.eqn
  have e : (p_laws_toAtomS l_a) = _ := rfl
  have e := e.trans (p_laws_toAtomS_eq l_a)
  have g0 := Grow.refl H
  refine ⟨by omega, rfl, o24, ?_⟩
  refine Al.intro (fun b_1 H_1 hb_2 hl_3 g_4 o_5 => ?_)
  rw [zeros_flat fA (0, 0, 0) _ _ rfl] at o_5
  have l_7 := g_4.1
  have g_8 := g0.trans g_4
  have l_9 := g_8.1
  have w_34 := o_5.lt
  refine laws_toAtomS_L1 _ _ _ _ (fun (μ : Nat) (i : Int) (H_2 : AHeap) => ∃ (y1_1 : List (Int × Nat × Nat)), Own H_2 b_1 (y1_1.flatMap fA) ∧ y1_1.length = ((l_a.length : Int)).toNat ∧ Grow H H_2 ∧ (0 : Int) ≤ i ∧ i ≤ (l_a.length : Int) ∧ (l_a.length : Int) - i ≤ (μ : Int) ∧ p_laws_toAtomS l_a = p_laws_toAtomS_l1 l_a (μ + 1) i y1_1) (Int.toNat ((l_a.length : Int) - (0 : Int))) _ _ _ _ _ _ _ _ _ _ _ _ _ _ _ H_1 ?_ ?_
  · exact ⟨_, o_5, o20, g_8, o5, o5, o4, e⟩
  · intro μ i g8 g9 g10 g11 g12 g13 g14 g15 g16 g17 g18 g19 g20 g21 H_2 hI
    obtain ⟨y1_1, o_10, y_11, g_12, v_13, v_14, hμ, e⟩ := hI
    rw [laws_toAtomS_r1]
    have e := e.trans (p_laws_toAtomS_l1_s l_a μ i y1_1)
    have w_15 := o_10.lt
    have l_16 := g_12.1
    refine Br.intro (fun c_17 => ?_) (fun c_17 => ?_)
    · have e := e.trans (cond_t c_17)
      have c_17' := of_decide_eq_true c_17
      obtain ⟨b_18, f_19, q_20⟩ := ((i_a.grow g_12)).pos o0
      refine ⟨by omega, by omega, b_18, f_19, q_20, ?_⟩
      refine ⟨(((l_a).getD (i : Int).toNat (0, 0, 0))).1, (((l_a).getD (i : Int).toNat (0, 0, 0))).2.1, (((l_a).getD (i : Int).toNat (0, 0, 0))).2.2, (i_a).rdN g_12 q_20 o4 _, ?_⟩
      refine T_laws_toAtom_i (fun  H_3 g_21  => ?_)
      have l_22 := g_21.1
      have g_23 := g_12.trans g_21
      have l_24 := g_23.1
      have o_25 := o_10.grow g_21
      have w_26 := o_25.lt
      refine ⟨by omega, o4, _, _, rfl, ?_⟩
      refine Lt.setW (x := (((p_laws_toAtom ((((l_a).getD (i : Int).toNat (0, 0, 0))).1) ((((l_a).getD (i : Int).toNat (0, 0, 0))).2.1) ((((l_a).getD (i : Int).toNat (0, 0, 0))).2.2)).1 : Int), ((p_laws_toAtom ((((l_a).getD (i : Int).toNat (0, 0, 0))).1) ((((l_a).getD (i : Int).toNat (0, 0, 0))).2.1) ((((l_a).getD (i : Int).toNat (0, 0, 0))).2.2)).2.1), ((p_laws_toAtom ((((l_a).getD (i : Int).toNat (0, 0, 0))).1) ((((l_a).getD (i : Int).toNat (0, 0, 0))).2.1) ((((l_a).getD (i : Int).toNat (0, 0, 0))).2.2)).2.2))) o_25 o0 rfl (fun H_4 hl_27 o_29 k_28 => ?_)
      have l_30 := k_28.1
      have g_31 := g_23.keep (b := b_1) o4 k_28
      have l_32 := g_31.1
      have w_33 := o_29.lt
      rw [show IntKind.wrap .i64 (i + 1) = (i + 1) from wrap64 o4 o4]
      refine laws_toAtomS_n1 (μ - 1) o12 ⟨_, o_29, o13, g_31, o1, o1, o12, (by rw [show μ - 1 + 1 = μ from by first | omega]; exact e)⟩
    · have e := e.trans (cond_f c_17)
      have c_17' := of_decide_eq_false c_17
      rw [laws_toAtomS_x1_0]
      rw [e] at hk
      exact hk _ _ _ H_2 g_12 (o_10.ownT o19 o4)
theorem laws_toAtomS_ok : FnOk Try.prog 40 S_laws_toAtomS := by
  refine FnOk.body mix_ok E_laws_toAtomS_ok Try.func40 rfl (by kernel_rfl) (by kernel_rfl) ?_ ?_ ?_ ?_ ?_
  · intro args H K K' h hk
    simp only [S_laws_toAtomS] at *
    unfold F_laws_toAtomS at *
    split at hk
    · obtain ⟨l_a, i_a, bd_35, k⟩ := hk
      exact ⟨l_a, i_a, bd_35, (fun r1_a r1_n r1_e H' gg ow0 => h _ _ (k r1_a r1_n r1_e H' gg ow0))⟩
    · exact hk.elim
  · intro hq; cases hq
  · intro args H K hk
    simp only [S_laws_toAtomS] at *
    unfold F_laws_toAtomS at *
    split at hk
    · obtain ⟨l_a, i_a, bd_35, k⟩ := hk
      exact liveT fun a n e H1 g o => ⟨_, _, k a n e H1 g o⟩
    · exact hk.elim
  · intro _ args H K hk
    simp only [S_laws_toAtomS] at *
    unfold F_laws_toAtomS at *
    split at hk
    · obtain ⟨l_a, i_a, bd_35, k⟩ := hk
      exact ⟨l_a, i_a, bd_35, (fun r1_a r1_n r1_e H' gg ow0 => ⟨gg, k r1_a r1_n r1_e H' gg ow0⟩)⟩
    · exact hk.elim
  · have mm := @laws_toAtomS_main
    revert mm
    generalize bodyK Try.prog E_laws_toAtomS Try.f40 = Q
    intro mm args H K hk
    simp only [S_laws_toAtomS] at *
    unfold F_laws_toAtomS at *
    split at hk
    · exact mm _ _ _ H K hk
    · exact hk.elim
def p_spec_l00In (n : Int) (low : Int) (high : Int) : Bool := (bif decide ((low : Int) ≤ n) then decide ((n : Int) ≤ high) else false)
def p_spec_l00In_eq := @p_spec_l00In.eq_1
def T_spec_l00In (n : Int) (low : Int) (high : Int) (H : AHeap) (K : Bool → AHeap → Prop) : Prop := K (p_spec_l00In n low high) H
theorem spec_l00In_t {n a b : Int} (h : p_spec_l00In n a b = true) : a ≤ n ∧ n ≤ b := by
  unfold p_spec_l00In at h
  by_cases h1 : a ≤ n
  · rw [decide_eq_true h1, cond_true] at h; exact ⟨h1, of_decide_eq_true h⟩
  · rw [decide_eq_false h1] at h; cases h
theorem T_spec_l00In_i {n : Int} {low : Int} {high : Int} {H : AHeap} {K : Bool → AHeap → Prop} (h : K (p_spec_l00In n low high) H) : T_spec_l00In n low high H K := h
/-! spec_l00In: function 50 -/
def E_spec_l00In : Env := envOf []
def F_spec_l00In : List Value → AHeap → (Value → AHeap → Prop) → Prop
  | [.int .i64 n, .int .i64 low, .int .i64 high], H, K => T_spec_l00In n low high H fun (r1 : Bool) (H' : AHeap) => K (.bool r1) H'
  | _, _, _ => False
def S_spec_l00In : FSpec := { F := F_spec_l00In, quiet := true, tame := false }
theorem spec_l00In_vc (n : Int) (low : Int) (high : Int) (H : AHeap) (K : Value → AHeap → Prop) : bodyK Try.prog E_spec_l00In Try.f50 [.int .i64 n, .int .i64 low, .int .i64 high] H K =
  (Br (decide ((low : Int) ≤ n)) (K (.bool (decide ((n : Int) ≤ high))) H) (K (.bool false) H)) := by kernel_rfl
theorem E_spec_l00In_ok : ∀ g, FnOk Try.prog g (E_spec_l00In g) := FnOk.envOf (by
  intro x hx; cases hx)
set_option maxHeartbeats 1000000 in
theorem spec_l00In_main (n : Int) (low : Int) (high : Int) (H : AHeap) (K : Value → AHeap → Prop) (h : T_spec_l00In n low high H fun (r1 : Bool) (H' : AHeap) => K (.bool r1) H') : bodyK Try.prog E_spec_l00In Try.f50 [.int .i64 n, .int .i64 low, .int .i64 high] H K := by
  rw [spec_l00In_vc]
  unfold T_spec_l00In p_spec_l00In at h
  repeat' (first | exact h | (exfalso; simp_all; done) | (refine ⟨by decide, ?_⟩) | (refine Br.intro (fun hb => ?_) (fun hb => ?_) <;> (try simp only [hb, cond_true, cond_false, Bool.not_true, Bool.not_false] at h)))
theorem spec_l00In_ok : FnOk Try.prog 50 S_spec_l00In := by
  refine FnOk.body mix_ok E_spec_l00In_ok Try.func50 rfl (by kernel_rfl) (by kernel_rfl) ?_ ?_ ?_ ?_ ?_
  · intro args H K K' h hk
    simp only [S_spec_l00In] at *
    unfold F_spec_l00In at *
    split at hk
    · have k := hk
      exact h _ _ k
    · exact hk.elim
  · intro _ args H K hk
    simp only [S_spec_l00In] at *
    unfold F_spec_l00In at *
    split at hk
    · have k := hk
      exact ⟨_, k, fun K' k' => k'⟩
    · exact hk.elim
  · intro args H K hk
    simp only [S_spec_l00In] at *
    unfold F_spec_l00In at *
    split at hk
    · have k := hk
      exact ⟨_, _, k⟩
    · exact hk.elim
  · intro hq; cases hq
  · have mm := @spec_l00In_main
    revert mm
    generalize bodyK Try.prog E_spec_l00In Try.f50 = Q
    intro mm args H K hk
    simp only [S_spec_l00In] at *
    unfold F_spec_l00In at *
    split at hk
    · exact mm _ _ _ H K hk
    · exact hk.elim
def p_spec_l03Scale (scale : Nat) : Bool := (bif fle .f32 1056964608 scale then fle .f32 scale 1098907648 else false)
def p_spec_l03Scale_eq := @p_spec_l03Scale.eq_1
def T_spec_l03Scale (scale : Nat) (H : AHeap) (K : Bool → AHeap → Prop) : Prop := K (p_spec_l03Scale scale) H

theorem T_spec_l03Scale_i {scale : Nat} {H : AHeap} {K : Bool → AHeap → Prop} (h : K (p_spec_l03Scale scale) H) : T_spec_l03Scale scale H K := h
/-! spec_l03Scale: function 83 -/
def E_spec_l03Scale : Env := envOf []
def F_spec_l03Scale : List Value → AHeap → (Value → AHeap → Prop) → Prop
  | [.float .f32 scale], H, K => T_spec_l03Scale scale H fun (r1 : Bool) (H' : AHeap) => K (.bool r1) H'
  | _, _, _ => False
def S_spec_l03Scale : FSpec := { F := F_spec_l03Scale, quiet := true, tame := false }
theorem spec_l03Scale_vc (scale : Nat) (H : AHeap) (K : Value → AHeap → Prop) : bodyK Try.prog E_spec_l03Scale Try.f83 [.float .f32 scale] H K =
  (Br (fle .f32 1056964608 scale) (K (.bool (fle .f32 scale 1098907648)) H) (K (.bool false) H)) := by kernel_rfl
theorem E_spec_l03Scale_ok : ∀ g, FnOk Try.prog g (E_spec_l03Scale g) := FnOk.envOf (by
  intro x hx; cases hx)
set_option maxHeartbeats 1000000 in
theorem spec_l03Scale_main (scale : Nat) (H : AHeap) (K : Value → AHeap → Prop) (h : T_spec_l03Scale scale H fun (r1 : Bool) (H' : AHeap) => K (.bool r1) H') : bodyK Try.prog E_spec_l03Scale Try.f83 [.float .f32 scale] H K := by
  rw [spec_l03Scale_vc]
  unfold T_spec_l03Scale p_spec_l03Scale at h
  repeat' (first | exact h | (exfalso; simp_all; done) | (refine ⟨by decide, ?_⟩) | (refine Br.intro (fun hb => ?_) (fun hb => ?_) <;> (try simp only [hb, cond_true, cond_false, Bool.not_true, Bool.not_false] at h)))
theorem spec_l03Scale_ok : FnOk Try.prog 83 S_spec_l03Scale := by
  refine FnOk.body mix_ok E_spec_l03Scale_ok Try.func83 rfl (by kernel_rfl) (by kernel_rfl) ?_ ?_ ?_ ?_ ?_
  · intro args H K K' h hk
    simp only [S_spec_l03Scale] at *
    unfold F_spec_l03Scale at *
    split at hk
    · have k := hk
      exact h _ _ k
    · exact hk.elim
  · intro _ args H K hk
    simp only [S_spec_l03Scale] at *
    unfold F_spec_l03Scale at *
    split at hk
    · have k := hk
      exact ⟨_, k, fun K' k' => k'⟩
    · exact hk.elim
  · intro args H K hk
    simp only [S_spec_l03Scale] at *
    unfold F_spec_l03Scale at *
    split at hk
    · have k := hk
      exact ⟨_, _, k⟩
    · exact hk.elim
  · intro hq; cases hq
  · have mm := @spec_l03Scale_main
    revert mm
    generalize bodyK Try.prog E_spec_l03Scale Try.f83 = Q
    intro mm args H K hk
    simp only [S_spec_l03Scale] at *
    unfold F_spec_l03Scale at *
    split at hk
    · exact mm _ H K hk
    · exact hk.elim
def p_spec_l01Finite (x : Nat) : Bool := feq .f32 (fsub .f32 x x) 0
def p_spec_l01Finite_eq := @p_spec_l01Finite.eq_1
def T_spec_l01Finite (x : Nat) (H : AHeap) (K : Bool → AHeap → Prop) : Prop := K (p_spec_l01Finite x) H

theorem T_spec_l01Finite_i {x : Nat} {H : AHeap} {K : Bool → AHeap → Prop} (h : K (p_spec_l01Finite x) H) : T_spec_l01Finite x H K := h
/-! spec_l01Finite: function 73 -/
def E_spec_l01Finite : Env := envOf []
def F_spec_l01Finite : List Value → AHeap → (Value → AHeap → Prop) → Prop
  | [.float .f32 x], H, K => T_spec_l01Finite x H fun (r1 : Bool) (H' : AHeap) => K (.bool r1) H'
  | _, _, _ => False
def S_spec_l01Finite : FSpec := { F := F_spec_l01Finite, quiet := true, tame := false }
theorem spec_l01Finite_vc (x : Nat) (H : AHeap) (K : Value → AHeap → Prop) : bodyK Try.prog E_spec_l01Finite Try.f73 [.float .f32 x] H K =
  (K (.bool (feq .f32 (fsub .f32 x x) 0)) H) := by kernel_rfl
theorem E_spec_l01Finite_ok : ∀ g, FnOk Try.prog g (E_spec_l01Finite g) := FnOk.envOf (by
  intro x hx; cases hx)
set_option maxHeartbeats 1000000 in
theorem spec_l01Finite_main (x : Nat) (H : AHeap) (K : Value → AHeap → Prop) (h : T_spec_l01Finite x H fun (r1 : Bool) (H' : AHeap) => K (.bool r1) H') : bodyK Try.prog E_spec_l01Finite Try.f73 [.float .f32 x] H K := by
  rw [spec_l01Finite_vc]
  unfold T_spec_l01Finite p_spec_l01Finite at h
  repeat' (first | exact h | (exfalso; simp_all; done) | (refine ⟨by decide, ?_⟩) | (refine Br.intro (fun hb => ?_) (fun hb => ?_) <;> (try simp only [hb, cond_true, cond_false, Bool.not_true, Bool.not_false] at h)))
theorem spec_l01Finite_ok : FnOk Try.prog 73 S_spec_l01Finite := by
  refine FnOk.body mix_ok E_spec_l01Finite_ok Try.func73 rfl (by kernel_rfl) (by kernel_rfl) ?_ ?_ ?_ ?_ ?_
  · intro args H K K' h hk
    simp only [S_spec_l01Finite] at *
    unfold F_spec_l01Finite at *
    split at hk
    · have k := hk
      exact h _ _ k
    · exact hk.elim
  · intro _ args H K hk
    simp only [S_spec_l01Finite] at *
    unfold F_spec_l01Finite at *
    split at hk
    · have k := hk
      exact ⟨_, k, fun K' k' => k'⟩
    · exact hk.elim
  · intro args H K hk
    simp only [S_spec_l01Finite] at *
    unfold F_spec_l01Finite at *
    split at hk
    · have k := hk
      exact ⟨_, _, k⟩
    · exact hk.elim
  · intro hq; cases hq
  · have mm := @spec_l01Finite_main
    revert mm
    generalize bodyK Try.prog E_spec_l01Finite Try.f73 = Q
    intro mm args H K hk
    simp only [S_spec_l01Finite] at *
    unfold F_spec_l01Finite at *
    split at hk
    · exact mm _ H K hk
    · exact hk.elim

def p_spec_l05Atom (ap_Place : Int) (ap_Scale : Nat) (ap_Size : Nat) (count : Int) : Bool := (bif (p_spec_l00In ap_Place (0 : Int) (count - 1)) then (bif (p_spec_l03Scale ap_Scale) then (p_spec_l01Finite ap_Size) else false) else false)
def p_spec_l05Atom_eq := @p_spec_l05Atom.eq_1
def T_spec_l05Atom (a : Nat) (count : Int) (H : AHeap) (K : Bool → AHeap → Prop) : Prop := ∃ (ap_Place : Int), ∃ (ap_Scale : Nat), ∃ (ap_Size : Nat), rdN H a 0 3 = some [.int .i64 ap_Place, .float .f32 ap_Scale, .float .f32 ap_Size] ∧ 0 ≤ count ∧ count ≤ 1000 ∧ K (p_spec_l05Atom ap_Place ap_Scale ap_Size count) H
theorem T_spec_l05Atom_i {a : Nat} {count : Int} {H : AHeap} {K : Bool → AHeap → Prop} (h : ∃ (ap_Place : Int), ∃ (ap_Scale : Nat), ∃ (ap_Size : Nat), rdN H a 0 3 = some [.int .i64 ap_Place, .float .f32 ap_Scale, .float .f32 ap_Size] ∧ 0 ≤ count ∧ count ≤ 1000 ∧ K (p_spec_l05Atom ap_Place ap_Scale ap_Size count) H) : T_spec_l05Atom a count H K := h
theorem atom_in {p : Int} {s z : Nat} {c : Int} (h : p_spec_l05Atom p s z c = true) : (0 ≤ p ∧ p ≤ c - 1) ∧ (bif fle .f32 1056964608 s then fle .f32 s 1098907648 else false) = true ∧ p_spec_l01Finite z = true := by
  rw [p_spec_l05Atom_eq] at h
  have e : p_spec_l03Scale s = (bif fle .f32 1056964608 s then fle .f32 s 1098907648 else false) := rfl
  rw [e] at h
  cases h1 : p_spec_l00In p 0 (c - 1)
  · rw [h1] at h; cases h
  · rw [h1] at h
    cases h2 : (bif fle .f32 1056964608 s then fle .f32 s 1098907648 else false)
    · rw [h2] at h; cases h
    · rw [h2] at h
      refine ⟨?_, rfl, h⟩
      unfold p_spec_l00In at h1
      simp at h1; omega
/-! spec_l05Atom: function 51 -/
def E_spec_l05Atom : Env := envOf [(50, S_spec_l00In), (83, S_spec_l03Scale), (73, S_spec_l01Finite)]
def F_spec_l05Atom : List Value → AHeap → (Value → AHeap → Prop) → Prop
  | [.pointer (some ⟨a, 0, none⟩), .int .i64 count], H, K => T_spec_l05Atom a count H fun (r1 : Bool) (H' : AHeap) => K (.bool r1) H'
  | _, _, _ => False
def S_spec_l05Atom : FSpec := { F := F_spec_l05Atom, quiet := true, tame := false }
theorem spec_l05Atom_vc (a : Nat) (count : Int) (H : AHeap) (K : Value → AHeap → Prop) : bodyK Try.prog E_spec_l05Atom Try.f51 [.pointer (some ⟨a, 0, none⟩), .int .i64 count] H K =
  (∃ x1 : Int,  rdC H a 0 = some (.int .i64 x1) ∧ T_spec_l00In x1 0 (IntKind.wrap .i64 (count - 1)) H fun (r1 : Bool) (H1 : AHeap) => Br r1 (∃ x2 : Nat,  rdC H1 a 1 = some (.float .f32 x2) ∧ T_spec_l03Scale x2 H1 fun (r2 : Bool) (H2 : AHeap) => Br r2 (∃ x3 : Nat,  rdC H2 a 2 = some (.float .f32 x3) ∧ T_spec_l01Finite x3 H2 fun (r3 : Bool) (H3 : AHeap) => K (.bool r3) H3) (K (.bool false) H2)) (K (.bool false) H1)) := by kernel_rfl
theorem E_spec_l05Atom_ok : ∀ g, FnOk Try.prog g (E_spec_l05Atom g) := FnOk.envOf (by
  intro x hx
  simp only [List.mem_cons, List.not_mem_nil, or_false] at hx
  rcases hx with rfl | rfl | rfl
  · exact spec_l00In_ok
  · exact spec_l03Scale_ok
  · exact spec_l01Finite_ok)
set_option maxHeartbeats 1000000 in
theorem spec_l05Atom_main (a : Nat) (count : Int) (H : AHeap) (K : Value → AHeap → Prop) (h : T_spec_l05Atom a count H fun (r1 : Bool) (H' : AHeap) => K (.bool r1) H') : bodyK Try.prog E_spec_l05Atom Try.f51 [.pointer (some ⟨a, 0, none⟩), .int .i64 count] H K := by
  rw [spec_l05Atom_vc]
  obtain ⟨ap_Place, ap_Scale, ap_Size, i_a, pr0, pr1, hk⟩ := h
  have e : (p_spec_l05Atom ap_Place ap_Scale ap_Size count) = _ := rfl
  have e := e.trans (p_spec_l05Atom_eq ap_Place ap_Scale ap_Size count)
  have g0 := Grow.refl H
  refine ⟨ap_Place, (rdN_at (rdN_grow g0 i_a) 0 (Nat.le_of_ble_eq_true rfl)).trans rfl, ?_⟩
  rw [show IntKind.wrap .i64 (count - 1) = (count - 1) from wrap64 o4 o4]
  refine T_spec_l00In_i ?_
  refine Br.intro (fun c_1 => ?_) (fun c_1 => ?_)
  · have e := e.trans (cond_t c_1)
    have c_1' := spec_l00In_t c_1
    refine ⟨ap_Scale, (rdN_at (rdN_grow g0 i_a) 1 (Nat.le_of_ble_eq_true rfl)).trans rfl, ?_⟩
    refine T_spec_l03Scale_i ?_
    refine Br.intro (fun c_2 => ?_) (fun c_2 => ?_)
    · have e := e.trans (cond_t c_2)
      refine ⟨ap_Size, (rdN_at (rdN_grow g0 i_a) 2 (Nat.le_of_ble_eq_true rfl)).trans rfl, ?_⟩
      refine T_spec_l01Finite_i ?_
      rw [e] at hk
      exact hk
    · have e := e.trans (cond_f c_2)
      rw [e] at hk
      exact hk
  · have e := e.trans (cond_f c_1)
    rw [e] at hk
    exact hk
theorem spec_l05Atom_ok : FnOk Try.prog 51 S_spec_l05Atom := by
  refine FnOk.body mix_ok E_spec_l05Atom_ok Try.func51 rfl (by kernel_rfl) (by kernel_rfl) ?_ ?_ ?_ ?_ ?_
  · intro args H K K' h hk
    simp only [S_spec_l05Atom] at *
    unfold F_spec_l05Atom at *
    split at hk
    · obtain ⟨ap_Place, ap_Scale, ap_Size, i_a, pr0, pr1, k⟩ := hk
      exact ⟨ap_Place, ap_Scale, ap_Size, i_a, pr0, pr1, h _ _ k⟩
    · exact hk.elim
  · intro _ args H K hk
    simp only [S_spec_l05Atom] at *
    unfold F_spec_l05Atom at *
    split at hk
    · obtain ⟨ap_Place, ap_Scale, ap_Size, i_a, pr0, pr1, k⟩ := hk
      exact ⟨_, k, fun K' k' => ⟨ap_Place, ap_Scale, ap_Size, i_a, pr0, pr1, k'⟩⟩
    · exact hk.elim
  · intro args H K hk
    simp only [S_spec_l05Atom] at *
    unfold F_spec_l05Atom at *
    split at hk
    · obtain ⟨ap_Place, ap_Scale, ap_Size, i_a, pr0, pr1, k⟩ := hk
      exact ⟨_, _, k⟩
    · exact hk.elim
  · intro hq; cases hq
  · have mm := @spec_l05Atom_main
    revert mm
    generalize bodyK Try.prog E_spec_l05Atom Try.f51 = Q
    intro mm args H K hk
    simp only [S_spec_l05Atom] at *
    unfold F_spec_l05Atom at *
    split at hk
    · exact mm _ _ H K hk
    · exact hk.elim
def p_math_archCeil (x : Nat) : Nat := fint .up x
def T_math_archCeil (x : Nat) (H : AHeap) (K : Nat → AHeap → Prop) : Prop := K (p_math_archCeil x) H
theorem T_math_archCeil_i {x : Nat} {H : AHeap} {K : Nat → AHeap → Prop} (h : K (p_math_archCeil x) H) : T_math_archCeil x H K := h
def F_math_archCeil : List Value → AHeap → (Value → AHeap → Prop) → Prop
  | [.float .f64 x], H, K => T_math_archCeil x H fun r1 H' => K (.float .f64 r1) H'
  | _, _, _ => False
def S_math_archCeil : FSpec := { F := F_math_archCeil, quiet := true }
theorem math_archCeil_ok : FnOk Try.prog 151 S_math_archCeil := by
  refine FnOk.ext1 (f := p_math_archCeil) (e := Extern.MathFloor.toIntegral "math.archCeil" .up) rfl ?_ (fun x H K h => h) Try.func151 (by kernel_rfl) (by kernel_rfl) (by kernel_rfl) (by kernel_rfl) (fun b w => ext_int _ _ b w)
  intro args H K h
  simp only [S_math_archCeil] at h
  unfold F_math_archCeil at h
  split at h
  · exact ⟨_, rfl, h⟩
  · exact h.elim

def p_math_Ceil (x : Nat) : Nat := (p_math_archCeil x)
def p_math_Ceil_eq := @p_math_Ceil.eq_1
def T_math_Ceil (x : Nat) (H : AHeap) (K : Nat → AHeap → Prop) : Prop := K (p_math_Ceil x) H

theorem T_math_Ceil_i {x : Nat} {H : AHeap} {K : Nat → AHeap → Prop} (h : K (p_math_Ceil x) H) : T_math_Ceil x H K := h
/-! math_Ceil: function 108 -/
def E_math_Ceil : Env := envOf [(151, S_math_archCeil)]
def F_math_Ceil : List Value → AHeap → (Value → AHeap → Prop) → Prop
  | [.float .f64 x], H, K => T_math_Ceil x H fun (r1 : Nat) (H' : AHeap) => K (.float .f64 r1) H'
  | _, _, _ => False
def S_math_Ceil : FSpec := { F := F_math_Ceil, quiet := true, tame := false }
theorem math_Ceil_vc (x : Nat) (H : AHeap) (K : Value → AHeap → Prop) : bodyK Try.prog E_math_Ceil Try.f108 [.float .f64 x] H K =
  (T_math_archCeil x H fun (r1 : Nat) (H1 : AHeap) => K (.float .f64 r1) H1) := by kernel_rfl
theorem E_math_Ceil_ok : ∀ g, FnOk Try.prog g (E_math_Ceil g) := FnOk.envOf (by
  intro x hx
  simp only [List.mem_cons, List.not_mem_nil, or_false] at hx
  subst hx; exact math_archCeil_ok)
set_option maxHeartbeats 1000000 in
theorem math_Ceil_main (x : Nat) (H : AHeap) (K : Value → AHeap → Prop) (h : T_math_Ceil x H fun (r1 : Nat) (H' : AHeap) => K (.float .f64 r1) H') : bodyK Try.prog E_math_Ceil Try.f108 [.float .f64 x] H K := by
  rw [math_Ceil_vc]
  simp only [T_math_archCeil]
  unfold T_math_Ceil p_math_Ceil at h
  repeat' (first | exact h | (exfalso; simp_all; done) | (refine ⟨by decide, ?_⟩) | (refine Br.intro (fun hb => ?_) (fun hb => ?_) <;> (try simp only [hb, cond_true, cond_false, Bool.not_true, Bool.not_false] at h)))
theorem math_Ceil_ok : FnOk Try.prog 108 S_math_Ceil := by
  refine FnOk.body mix_ok E_math_Ceil_ok Try.func108 rfl (by kernel_rfl) (by kernel_rfl) ?_ ?_ ?_ ?_ ?_
  · intro args H K K' h hk
    simp only [S_math_Ceil] at *
    unfold F_math_Ceil at *
    split at hk
    · have k := hk
      exact h _ _ k
    · exact hk.elim
  · intro _ args H K hk
    simp only [S_math_Ceil] at *
    unfold F_math_Ceil at *
    split at hk
    · have k := hk
      exact ⟨_, k, fun K' k' => k'⟩
    · exact hk.elim
  · intro args H K hk
    simp only [S_math_Ceil] at *
    unfold F_math_Ceil at *
    split at hk
    · have k := hk
      exact ⟨_, _, k⟩
    · exact hk.elim
  · intro hq; cases hq
  · have mm := @math_Ceil_main
    revert mm
    generalize bodyK Try.prog E_math_Ceil Try.f108 = Q
    intro mm args H K hk
    simp only [S_math_Ceil] at *
    unfold F_math_Ceil at *
    split at hk
    · exact mm _ H K hk
    · exact hk.elim
def p_math_Float64frombits (x : Int) : Nat := cn .f64 x.toNat
def T_math_Float64frombits (x : Int) (H : AHeap) (K : Nat → AHeap → Prop) : Prop := K (p_math_Float64frombits x) H
theorem T_math_Float64frombits_i {x : Int} {H : AHeap} {K : Nat → AHeap → Prop} (h : K (p_math_Float64frombits x) H) : T_math_Float64frombits x H K := h
def F_math_Float64frombits : List Value → AHeap → (Value → AHeap → Prop) → Prop
  | [.int .u64 b], H, K => T_math_Float64frombits b H fun r1 H' => K (.float .f64 r1) H'
  | _, _, _ => False
def S_math_Float64frombits : FSpec := { F := F_math_Float64frombits, quiet := true }
theorem F_math_Float64frombits_o {args : List Value} {H : AHeap} {K : Value → AHeap → Prop} (h : S_math_Float64frombits.F args H K) : ∃ x, args = [.int .u64 x] ∧ K (.float .f64 (p_math_Float64frombits x)) H := by
  simp only [S_math_Float64frombits] at h
  unfold F_math_Float64frombits at h
  split at h
  · exact ⟨_, rfl, h⟩
  · exact h.elim
theorem math_Float64frombits_ok : FnOk Try.prog 185 S_math_Float64frombits := by
  refine FnOk.ext rfl ?_ ?_ ?_ ?_
  · intro args H K K' h hk
    obtain ⟨x, rfl, k⟩ := F_math_Float64frombits_o hk
    exact h _ _ k
  · intro _ args H K hk
    obtain ⟨x, rfl, k⟩ := F_math_Float64frombits_o hk
    exact ⟨_, k, fun K' k' => k'⟩
  · intro args H K hk
    obtain ⟨x, rfl, k⟩ := F_math_Float64frombits_o hk
    exact ⟨_, _, k⟩
  · intro ρ w args args' H K ha hk
    obtain ⟨x, rfl, k⟩ := F_math_Float64frombits_o hk
    obtain ⟨y, ys, rfl, h3, h4⟩ := ha.uncons
    obtain rfl := h4.unnil
    cases h3
    refine ⟨_, .float .f64 x.toNat, w, ?_, .refl w, .float .f64 _ _ rfl, k⟩
    have := run_callFunc_extern (e := Extern.MathFloatBits.float64frombits) Try.func185 (by kernel_rfl) (by kernel_rfl) (by kernel_rfl) (by kernel_rfl) #[.int .u64 x] w
    rw [this]; rfl

def p_math_Inf (sign : Int) : Nat := (bif decide ((0 : Int) ≤ sign) then (p_math_Float64frombits 9218868437227405312) else (p_math_Float64frombits 18442240474082181120))
def p_math_Inf_eq := @p_math_Inf.eq_1
def T_math_Inf (sign : Int) (H : AHeap) (K : Nat → AHeap → Prop) : Prop := K (p_math_Inf sign) H

theorem T_math_Inf_i {sign : Int} {H : AHeap} {K : Nat → AHeap → Prop} (h : K (p_math_Inf sign) H) : T_math_Inf sign H K := h
/-! math_Inf: function 182 -/
def E_math_Inf : Env := envOf [(185, S_math_Float64frombits)]
def F_math_Inf : List Value → AHeap → (Value → AHeap → Prop) → Prop
  | [.int .i64 sign], H, K => T_math_Inf sign H fun (r1 : Nat) (H' : AHeap) => K (.float .f64 r1) H'
  | _, _, _ => False
def S_math_Inf : FSpec := { F := F_math_Inf, quiet := true, tame := false }
theorem math_Inf_vc (sign : Int) (H : AHeap) (K : Value → AHeap → Prop) : bodyK Try.prog E_math_Inf Try.f182 [.int .i64 sign] H K =
  (Br (decide ((0 : Int) ≤ sign)) (T_math_Float64frombits 9218868437227405312 H fun (r1 : Nat) (H1 : AHeap) => K (.float .f64 r1) H1) (T_math_Float64frombits 18442240474082181120 H fun (r2 : Nat) (H2 : AHeap) => K (.float .f64 r2) H2)) := by kernel_rfl
theorem E_math_Inf_ok : ∀ g, FnOk Try.prog g (E_math_Inf g) := FnOk.envOf (by
  intro x hx
  simp only [List.mem_cons, List.not_mem_nil, or_false] at hx
  subst hx; exact math_Float64frombits_ok)
set_option maxHeartbeats 1000000 in
theorem math_Inf_main (sign : Int) (H : AHeap) (K : Value → AHeap → Prop) (h : T_math_Inf sign H fun (r1 : Nat) (H' : AHeap) => K (.float .f64 r1) H') : bodyK Try.prog E_math_Inf Try.f182 [.int .i64 sign] H K := by
  rw [math_Inf_vc]
  simp only [T_math_Float64frombits]
  unfold T_math_Inf p_math_Inf at h
  repeat' (first | exact h | (exfalso; simp_all; done) | (refine ⟨by decide, ?_⟩) | (refine Br.intro (fun hb => ?_) (fun hb => ?_) <;> (try simp only [hb, cond_true, cond_false, Bool.not_true, Bool.not_false] at h)))
theorem math_Inf_ok : FnOk Try.prog 182 S_math_Inf := by
  refine FnOk.body mix_ok E_math_Inf_ok Try.func182 rfl (by kernel_rfl) (by kernel_rfl) ?_ ?_ ?_ ?_ ?_
  · intro args H K K' h hk
    simp only [S_math_Inf] at *
    unfold F_math_Inf at *
    split at hk
    · have k := hk
      exact h _ _ k
    · exact hk.elim
  · intro _ args H K hk
    simp only [S_math_Inf] at *
    unfold F_math_Inf at *
    split at hk
    · have k := hk
      exact ⟨_, k, fun K' k' => k'⟩
    · exact hk.elim
  · intro args H K hk
    simp only [S_math_Inf] at *
    unfold F_math_Inf at *
    split at hk
    · have k := hk
      exact ⟨_, _, k⟩
    · exact hk.elim
  · intro hq; cases hq
  · have mm := @math_Inf_main
    revert mm
    generalize bodyK Try.prog E_math_Inf Try.f182 = Q
    intro mm args H K hk
    simp only [S_math_Inf] at *
    unfold F_math_Inf at *
    split at hk
    · exact mm _ H K hk
    · exact hk.elim

def p_spec_l01ExpWide_l2 (y : Nat) (p : Nat) (k : Int) (k2_2 : Nat → Int → Nat) : Nat → Nat → Int → Nat
  | 0, _, _ => 0
  | μ2 + 1, p_4, k_6 => (bif decide ((k_6 : Int) < 8) then (p_spec_l01ExpWide_l2 y p k k2_2 μ2 (fmul .f64 p_4 p_4) (k_6 + 1)) else (k2_2 p_4 k_6))
def p_spec_l01ExpWide_l2_s := fun y p k k2_2 μ2 p_4 k_6 => @p_spec_l01ExpWide_l2.eq_2 y p k k2_2 p_4 k_6 μ2
def p_spec_l01ExpWide_l1 (y : Nat) : Nat → Nat → Int → Nat
  | 0, _, _ => 0
  | μ + 1, p, k => (bif decide ((1 : Int) ≤ k) then (p_spec_l01ExpWide_l1 y μ (fadd .f64 4607182418800017408 (fdiv .f64 (fmul .f64 (fdiv .f64 y 4643211215818981376) p) (FloatKind.nearest .f64 k))) (k - 1)) else (p_spec_l01ExpWide_l2 y p k (fun (p_4 : Nat) (k_6 : Int) => p_4) (Int.toNat (8 - (0 : Int)) + 1) p (0 : Int)))
def p_spec_l01ExpWide_l1_s := fun y μ p k => @p_spec_l01ExpWide_l1.eq_2 y p k μ
def p_spec_l01ExpWide (y : Nat) : Nat := (bif !(feq .f64 y y) then y else (bif flt .f64 4641240890982006784 y then (p_math_Inf (1 : Int)) else (bif flt .f64 y 13864612927836782592 then 0 else (p_spec_l01ExpWide_l1 y (Int.toNat ((12 : Int) - 1 + 1) + 1) 4607182418800017408 (12 : Int)))))
def p_spec_l01ExpWide_eq := @p_spec_l01ExpWide.eq_1
def T_spec_l01ExpWide (y : Nat) (H : AHeap) (K : Nat → AHeap → Prop) : Prop := K (p_spec_l01ExpWide y) H
theorem T_spec_l01ExpWide_i {y : Nat} {H : AHeap} {K : Nat → AHeap → Prop} (h : K (p_spec_l01ExpWide y) H) : T_spec_l01ExpWide y H K := h
theorem o22 {P : Prop} (h : P := by decide) : P := h
theorem o28 {P : Prop} (h : P := by rw [fb64, lp64]; decide) : P := h
theorem spec_l01ExpWide_sq {y P K : Nat} {k : Int} : ∀ (μ p : Nat) (i : Int), Bd .f64 1074 p → (FloatKind.f64.format.read p).neg = false → Bd .f64 1074 (p_spec_l01ExpWide_l2 y P k (fun (p : Nat) (t : Int) => p) μ p i) ∧ (FloatKind.f64.format.read (p_spec_l01ExpWide_l2 y P k (fun (p : Nat) (t : Int) => p) μ p i)).neg = false := by
  intro μ
  induction μ with
  | zero => intro p i _ _; exact ⟨⟨fin_zero _, by show (sv .f64 0).natAbs ≤ _; rw [sv_zero]; exact Nat.zero_le _⟩, by show (FloatKind.f64.format.read 0).neg = false; rw [read_zero]; rfl⟩
  | succ μ ih =>
    intro p i hp hs
    rw [p_spec_l01ExpWide_l2_s]
    cases decide (i < (8 : Int))
    · exact ⟨hp, hs⟩
    · have := Bd.mul (T := 1022) hp hp (top64 o22) o28
      rw [fb64, hs] at this
      exact ih _ _ this.1 this.2
theorem o27 {P : Prop} (h : P := by decide +kernel) : P := h
theorem spec_l01ExpWide_ser {y : Nat} (hy : Bd .f64 (8 + 1074) y) (hn : (FloatKind.f64.format.read y).neg = true) : ∀ (μ p : Nat) (n : Int), n ≤ 12 → -1 ≤ n → Bd .f64 1074 p → (FloatKind.f64.format.read p).neg = false → Bd .f64 1074 (p_spec_l01ExpWide_l1 y μ p n) := by
  intro μ
  induction μ with
  | zero => intro p n _ _ _ _; exact ⟨fin_zero _, by show (sv .f64 0).natAbs ≤ _; rw [sv_zero]; exact Nat.zero_le _⟩
  | succ μ ih =>
    intro p n h1 h0 hp hs
    rw [p_spec_l01ExpWide_l1_s]
    
    by_cases hc : (1 : Int) ≤ n
    · rw [decide_eq_true hc, cond_true]
      have t1 := Bd.div (T := 1022) (B := 1082) hy (y := 4643211215818981376) o27 o27 (top64 o22) o28
      rw [fb64, hn, show (FloatKind.f64.format.read 4643211215818981376).neg = false from by decide +kernel] at t1
      have t2 := Bd.mul (T := 1022) t1.1 hp (top64 o22) o28
      rw [fb64, t1.2, hs] at t2
      have c := cnt_sv hc o4
      have t3 := Bd.div (T := 1022) (B := 1074) t2.1 c.1 c.2.1 (top64 o22) o28
      rw [fb64, t2.2, c.2.2, show 52 + 1022 = 1074 from rfl] at t3
      have hz := sv_le_zero t3.2
      have hone : sv .f64 4607182418800017408 = 2 ^ 1074 := by decide +kernel
      have habs := t3.1.2
      generalize hq : fdiv .f64 (fmul .f64 (fdiv .f64 y 4643211215818981376) p) (FloatKind.nearest .f64 n) = q at *
      have hpow := pow_cast 1074
      have hsum : (sv .f64 4607182418800017408 + sv .f64 q).natAbs ≤ 2 ^ (FloatKind.f64.format.fractionBits + 1022) := by
        rw [hone, fb64, ← hpow, show 52 + 1022 = 1074 from rfl]
        obtain ⟨W, hW⟩ : ∃ W : Nat, W = 2 ^ 1074 := ⟨_, rfl⟩
        rw [← hW] at habs ⊢
        clear hpow hW
        omega
      have t4 := Bd.add (T := 1022) (x := 4607182418800017408) (y := q) o27 t3.1.1 (top64 o22) hsum
      rw [fb64] at t4
      have hneg : (FloatKind.f64.format.read (fadd .f64 4607182418800017408 q)).neg = false := by
        rw [t4.2]
        split
        · rw [show (FloatKind.f64.format.read 4607182418800017408).neg = false from by decide +kernel]; rfl
        · refine decide_eq_false ?_
          rw [hone, ← hpow]
          generalize (2 ^ 1074 : Nat) = W at *
          omega
      exact ih _ (n - 1) o4 o4 t4.1 hneg
    · rw [decide_eq_false hc, cond_false]
      exact (spec_l01ExpWide_sq (K := 0) _ _ _ hp hs).1
theorem spec_l01ExpWide_nar {x : Nat} (hx : (FloatKind.f32.format.read x).isNaN = true ∨ (FloatKind.f32.format.read x).neg = true) : fnarrow (p_spec_l01ExpWide (fwide x)) ≠ none := by
  cases hr : FloatKind.f32.format.read x with
  | nan s t =>
    have e : fwide x = qnan .f64 := by
      unfold fwide
      rw [show FloatKind.f32.decode x = FloatKind.f32.format.read x from rfl, hr]
    rw [e]; decide +kernel
  | infinity s =>
    have hs : s = true := by
      rw [hr] at hx
      rcases hx with h | h
      · cases h
      · exact h
    have e : fwide x = FloatKind.f64.encode (.infinity true) := by
      unfold fwide
      rw [show FloatKind.f32.decode x = FloatKind.f32.format.read x from rfl, hr, hs]
    rw [e]; decide +kernel
  | number s m i =>
    have hf : fin .f32 x = true := by unfold fin; rw [hr]
    have hs : (FloatKind.f32.format.read x).neg = true := by
      rcases hx with h | h
      · rw [hr] at h; cases h
      · exact h
    have wf := wide_fin hf
    have wn := wide_neg (x := x) (fin_nn hf)
    rw [hs] at wn
    have z := sv_le_zero wn
    rw [p_spec_l01ExpWide_eq]
    rw [feq_self (fin_nn wf), Bool.not_true, cond_false]
    rw [flt_fin o27 wf, flt_fin wf o27]
    have e1 : sv .f64 4641240890982006784 = 200 * 2 ^ 1074 := by decide +kernel
    have e2 : sv .f64 13864612927836782592 = -200 * 2 ^ 1074 := by decide +kernel
    have hpow := pow_cast 1074
    rw [e1, e2, ← hpow]
    have hp := Nat.two_pow_pos 1074
    rw [decide_eq_false (by generalize (2 ^ 1074 : Nat) = W at *; omega), cond_false]
    by_cases hc : sv .f64 (fwide x) < -200 * ((2 ^ 1074 : Nat) : Int)
    · rw [decide_eq_true hc, cond_true]; decide +kernel
    · rw [decide_eq_false hc, cond_false]
      have hy : Bd .f64 (8 + 1074) (fwide x) := by
        refine ⟨wf, ?_⟩
        have e3 : (2 : Nat) ^ (8 + 1074) = 2 ^ 8 * 2 ^ 1074 := Nat.pow_add 2 8 1074
        rw [e3]
        generalize (2 ^ 1074 : Nat) = W at *
        omega
      have one : Bd .f64 1074 4607182418800017408 := ⟨by decide +kernel, by decide +kernel⟩
      have b := spec_l01ExpWide_ser hy wn (Int.toNat ((12 : Int) - 1 + 1) + 1) 4607182418800017408 12 o22 o22 one o27
      exact narrow_ok (b.mono o22)
/-! spec_l01ExpWide: function 153 -/
def E_spec_l01ExpWide : Env := envOf [(182, S_math_Inf)]
def F_spec_l01ExpWide : List Value → AHeap → (Value → AHeap → Prop) → Prop
  | [.float .f64 y], H, K => T_spec_l01ExpWide y H fun (r1 : Nat) (H' : AHeap) => K (.float .f64 r1) H'
  | _, _, _ => False
def S_spec_l01ExpWide : FSpec := { F := F_spec_l01ExpWide, quiet := true, tame := false }
theorem spec_l01ExpWide_vc (y : Nat) (H : AHeap) (K : Value → AHeap → Prop) : bodyK Try.prog E_spec_l01ExpWide Try.f153 [.float .f64 y] H K =
  (Br (!(feq .f64 y y)) (K (.float .f64 y) H) (Br (flt .f64 4641240890982006784 y) (T_math_Inf 1 H fun (r1 : Nat) (H1 : AHeap) => K (.float .f64 r1) H1) (Br (flt .f64 y 13864612927836782592) (K (.float .f64 0) H) (loopK (exK Try.prog E_spec_l01ExpWide (cl (cl (cr (cl (cr (cr (cr (cr (cr (cr (bodyC Try.f153)))))))))))) [.float .f64 y, undef, .float .f64 0, .float .f64 (fdiv .f64 y 4643211215818981376), .float .f64 4607182418800017408, .int .i64 12, undef, .float .f64 y, .float .f64 y, .bool (!(feq .f64 y y)), undef, .float .f64 y, .bool (flt .f64 4641240890982006784 y), undef, .float .f64 y, .bool (flt .f64 y 13864612927836782592), .float .f64 y, .float .f64 (fdiv .f64 y 4643211215818981376), undef, undef, undef, undef, undef, undef, undef, undef, undef, undef, undef, undef, undef, undef, undef, undef, undef, undef, undef] H (blockQ 0 (seqQ (exK Try.prog E_spec_l01ExpWide (cr (cr (cr (cr (cr (cr (cr (bodyC Try.f153))))))))) (retK Try.prog Try.f153 K))))))) := by kernel_rfl
abbrev spec_l01ExpWide_P1 (y : Nat) (p : Nat) (k : Int) (g18 g19 g20 g21 g22 g23 g24 g25 g26 g27 g28 : Value) : List Value := [.float .f64 y, undef, .float .f64 0, .float .f64 (fdiv .f64 y 4643211215818981376), .float .f64 p, .int .i64 k, undef, .float .f64 y, .float .f64 y, .bool (!(feq .f64 y y)), undef, .float .f64 y, .bool (flt .f64 4641240890982006784 y), undef, .float .f64 y, .bool (flt .f64 y 13864612927836782592), .float .f64 y, .float .f64 (fdiv .f64 y 4643211215818981376), g18, g19, g20, g21, g22, g23, g24, g25, g26, g27, g28, undef, undef, undef, undef, undef, undef, undef, undef]
theorem spec_l01ExpWide_r1 (y : Nat) (p : Nat) (k : Int) (g18 g19 g20 g21 g22 g23 g24 g25 g26 g27 g28 : Value) (H : AHeap) (R : Post) : exK Try.prog E_spec_l01ExpWide (cl (cl (cr (cl (cr (cr (cr (cr (cr (cr (bodyC Try.f153))))))))))) (spec_l01ExpWide_P1 y p k g18 g19 g20 g21 g22 g23 g24 g25 g26 g27 g28) H R =
  (Br (decide ((1 : Int) ≤ k)) (R .normal [.float .f64 y, undef, .float .f64 0, .float .f64 (fdiv .f64 y 4643211215818981376), .float .f64 (fadd .f64 4607182418800017408 (fdiv .f64 (fmul .f64 (fdiv .f64 y 4643211215818981376) p) (FloatKind.nearest .f64 k))), .int .i64 (IntKind.wrap .i64 (k - 1)), undef, .float .f64 y, .float .f64 y, .bool (!(feq .f64 y y)), undef, .float .f64 y, .bool (flt .f64 4641240890982006784 y), undef, .float .f64 y, .bool (flt .f64 y 13864612927836782592), .float .f64 y, .float .f64 (fdiv .f64 y 4643211215818981376), .int .i64 k, .bool (decide ((1 : Int) ≤ k)), .int .i64 k, .int .i64 (IntKind.wrap .i64 (k - 1)), .float .f64 (fdiv .f64 y 4643211215818981376), .float .f64 p, .float .f64 (fmul .f64 (fdiv .f64 y 4643211215818981376) p), .int .i64 k, .float .f64 (FloatKind.nearest .f64 k), .float .f64 (fdiv .f64 (fmul .f64 (fdiv .f64 y 4643211215818981376) p) (FloatKind.nearest .f64 k)), .float .f64 (fadd .f64 4607182418800017408 (fdiv .f64 (fmul .f64 (fdiv .f64 y 4643211215818981376) p) (FloatKind.nearest .f64 k))), undef, undef, undef, undef, undef, undef, undef, undef] H) (R (.exit 0) [.float .f64 y, undef, .float .f64 0, .float .f64 (fdiv .f64 y 4643211215818981376), .float .f64 p, .int .i64 k, undef, .float .f64 y, .float .f64 y, .bool (!(feq .f64 y y)), undef, .float .f64 y, .bool (flt .f64 4641240890982006784 y), undef, .float .f64 y, .bool (flt .f64 y 13864612927836782592), .float .f64 y, .float .f64 (fdiv .f64 y 4643211215818981376), .int .i64 k, .bool (decide ((1 : Int) ≤ k)), g20, g21, g22, g23, g24, g25, g26, g27, g28, undef, undef, undef, undef, undef, undef, undef, undef] H)) := by kernel_rfl
def spec_l01ExpWide_I1 (y : Nat) (Inv : Nat → Nat → Int → AHeap → Prop) : Nat → List Value → AHeap → Prop := fun μ tm H => ∃ (p : Nat), ∃ (k : Int), ∃ g18 g19 g20 g21 g22 g23 g24 g25 g26 g27 g28, tm = (spec_l01ExpWide_P1 y p k g18 g19 g20 g21 g22 g23 g24 g25 g26 g27 g28) ∧ Inv μ p k H
theorem spec_l01ExpWide_L1 (y : Nat) {Q : Post} (Inv : Nat → Nat → Int → AHeap → Prop) (ν : Nat) (p : Nat) (k : Int) (g18 g19 g20 g21 g22 g23 g24 g25 g26 g27 g28 : Value) (H : AHeap) (h0 : Inv ν p k H)
    (hs : ∀ (μ : Nat) (p : Nat) (k : Int) (g18 g19 g20 g21 g22 g23 g24 g25 g26 g27 g28 : Value) (H : AHeap), Inv μ p k H → exK Try.prog E_spec_l01ExpWide (cl (cl (cr (cl (cr (cr (cr (cr (cr (cr (bodyC Try.f153))))))))))) (spec_l01ExpWide_P1 y p k g18 g19 g20 g21 g22 g23 g24 g25 g26 g27 g28) H (loopQ (spec_l01ExpWide_I1 y Inv) μ Q)) : loopK (exK Try.prog E_spec_l01ExpWide (cl (cl (cr (cl (cr (cr (cr (cr (cr (cr (bodyC Try.f153)))))))))))) (spec_l01ExpWide_P1 y p k g18 g19 g20 g21 g22 g23 g24 g25 g26 g27 g28) H Q :=
  ⟨spec_l01ExpWide_I1 y Inv, ν, ⟨p, k, g18, g19, g20, g21, g22, g23, g24, g25, g26, g27, g28, rfl, h0⟩, fun μ tm H h => by obtain ⟨p, k, g18, g19, g20, g21, g22, g23, g24, g25, g26, g27, g28, rfl, hI⟩ := h; exact hs μ p k g18 g19 g20 g21 g22 g23 g24 g25 g26 g27 g28 H hI⟩
theorem spec_l01ExpWide_n1 {y : Nat} {Q : Post} {Inv : Nat → Nat → Int → AHeap → Prop} {μ : Nat} (μ' : Nat) {p : Nat} {k : Int} {g18 g19 g20 g21 g22 g23 g24 g25 g26 g27 g28 : Value} {H : AHeap} (hm : μ' < μ) (hI : Inv μ' p k H) : loopQ (spec_l01ExpWide_I1 y Inv) μ Q .normal (spec_l01ExpWide_P1 y p k g18 g19 g20 g21 g22 g23 g24 g25 g26 g27 g28) H := ⟨μ', hm, p, k, g18, g19, g20, g21, g22, g23, g24, g25, g26, g27, g28, rfl, hI⟩
theorem spec_l01ExpWide_x1_0 (y : Nat) (p : Nat) (k : Int) (g18 g19 g20 g21 g22 g23 g24 g25 g26 g27 g28 : Value) (H : AHeap) (K : Value → AHeap → Prop)  {I : Nat → List Value → AHeap → Prop} {μ : Nat} : loopQ I μ (blockQ 0 (seqQ (exK Try.prog E_spec_l01ExpWide (cr (cr (cr (cr (cr (cr (cr (bodyC Try.f153))))))))) (retK Try.prog Try.f153 K))) (.exit 0) (spec_l01ExpWide_P1 y p k g18 g19 g20 g21 g22 g23 g24 g25 g26 g27 g28) H =
  (loopK (exK Try.prog E_spec_l01ExpWide (cl (cl (cr (cl (cr (cr (cr (cr (cr (cr (cr (bodyC Try.f153))))))))))))) [.float .f64 y, undef, .float .f64 0, .float .f64 (fdiv .f64 y 4643211215818981376), .float .f64 p, .int .i64 k, .int .i64 0, .float .f64 y, .float .f64 y, .bool (!(feq .f64 y y)), undef, .float .f64 y, .bool (flt .f64 4641240890982006784 y), undef, .float .f64 y, .bool (flt .f64 y 13864612927836782592), .float .f64 y, .float .f64 (fdiv .f64 y 4643211215818981376), g18, g19, g20, g21, g22, g23, g24, g25, g26, g27, g28, undef, undef, undef, undef, undef, undef, undef, undef] H (blockQ 2 (seqQ (exK Try.prog E_spec_l01ExpWide (cr (cr (cr (cr (cr (cr (cr (cr (bodyC Try.f153)))))))))) (retK Try.prog Try.f153 K)))) := by kernel_rfl
abbrev spec_l01ExpWide_P2 (g18 : Value) (g19 : Value) (g20 : Value) (g21 : Value) (g22 : Value) (g23 : Value) (g24 : Value) (g25 : Value) (g26 : Value) (g27 : Value) (g28 : Value) (k : Int) (y : Nat) (p_4 : Nat) (k_6 : Int) (g29 g30 g31 g32 g33 g34 g35 : Value) : List Value := [.float .f64 y, undef, .float .f64 0, .float .f64 (fdiv .f64 y 4643211215818981376), .float .f64 p_4, .int .i64 k, .int .i64 k_6, .float .f64 y, .float .f64 y, .bool (!(feq .f64 y y)), undef, .float .f64 y, .bool (flt .f64 4641240890982006784 y), undef, .float .f64 y, .bool (flt .f64 y 13864612927836782592), .float .f64 y, .float .f64 (fdiv .f64 y 4643211215818981376), g18, g19, g20, g21, g22, g23, g24, g25, g26, g27, g28, g29, g30, g31, g32, g33, g34, g35, undef]
theorem spec_l01ExpWide_r2 (g18 : Value) (g19 : Value) (g20 : Value) (g21 : Value) (g22 : Value) (g23 : Value) (g24 : Value) (g25 : Value) (g26 : Value) (g27 : Value) (g28 : Value) (k : Int) (y : Nat) (p_4 : Nat) (k_6 : Int) (g29 g30 g31 g32 g33 g34 g35 : Value) (H : AHeap) (R : Post) : exK Try.prog E_spec_l01ExpWide (cl (cl (cr (cl (cr (cr (cr (cr (cr (cr (cr (bodyC Try.f153)))))))))))) (spec_l01ExpWide_P2 g18 g19 g20 g21 g22 g23 g24 g25 g26 g27 g28 k y p_4 k_6 g29 g30 g31 g32 g33 g34 g35) H R =
  (Br (decide ((k_6 : Int) < 8)) (R .normal [.float .f64 y, undef, .float .f64 0, .float .f64 (fdiv .f64 y 4643211215818981376), .float .f64 (fmul .f64 p_4 p_4), .int .i64 k, .int .i64 (IntKind.wrap .i64 (k_6 + 1)), .float .f64 y, .float .f64 y, .bool (!(feq .f64 y y)), undef, .float .f64 y, .bool (flt .f64 4641240890982006784 y), undef, .float .f64 y, .bool (flt .f64 y 13864612927836782592), .float .f64 y, .float .f64 (fdiv .f64 y 4643211215818981376), g18, g19, g20, g21, g22, g23, g24, g25, g26, g27, g28, .int .i64 k_6, .bool (decide ((k_6 : Int) < 8)), .int .i64 k_6, .int .i64 (IntKind.wrap .i64 (k_6 + 1)), .float .f64 p_4, .float .f64 p_4, .float .f64 (fmul .f64 p_4 p_4), undef] H) (R (.exit 2) [.float .f64 y, undef, .float .f64 0, .float .f64 (fdiv .f64 y 4643211215818981376), .float .f64 p_4, .int .i64 k, .int .i64 k_6, .float .f64 y, .float .f64 y, .bool (!(feq .f64 y y)), undef, .float .f64 y, .bool (flt .f64 4641240890982006784 y), undef, .float .f64 y, .bool (flt .f64 y 13864612927836782592), .float .f64 y, .float .f64 (fdiv .f64 y 4643211215818981376), g18, g19, g20, g21, g22, g23, g24, g25, g26, g27, g28, .int .i64 k_6, .bool (decide ((k_6 : Int) < 8)), g31, g32, g33, g34, g35, undef] H)) := by kernel_rfl
def spec_l01ExpWide_I2 (g18 : Value) (g19 : Value) (g20 : Value) (g21 : Value) (g22 : Value) (g23 : Value) (g24 : Value) (g25 : Value) (g26 : Value) (g27 : Value) (g28 : Value) (k : Int) (y : Nat) (Inv : Nat → Nat → Int → AHeap → Prop) : Nat → List Value → AHeap → Prop := fun μ tm H => ∃ (p_4 : Nat), ∃ (k_6 : Int), ∃ g29 g30 g31 g32 g33 g34 g35, tm = (spec_l01ExpWide_P2 g18 g19 g20 g21 g22 g23 g24 g25 g26 g27 g28 k y p_4 k_6 g29 g30 g31 g32 g33 g34 g35) ∧ Inv μ p_4 k_6 H
theorem spec_l01ExpWide_L2 (g18 : Value) (g19 : Value) (g20 : Value) (g21 : Value) (g22 : Value) (g23 : Value) (g24 : Value) (g25 : Value) (g26 : Value) (g27 : Value) (g28 : Value) (k : Int) (y : Nat) {Q : Post} (Inv : Nat → Nat → Int → AHeap → Prop) (ν : Nat) (p_4 : Nat) (k_6 : Int) (g29 g30 g31 g32 g33 g34 g35 : Value) (H : AHeap) (h0 : Inv ν p_4 k_6 H)
    (hs : ∀ (μ : Nat) (p_4 : Nat) (k_6 : Int) (g29 g30 g31 g32 g33 g34 g35 : Value) (H : AHeap), Inv μ p_4 k_6 H → exK Try.prog E_spec_l01ExpWide (cl (cl (cr (cl (cr (cr (cr (cr (cr (cr (cr (bodyC Try.f153)))))))))))) (spec_l01ExpWide_P2 g18 g19 g20 g21 g22 g23 g24 g25 g26 g27 g28 k y p_4 k_6 g29 g30 g31 g32 g33 g34 g35) H (loopQ (spec_l01ExpWide_I2 g18 g19 g20 g21 g22 g23 g24 g25 g26 g27 g28 k y Inv) μ Q)) : loopK (exK Try.prog E_spec_l01ExpWide (cl (cl (cr (cl (cr (cr (cr (cr (cr (cr (cr (bodyC Try.f153))))))))))))) (spec_l01ExpWide_P2 g18 g19 g20 g21 g22 g23 g24 g25 g26 g27 g28 k y p_4 k_6 g29 g30 g31 g32 g33 g34 g35) H Q :=
  ⟨spec_l01ExpWide_I2 g18 g19 g20 g21 g22 g23 g24 g25 g26 g27 g28 k y Inv, ν, ⟨p_4, k_6, g29, g30, g31, g32, g33, g34, g35, rfl, h0⟩, fun μ tm H h => by obtain ⟨p_4, k_6, g29, g30, g31, g32, g33, g34, g35, rfl, hI⟩ := h; exact hs μ p_4 k_6 g29 g30 g31 g32 g33 g34 g35 H hI⟩
theorem spec_l01ExpWide_n2 {g18 : Value} {g19 : Value} {g20 : Value} {g21 : Value} {g22 : Value} {g23 : Value} {g24 : Value} {g25 : Value} {g26 : Value} {g27 : Value} {g28 : Value} {k : Int} {y : Nat} {Q : Post} {Inv : Nat → Nat → Int → AHeap → Prop} {μ : Nat} (μ' : Nat) {p_4 : Nat} {k_6 : Int} {g29 g30 g31 g32 g33 g34 g35 : Value} {H : AHeap} (hm : μ' < μ) (hI : Inv μ' p_4 k_6 H) : loopQ (spec_l01ExpWide_I2 g18 g19 g20 g21 g22 g23 g24 g25 g26 g27 g28 k y Inv) μ Q .normal (spec_l01ExpWide_P2 g18 g19 g20 g21 g22 g23 g24 g25 g26 g27 g28 k y p_4 k_6 g29 g30 g31 g32 g33 g34 g35) H := ⟨μ', hm, p_4, k_6, g29, g30, g31, g32, g33, g34, g35, rfl, hI⟩
theorem spec_l01ExpWide_x2_2 (g18 : Value) (g19 : Value) (g20 : Value) (g21 : Value) (g22 : Value) (g23 : Value) (g24 : Value) (g25 : Value) (g26 : Value) (g27 : Value) (g28 : Value) (k : Int) (y : Nat) (p_4 : Nat) (k_6 : Int) (g29 g30 g31 g32 g33 g34 g35 : Value) (H : AHeap) (K : Value → AHeap → Prop)  {I : Nat → List Value → AHeap → Prop} {μ : Nat} : loopQ I μ (blockQ 2 (seqQ (exK Try.prog E_spec_l01ExpWide (cr (cr (cr (cr (cr (cr (cr (cr (bodyC Try.f153)))))))))) (retK Try.prog Try.f153 K))) (.exit 2) (spec_l01ExpWide_P2 g18 g19 g20 g21 g22 g23 g24 g25 g26 g27 g28 k y p_4 k_6 g29 g30 g31 g32 g33 g34 g35) H =
  (K (.float .f64 p_4) H) := by kernel_rfl
theorem E_spec_l01ExpWide_ok : ∀ g, FnOk Try.prog g (E_spec_l01ExpWide g) := FnOk.envOf (by
  intro x hx
  simp only [List.mem_cons, List.not_mem_nil, or_false] at hx
  subst hx; exact math_Inf_ok)
set_option maxHeartbeats 1000000 in
theorem spec_l01ExpWide_main (y : Nat) (H : AHeap) (K : Value → AHeap → Prop) (h : T_spec_l01ExpWide y H fun (r1 : Nat) (H' : AHeap) => K (.float .f64 r1) H') : bodyK Try.prog E_spec_l01ExpWide Try.f153 [.float .f64 y] H K := by
  rw [spec_l01ExpWide_vc]
  have hk := h
  unfold T_spec_l01ExpWide at hk
  have e : (p_spec_l01ExpWide y) = _ := rfl
  have e := e.trans (p_spec_l01ExpWide_eq y)
  have g0 := Grow.refl H
  refine Br.intro (fun c_1 => ?_) (fun c_1 => ?_)
  · have e := e.trans (cond_t c_1)
    have c_1n := nf_of_t c_1
    rw [e] at hk
    exact hk
  · have e := e.trans (cond_f c_1)
    have c_1n := nt_of_f c_1
    refine Br.intro (fun c_2 => ?_) (fun c_2 => ?_)
    · have e := e.trans (cond_t c_2)
      refine T_math_Inf_i ?_
      rw [e] at hk
      exact hk
    · have e := e.trans (cond_f c_2)
      refine Br.intro (fun c_3 => ?_) (fun c_3 => ?_)
      · have e := e.trans (cond_t c_3)
        rw [e] at hk
        exact hk
      · have e := e.trans (cond_f c_3)
        refine spec_l01ExpWide_L1 _ (fun (μ : Nat) (p : Nat) (k : Int) (H_1 : AHeap) => H = H_1 ∧ k ≤ (12 : Int) ∧ k - 1 + 1 ≤ (μ : Int) ∧ p_spec_l01ExpWide y = p_spec_l01ExpWide_l1 y (μ + 1) p k) (Int.toNat ((12 : Int) - 1 + 1)) _ _ _ _ _ _ _ _ _ _ _ _ _ H ?_ ?_
        · exact ⟨rfl, o5, o4, e⟩
        · intro μ p k g18 g19 g20 g21 g22 g23 g24 g25 g26 g27 g28 H_1 hI
          obtain ⟨rfl, v_4, hμ, e⟩ := hI
          rw [spec_l01ExpWide_r1]
          have e := e.trans (p_spec_l01ExpWide_l1_s y μ p k)
          have l_5 := g0.1
          refine Br.intro (fun c_6 => ?_) (fun c_6 => ?_)
          · have e := e.trans (cond_t c_6)
            have c_6' := of_decide_eq_true c_6
            rw [show IntKind.wrap .i64 (k - 1) = (k - 1) from wrap64 o4 o4]
            refine spec_l01ExpWide_n1 (μ - 1) o12 ⟨rfl, o1, o12, (by rw [show μ - 1 + 1 = μ from by first | omega]; exact e)⟩
          · have e := e.trans (cond_f c_6)
            have c_6' := of_decide_eq_false c_6
            rw [spec_l01ExpWide_x1_0]
            refine spec_l01ExpWide_L2 _ _ _ _ _ _ _ _ _ _ _ _ _ (fun (μ2 : Nat) (p_4 : Nat) (k_6 : Int) (H_2 : AHeap) => H = H_2 ∧ (0 : Int) ≤ k_6 ∧ ((k_6 ≤ 8 ∨ k_6 ≤ (0 : Int))) ∧ 8 - k_6 ≤ (μ2 : Int) ∧ p_spec_l01ExpWide y = p_spec_l01ExpWide_l2 y p k (fun (p_4 : Nat) (k_6 : Int) => p_4) (μ2 + 1) p_4 k_6) (Int.toNat (8 - (0 : Int))) _ _ _ _ _ _ _ _ _ H ?_ ?_
            · exact ⟨rfl, o5, o5, o4, e⟩
            · intro μ2 p_4 k_6 g29 g30 g31 g32 g33 g34 g35 H_2 hI
              obtain ⟨rfl, v_7, v_8, hμ, e⟩ := hI
              rw [spec_l01ExpWide_r2]
              have e := e.trans (p_spec_l01ExpWide_l2_s y p k (fun (p_4 : Nat) (k_6 : Int) => p_4) μ2 p_4 k_6)
              have l_9 := g0.1
              refine Br.intro (fun c_10 => ?_) (fun c_10 => ?_)
              · have e := e.trans (cond_t c_10)
                have c_10' := of_decide_eq_true c_10
                rw [show IntKind.wrap .i64 (k_6 + 1) = (k_6 + 1) from wrap64 o4 o4]
                refine spec_l01ExpWide_n2 (μ2 - 1) o12 ⟨rfl, o1, o1, o12, (by rw [show μ2 - 1 + 1 = μ2 from by first | omega]; exact e)⟩
              · have e := e.trans (cond_f c_10)
                have c_10' := of_decide_eq_false c_10
                rw [spec_l01ExpWide_x2_2]
                rw [e] at hk
                exact hk
theorem spec_l01ExpWide_ok : FnOk Try.prog 153 S_spec_l01ExpWide := by
  refine FnOk.body mix_ok E_spec_l01ExpWide_ok Try.func153 rfl (by kernel_rfl) (by kernel_rfl) ?_ ?_ ?_ ?_ ?_
  · intro args H K K' h hk
    simp only [S_spec_l01ExpWide] at *
    unfold F_spec_l01ExpWide at *
    split at hk
    · have k := hk
      exact h _ _ k
    · exact hk.elim
  · intro _ args H K hk
    simp only [S_spec_l01ExpWide] at *
    unfold F_spec_l01ExpWide at *
    split at hk
    · have k := hk
      exact ⟨_, k, fun K' k' => k'⟩
    · exact hk.elim
  · intro args H K hk
    simp only [S_spec_l01ExpWide] at *
    unfold F_spec_l01ExpWide at *
    split at hk
    · have k := hk
      exact ⟨_, _, k⟩
    · exact hk.elim
  · intro hq; cases hq
  · have mm := @spec_l01ExpWide_main
    revert mm
    generalize bodyK Try.prog E_spec_l01ExpWide Try.f153 = Q
    intro mm args H K hk
    simp only [S_spec_l01ExpWide] at *
    unfold F_spec_l01ExpWide at *
    split at hk
    · exact mm _ H K hk
    · exact hk.elim

def p_spec_l01Narrow (x : Nat) : Nat := ((fnarrow x).getD 0)
def p_spec_l01Narrow_eq := @p_spec_l01Narrow.eq_1
def T_spec_l01Narrow (x : Nat) (H : AHeap) (K : Nat → AHeap → Prop) : Prop := fnarrow x ≠ none ∧ K (p_spec_l01Narrow x) H
theorem T_spec_l01Narrow_i {x : Nat} {H : AHeap} {K : Nat → AHeap → Prop} (h : fnarrow x ≠ none ∧ K (p_spec_l01Narrow x) H) : T_spec_l01Narrow x H K := h

/-! spec_l01Narrow: function 112 -/
def E_spec_l01Narrow : Env := envOf []
def F_spec_l01Narrow : List Value → AHeap → (Value → AHeap → Prop) → Prop
  | [.float .f64 x], H, K => T_spec_l01Narrow x H fun (r1 : Nat) (H' : AHeap) => K (.float .f32 r1) H'
  | _, _, _ => False
def S_spec_l01Narrow : FSpec := { F := F_spec_l01Narrow, quiet := true, tame := false }
theorem spec_l01Narrow_vc (x : Nat) (H : AHeap) (K : Value → AHeap → Prop) : bodyK Try.prog E_spec_l01Narrow Try.f112 [.float .f64 x] H K =
  (∃ x1 : Nat, fnarrow x = some x1 ∧ K (.float .f32 x1) H) := by kernel_rfl
theorem E_spec_l01Narrow_ok : ∀ g, FnOk Try.prog g (E_spec_l01Narrow g) := FnOk.envOf (by
  intro x hx; cases hx)
set_option maxHeartbeats 1000000 in
theorem spec_l01Narrow_main (x : Nat) (H : AHeap) (K : Value → AHeap → Prop) (h : T_spec_l01Narrow x H fun (r1 : Nat) (H' : AHeap) => K (.float .f32 r1) H') : bodyK Try.prog E_spec_l01Narrow Try.f112 [.float .f64 x] H K := by
  rw [spec_l01Narrow_vc]
  obtain ⟨pr0, hk⟩ := h
  have e : (p_spec_l01Narrow x) = _ := rfl
  have e := e.trans (p_spec_l01Narrow_eq x)
  have g0 := Grow.refl H
  refine ⟨_, opt_get (d := 0) (by assumption), ?_⟩
  rw [e] at hk
  exact hk
theorem spec_l01Narrow_ok : FnOk Try.prog 112 S_spec_l01Narrow := by
  refine FnOk.body mix_ok E_spec_l01Narrow_ok Try.func112 rfl (by kernel_rfl) (by kernel_rfl) ?_ ?_ ?_ ?_ ?_
  · intro args H K K' h hk
    simp only [S_spec_l01Narrow] at *
    unfold F_spec_l01Narrow at *
    split at hk
    · obtain ⟨pr0, k⟩ := hk
      exact ⟨pr0, h _ _ k⟩
    · exact hk.elim
  · intro _ args H K hk
    simp only [S_spec_l01Narrow] at *
    unfold F_spec_l01Narrow at *
    split at hk
    · obtain ⟨pr0, k⟩ := hk
      exact ⟨_, k, fun K' k' => ⟨pr0, k'⟩⟩
    · exact hk.elim
  · intro args H K hk
    simp only [S_spec_l01Narrow] at *
    unfold F_spec_l01Narrow at *
    split at hk
    · obtain ⟨pr0, k⟩ := hk
      exact ⟨_, _, k⟩
    · exact hk.elim
  · intro hq; cases hq
  · have mm := @spec_l01Narrow_main
    revert mm
    generalize bodyK Try.prog E_spec_l01Narrow Try.f112 = Q
    intro mm args H K hk
    simp only [S_spec_l01Narrow] at *
    unfold F_spec_l01Narrow at *
    split at hk
    · exact mm _ H K hk
    · exact hk.elim

def p_spec_l01Exp (x : Nat) : Nat := (p_spec_l01Narrow ((p_spec_l01ExpWide (fwide x))))
def p_spec_l01Exp_eq := @p_spec_l01Exp.eq_1
def T_spec_l01Exp (x : Nat) (H : AHeap) (K : Nat → AHeap → Prop) : Prop := fnarrow (p_spec_l01ExpWide (fwide x)) ≠ none ∧ K (p_spec_l01Exp x) H
theorem T_spec_l01Exp_i {x : Nat} {H : AHeap} {K : Nat → AHeap → Prop} (h : fnarrow (p_spec_l01ExpWide (fwide x)) ≠ none ∧ K (p_spec_l01Exp x) H) : T_spec_l01Exp x H K := h

/-! spec_l01Exp: function 109 -/
def E_spec_l01Exp : Env := envOf [(153, S_spec_l01ExpWide), (112, S_spec_l01Narrow)]
def F_spec_l01Exp : List Value → AHeap → (Value → AHeap → Prop) → Prop
  | [.float .f32 x], H, K => T_spec_l01Exp x H fun (r1 : Nat) (H' : AHeap) => K (.float .f32 r1) H'
  | _, _, _ => False
def S_spec_l01Exp : FSpec := { F := F_spec_l01Exp, quiet := true, tame := false }
theorem spec_l01Exp_vc (x : Nat) (H : AHeap) (K : Value → AHeap → Prop) : bodyK Try.prog E_spec_l01Exp Try.f109 [.float .f32 x] H K =
  (T_spec_l01ExpWide (fwide x) H fun (r1 : Nat) (H1 : AHeap) => T_spec_l01Narrow r1 H1 fun (r2 : Nat) (H2 : AHeap) => K (.float .f32 r2) H2) := by kernel_rfl
theorem E_spec_l01Exp_ok : ∀ g, FnOk Try.prog g (E_spec_l01Exp g) := FnOk.envOf (by
  intro x hx
  simp only [List.mem_cons, List.not_mem_nil, or_false] at hx
  rcases hx with rfl | rfl
  · exact spec_l01ExpWide_ok
  · exact spec_l01Narrow_ok)
theorem o18 {P : Prop} (h : P := by first | assumption | omega | (simp; omega)) : P := h
set_option maxHeartbeats 1000000 in
theorem spec_l01Exp_main (x : Nat) (H : AHeap) (K : Value → AHeap → Prop) (h : T_spec_l01Exp x H fun (r1 : Nat) (H' : AHeap) => K (.float .f32 r1) H') : bodyK Try.prog E_spec_l01Exp Try.f109 [.float .f32 x] H K := by
  rw [spec_l01Exp_vc]
  obtain ⟨pr0, hk⟩ := h
  have e : (p_spec_l01Exp x) = _ := rfl
  have e := e.trans (p_spec_l01Exp_eq x)
  have g0 := Grow.refl H
  refine T_spec_l01ExpWide_i ?_
  refine T_spec_l01Narrow_i ⟨o18, ?_⟩
  rw [e] at hk
  exact hk
theorem spec_l01Exp_ok : FnOk Try.prog 109 S_spec_l01Exp := by
  refine FnOk.body mix_ok E_spec_l01Exp_ok Try.func109 rfl (by kernel_rfl) (by kernel_rfl) ?_ ?_ ?_ ?_ ?_
  · intro args H K K' h hk
    simp only [S_spec_l01Exp] at *
    unfold F_spec_l01Exp at *
    split at hk
    · obtain ⟨pr0, k⟩ := hk
      exact ⟨pr0, h _ _ k⟩
    · exact hk.elim
  · intro _ args H K hk
    simp only [S_spec_l01Exp] at *
    unfold F_spec_l01Exp at *
    split at hk
    · obtain ⟨pr0, k⟩ := hk
      exact ⟨_, k, fun K' k' => ⟨pr0, k'⟩⟩
    · exact hk.elim
  · intro args H K hk
    simp only [S_spec_l01Exp] at *
    unfold F_spec_l01Exp at *
    split at hk
    · obtain ⟨pr0, k⟩ := hk
      exact ⟨_, _, k⟩
    · exact hk.elim
  · intro hq; cases hq
  · have mm := @spec_l01Exp_main
    revert mm
    generalize bodyK Try.prog E_spec_l01Exp Try.f109 = Q
    intro mm args H K hk
    simp only [S_spec_l01Exp] at *
    unfold F_spec_l01Exp at *
    split at hk
    · exact mm _ H K hk
    · exact hk.elim
def p_math_Float32frombits (x : Int) : Nat := cn .f32 x.toNat
def T_math_Float32frombits (x : Int) (H : AHeap) (K : Nat → AHeap → Prop) : Prop := K (p_math_Float32frombits x) H
theorem T_math_Float32frombits_i {x : Int} {H : AHeap} {K : Nat → AHeap → Prop} (h : K (p_math_Float32frombits x) H) : T_math_Float32frombits x H K := h
def F_math_Float32frombits : List Value → AHeap → (Value → AHeap → Prop) → Prop
  | [.int .u32 b], H, K => T_math_Float32frombits b H fun r1 H' => K (.float .f32 r1) H'
  | _, _, _ => False
def S_math_Float32frombits : FSpec := { F := F_math_Float32frombits, quiet := true }
theorem F_math_Float32frombits_o {args : List Value} {H : AHeap} {K : Value → AHeap → Prop} (h : S_math_Float32frombits.F args H K) : ∃ x, args = [.int .u32 x] ∧ K (.float .f32 (p_math_Float32frombits x)) H := by
  simp only [S_math_Float32frombits] at h
  unfold F_math_Float32frombits at h
  split at h
  · exact ⟨_, rfl, h⟩
  · exact h.elim
theorem math_Float32frombits_ok : FnOk Try.prog 183 S_math_Float32frombits := by
  refine FnOk.ext rfl ?_ ?_ ?_ ?_
  · intro args H K K' h hk
    obtain ⟨x, rfl, k⟩ := F_math_Float32frombits_o hk
    exact h _ _ k
  · intro _ args H K hk
    obtain ⟨x, rfl, k⟩ := F_math_Float32frombits_o hk
    exact ⟨_, k, fun K' k' => k'⟩
  · intro args H K hk
    obtain ⟨x, rfl, k⟩ := F_math_Float32frombits_o hk
    exact ⟨_, _, k⟩
  · intro ρ w args args' H K ha hk
    obtain ⟨x, rfl, k⟩ := F_math_Float32frombits_o hk
    obtain ⟨y, ys, rfl, h3, h4⟩ := ha.uncons
    obtain rfl := h4.unnil
    cases h3
    refine ⟨_, .float .f32 x.toNat, w, ?_, .refl w, .float .f32 _ _ rfl, k⟩
    have := run_callFunc_extern (e := Extern.MathFloatBits.float32frombits) Try.func183 (by kernel_rfl) (by kernel_rfl) (by kernel_rfl) (by kernel_rfl) #[.int .u32 x] w
    rw [this]; rfl

def p_spec_l01From (n : Int) : Nat := (p_math_Float32frombits (IntKind.wrap .u32 n))
def p_spec_l01From_eq := @p_spec_l01From.eq_1
def T_spec_l01From (n : Int) (H : AHeap) (K : Nat → AHeap → Prop) : Prop := K (p_spec_l01From n) H

theorem T_spec_l01From_i {n : Int} {H : AHeap} {K : Nat → AHeap → Prop} (h : K (p_spec_l01From n) H) : T_spec_l01From n H K := h
/-! spec_l01From: function 154 -/
def E_spec_l01From : Env := envOf [(183, S_math_Float32frombits)]
def F_spec_l01From : List Value → AHeap → (Value → AHeap → Prop) → Prop
  | [.int .i64 n], H, K => T_spec_l01From n H fun (r1 : Nat) (H' : AHeap) => K (.float .f32 r1) H'
  | _, _, _ => False
def S_spec_l01From : FSpec := { F := F_spec_l01From, quiet := true, tame := false }
theorem spec_l01From_vc (n : Int) (H : AHeap) (K : Value → AHeap → Prop) : bodyK Try.prog E_spec_l01From Try.f154 [.int .i64 n] H K =
  (T_math_Float32frombits (IntKind.wrap .u32 n) H fun (r1 : Nat) (H1 : AHeap) => K (.float .f32 r1) H1) := by kernel_rfl
theorem E_spec_l01From_ok : ∀ g, FnOk Try.prog g (E_spec_l01From g) := FnOk.envOf (by
  intro x hx
  simp only [List.mem_cons, List.not_mem_nil, or_false] at hx
  subst hx; exact math_Float32frombits_ok)
set_option maxHeartbeats 1000000 in
theorem spec_l01From_main (n : Int) (H : AHeap) (K : Value → AHeap → Prop) (h : T_spec_l01From n H fun (r1 : Nat) (H' : AHeap) => K (.float .f32 r1) H') : bodyK Try.prog E_spec_l01From Try.f154 [.int .i64 n] H K := by
  rw [spec_l01From_vc]
  simp only [T_math_Float32frombits]
  unfold T_spec_l01From p_spec_l01From at h
  repeat' (first | exact h | (exfalso; simp_all; done) | (refine ⟨by decide, ?_⟩) | (refine Br.intro (fun hb => ?_) (fun hb => ?_) <;> (try simp only [hb, cond_true, cond_false, Bool.not_true, Bool.not_false] at h)))
theorem spec_l01From_ok : FnOk Try.prog 154 S_spec_l01From := by
  refine FnOk.body mix_ok E_spec_l01From_ok Try.func154 rfl (by kernel_rfl) (by kernel_rfl) ?_ ?_ ?_ ?_ ?_
  · intro args H K K' h hk
    simp only [S_spec_l01From] at *
    unfold F_spec_l01From at *
    split at hk
    · have k := hk
      exact h _ _ k
    · exact hk.elim
  · intro _ args H K hk
    simp only [S_spec_l01From] at *
    unfold F_spec_l01From at *
    split at hk
    · have k := hk
      exact ⟨_, k, fun K' k' => k'⟩
    · exact hk.elim
  · intro args H K hk
    simp only [S_spec_l01From] at *
    unfold F_spec_l01From at *
    split at hk
    · have k := hk
      exact ⟨_, _, k⟩
    · exact hk.elim
  · intro hq; cases hq
  · have mm := @spec_l01From_main
    revert mm
    generalize bodyK Try.prog E_spec_l01From Try.f154 = Q
    intro mm args H K hk
    simp only [S_spec_l01From] at *
    unfold F_spec_l01From at *
    split at hk
    · exact mm _ H K hk
    · exact hk.elim
def p_math_NaN  : Nat := (p_math_Float64frombits 9221120237041090561)
def T_math_NaN  (H : AHeap) (K : Nat → AHeap → Prop) : Prop := K (p_math_NaN) H

theorem T_math_NaN_i  {H : AHeap} {K : Nat → AHeap → Prop} (h : K (p_math_NaN) H) : T_math_NaN  H K := h
/-! math_NaN: function 159 -/
def E_math_NaN : Env := envOf [(185, S_math_Float64frombits)]
def F_math_NaN : List Value → AHeap → (Value → AHeap → Prop) → Prop
  | [], H, K => T_math_NaN  H fun (r1 : Nat) (H' : AHeap) => K (.float .f64 r1) H'
  | _, _, _ => False
def S_math_NaN : FSpec := { F := F_math_NaN, quiet := true, tame := false }
theorem math_NaN_vc  (H : AHeap) (K : Value → AHeap → Prop) : bodyK Try.prog E_math_NaN Try.f159 [] H K =
  (T_math_Float64frombits 9221120237041090561 H fun (r1 : Nat) (H1 : AHeap) => K (.float .f64 r1) H1) := by kernel_rfl
theorem E_math_NaN_ok : ∀ g, FnOk Try.prog g (E_math_NaN g) := FnOk.envOf (by
  intro x hx
  simp only [List.mem_cons, List.not_mem_nil, or_false] at hx
  subst hx; exact math_Float64frombits_ok)
set_option maxHeartbeats 1000000 in
theorem math_NaN_main  (H : AHeap) (K : Value → AHeap → Prop) (h : T_math_NaN  H fun (r1 : Nat) (H' : AHeap) => K (.float .f64 r1) H') : bodyK Try.prog E_math_NaN Try.f159 [] H K := by
  rw [math_NaN_vc]
  simp only [T_math_Float64frombits]
  unfold T_math_NaN p_math_NaN at h
  repeat' (first | exact h | (exfalso; simp_all; done) | (refine ⟨by decide, ?_⟩) | (refine Br.intro (fun hb => ?_) (fun hb => ?_) <;> (try simp only [hb, cond_true, cond_false, Bool.not_true, Bool.not_false] at h)))
theorem math_NaN_ok : FnOk Try.prog 159 S_math_NaN := by
  refine FnOk.body mix_ok E_math_NaN_ok Try.func159 rfl (by kernel_rfl) (by kernel_rfl) ?_ ?_ ?_ ?_ ?_
  · intro args H K K' h hk
    simp only [S_math_NaN] at *
    unfold F_math_NaN at *
    split at hk
    · have k := hk
      exact h _ _ k
    · exact hk.elim
  · intro _ args H K hk
    simp only [S_math_NaN] at *
    unfold F_math_NaN at *
    split at hk
    · have k := hk
      exact ⟨_, k, fun K' k' => k'⟩
    · exact hk.elim
  · intro args H K hk
    simp only [S_math_NaN] at *
    unfold F_math_NaN at *
    split at hk
    · have k := hk
      exact ⟨_, _, k⟩
    · exact hk.elim
  · intro hq; cases hq
  · have mm := @math_NaN_main
    revert mm
    generalize bodyK Try.prog E_math_NaN Try.f159 = Q
    intro mm args H K hk
    simp only [S_math_NaN] at *
    unfold F_math_NaN at *
    split at hk
    · exact mm  H K hk
    · exact hk.elim

def p_spec_l01SineWide_l1 (y : Nat) : Nat → Nat → Int → Nat
  | 0, _, _ => 0
  | μ + 1, p, k => (bif decide ((1 : Int) ≤ k) then (p_spec_l01SineWide_l1 y μ (fsub .f64 4607182418800017408 (fdiv .f64 (fmul .f64 (fmul .f64 (fmul .f64 (fsub .f64 4602678819172646912 (fsub .f64 (fadd .f64 (fsub .f64 y (FloatKind.nearest .f64 (((ftoi .f64 y .i64).getD 0)))) 4607182418800017408) 4602678819172646912)) 4618760256179416344) (fmul .f64 (fsub .f64 4602678819172646912 (fsub .f64 (fadd .f64 (fsub .f64 y (FloatKind.nearest .f64 (((ftoi .f64 y .i64).getD 0)))) 4607182418800017408) 4602678819172646912)) 4618760256179416344)) p) (FloatKind.nearest .f64 (IntKind.wrap .i64 ((IntKind.wrap .i64 (2 * k)) * (IntKind.wrap .i64 ((IntKind.wrap .i64 (2 * k)) + 1))))))) (k - 1)) else (bif fle .f64 4602678819172646912 (fadd .f64 (fsub .f64 y (FloatKind.nearest .f64 (((ftoi .f64 y .i64).getD 0)))) 4607182418800017408) then fneg .f64 (fmul .f64 (fmul .f64 (fsub .f64 4602678819172646912 (fsub .f64 (fadd .f64 (fsub .f64 y (FloatKind.nearest .f64 (((ftoi .f64 y .i64).getD 0)))) 4607182418800017408) 4602678819172646912)) 4618760256179416344) p) else fmul .f64 (fmul .f64 (fsub .f64 4602678819172646912 (fsub .f64 (fadd .f64 (fsub .f64 y (FloatKind.nearest .f64 (((ftoi .f64 y .i64).getD 0)))) 4607182418800017408) 4602678819172646912)) 4618760256179416344) p))
def p_spec_l01SineWide_l1_s := fun y μ p k => @p_spec_l01SineWide_l1.eq_2 y p k μ
def p_spec_l01SineWide_l1b (y : Nat) : Nat → Nat → Int → Nat
  | 0, _, _ => 0
  | μ + 1, p, k => (bif decide ((1 : Int) ≤ k) then (p_spec_l01SineWide_l1b y μ (fsub .f64 4607182418800017408 (fdiv .f64 (fmul .f64 (fmul .f64 (fmul .f64 (fsub .f64 (fadd .f64 (fsub .f64 y (FloatKind.nearest .f64 (((ftoi .f64 y .i64).getD 0)))) 4607182418800017408) 4602678819172646912) 4618760256179416344) (fmul .f64 (fsub .f64 (fadd .f64 (fsub .f64 y (FloatKind.nearest .f64 (((ftoi .f64 y .i64).getD 0)))) 4607182418800017408) 4602678819172646912) 4618760256179416344)) p) (FloatKind.nearest .f64 (IntKind.wrap .i64 ((IntKind.wrap .i64 (2 * k)) * (IntKind.wrap .i64 ((IntKind.wrap .i64 (2 * k)) + 1))))))) (k - 1)) else (bif fle .f64 4602678819172646912 (fadd .f64 (fsub .f64 y (FloatKind.nearest .f64 (((ftoi .f64 y .i64).getD 0)))) 4607182418800017408) then fneg .f64 (fmul .f64 (fmul .f64 (fsub .f64 (fadd .f64 (fsub .f64 y (FloatKind.nearest .f64 (((ftoi .f64 y .i64).getD 0)))) 4607182418800017408) 4602678819172646912) 4618760256179416344) p) else fmul .f64 (fmul .f64 (fsub .f64 (fadd .f64 (fsub .f64 y (FloatKind.nearest .f64 (((ftoi .f64 y .i64).getD 0)))) 4607182418800017408) 4602678819172646912) 4618760256179416344) p))
def p_spec_l01SineWide_l1b_s := fun y μ p k => @p_spec_l01SineWide_l1b.eq_2 y p k μ
def p_spec_l01SineWide_l1c (y : Nat) : Nat → Nat → Int → Nat
  | 0, _, _ => 0
  | μ + 1, p, k => (bif decide ((1 : Int) ≤ k) then (p_spec_l01SineWide_l1c y μ (fsub .f64 4607182418800017408 (fdiv .f64 (fmul .f64 (fmul .f64 (fmul .f64 (fsub .f64 4602678819172646912 (fadd .f64 (fsub .f64 y (FloatKind.nearest .f64 (((ftoi .f64 y .i64).getD 0)))) 4607182418800017408)) 4618760256179416344) (fmul .f64 (fsub .f64 4602678819172646912 (fadd .f64 (fsub .f64 y (FloatKind.nearest .f64 (((ftoi .f64 y .i64).getD 0)))) 4607182418800017408)) 4618760256179416344)) p) (FloatKind.nearest .f64 (IntKind.wrap .i64 ((IntKind.wrap .i64 (2 * k)) * (IntKind.wrap .i64 ((IntKind.wrap .i64 (2 * k)) + 1))))))) (k - 1)) else (bif fle .f64 4602678819172646912 (fadd .f64 (fsub .f64 y (FloatKind.nearest .f64 (((ftoi .f64 y .i64).getD 0)))) 4607182418800017408) then fneg .f64 (fmul .f64 (fmul .f64 (fsub .f64 4602678819172646912 (fadd .f64 (fsub .f64 y (FloatKind.nearest .f64 (((ftoi .f64 y .i64).getD 0)))) 4607182418800017408)) 4618760256179416344) p) else fmul .f64 (fmul .f64 (fsub .f64 4602678819172646912 (fadd .f64 (fsub .f64 y (FloatKind.nearest .f64 (((ftoi .f64 y .i64).getD 0)))) 4607182418800017408)) 4618760256179416344) p))
def p_spec_l01SineWide_l1c_s := fun y μ p k => @p_spec_l01SineWide_l1c.eq_2 y p k μ
def p_spec_l01SineWide_l1d (y : Nat) : Nat → Nat → Int → Nat
  | 0, _, _ => 0
  | μ + 1, p, k => (bif decide ((1 : Int) ≤ k) then (p_spec_l01SineWide_l1d y μ (fsub .f64 4607182418800017408 (fdiv .f64 (fmul .f64 (fmul .f64 (fmul .f64 (fadd .f64 (fsub .f64 y (FloatKind.nearest .f64 (((ftoi .f64 y .i64).getD 0)))) 4607182418800017408) 4618760256179416344) (fmul .f64 (fadd .f64 (fsub .f64 y (FloatKind.nearest .f64 (((ftoi .f64 y .i64).getD 0)))) 4607182418800017408) 4618760256179416344)) p) (FloatKind.nearest .f64 (IntKind.wrap .i64 ((IntKind.wrap .i64 (2 * k)) * (IntKind.wrap .i64 ((IntKind.wrap .i64 (2 * k)) + 1))))))) (k - 1)) else (bif fle .f64 4602678819172646912 (fadd .f64 (fsub .f64 y (FloatKind.nearest .f64 (((ftoi .f64 y .i64).getD 0)))) 4607182418800017408) then fneg .f64 (fmul .f64 (fmul .f64 (fadd .f64 (fsub .f64 y (FloatKind.nearest .f64 (((ftoi .f64 y .i64).getD 0)))) 4607182418800017408) 4618760256179416344) p) else fmul .f64 (fmul .f64 (fadd .f64 (fsub .f64 y (FloatKind.nearest .f64 (((ftoi .f64 y .i64).getD 0)))) 4607182418800017408) 4618760256179416344) p))
def p_spec_l01SineWide_l1d_s := fun y μ p k => @p_spec_l01SineWide_l1d.eq_2 y p k μ
def p_spec_l01SineWide_l1e (y : Nat) : Nat → Nat → Int → Nat
  | 0, _, _ => 0
  | μ + 1, p, k => (bif decide ((1 : Int) ≤ k) then (p_spec_l01SineWide_l1e y μ (fsub .f64 4607182418800017408 (fdiv .f64 (fmul .f64 (fmul .f64 (fmul .f64 (fsub .f64 4602678819172646912 (fsub .f64 (fsub .f64 y (FloatKind.nearest .f64 (((ftoi .f64 y .i64).getD 0)))) 4602678819172646912)) 4618760256179416344) (fmul .f64 (fsub .f64 4602678819172646912 (fsub .f64 (fsub .f64 y (FloatKind.nearest .f64 (((ftoi .f64 y .i64).getD 0)))) 4602678819172646912)) 4618760256179416344)) p) (FloatKind.nearest .f64 (IntKind.wrap .i64 ((IntKind.wrap .i64 (2 * k)) * (IntKind.wrap .i64 ((IntKind.wrap .i64 (2 * k)) + 1))))))) (k - 1)) else (bif fle .f64 4602678819172646912 (fsub .f64 y (FloatKind.nearest .f64 (((ftoi .f64 y .i64).getD 0)))) then fneg .f64 (fmul .f64 (fmul .f64 (fsub .f64 4602678819172646912 (fsub .f64 (fsub .f64 y (FloatKind.nearest .f64 (((ftoi .f64 y .i64).getD 0)))) 4602678819172646912)) 4618760256179416344) p) else fmul .f64 (fmul .f64 (fsub .f64 4602678819172646912 (fsub .f64 (fsub .f64 y (FloatKind.nearest .f64 (((ftoi .f64 y .i64).getD 0)))) 4602678819172646912)) 4618760256179416344) p))
def p_spec_l01SineWide_l1e_s := fun y μ p k => @p_spec_l01SineWide_l1e.eq_2 y p k μ
def p_spec_l01SineWide_l1f (y : Nat) : Nat → Nat → Int → Nat
  | 0, _, _ => 0
  | μ + 1, p, k => (bif decide ((1 : Int) ≤ k) then (p_spec_l01SineWide_l1f y μ (fsub .f64 4607182418800017408 (fdiv .f64 (fmul .f64 (fmul .f64 (fmul .f64 (fsub .f64 (fsub .f64 y (FloatKind.nearest .f64 (((ftoi .f64 y .i64).getD 0)))) 4602678819172646912) 4618760256179416344) (fmul .f64 (fsub .f64 (fsub .f64 y (FloatKind.nearest .f64 (((ftoi .f64 y .i64).getD 0)))) 4602678819172646912) 4618760256179416344)) p) (FloatKind.nearest .f64 (IntKind.wrap .i64 ((IntKind.wrap .i64 (2 * k)) * (IntKind.wrap .i64 ((IntKind.wrap .i64 (2 * k)) + 1))))))) (k - 1)) else (bif fle .f64 4602678819172646912 (fsub .f64 y (FloatKind.nearest .f64 (((ftoi .f64 y .i64).getD 0)))) then fneg .f64 (fmul .f64 (fmul .f64 (fsub .f64 (fsub .f64 y (FloatKind.nearest .f64 (((ftoi .f64 y .i64).getD 0)))) 4602678819172646912) 4618760256179416344) p) else fmul .f64 (fmul .f64 (fsub .f64 (fsub .f64 y (FloatKind.nearest .f64 (((ftoi .f64 y .i64).getD 0)))) 4602678819172646912) 4618760256179416344) p))
def p_spec_l01SineWide_l1f_s := fun y μ p k => @p_spec_l01SineWide_l1f.eq_2 y p k μ
def p_spec_l01SineWide_l1g (y : Nat) : Nat → Nat → Int → Nat
  | 0, _, _ => 0
  | μ + 1, p, k => (bif decide ((1 : Int) ≤ k) then (p_spec_l01SineWide_l1g y μ (fsub .f64 4607182418800017408 (fdiv .f64 (fmul .f64 (fmul .f64 (fmul .f64 (fsub .f64 4602678819172646912 (fsub .f64 y (FloatKind.nearest .f64 (((ftoi .f64 y .i64).getD 0))))) 4618760256179416344) (fmul .f64 (fsub .f64 4602678819172646912 (fsub .f64 y (FloatKind.nearest .f64 (((ftoi .f64 y .i64).getD 0))))) 4618760256179416344)) p) (FloatKind.nearest .f64 (IntKind.wrap .i64 ((IntKind.wrap .i64 (2 * k)) * (IntKind.wrap .i64 ((IntKind.wrap .i64 (2 * k)) + 1))))))) (k - 1)) else (bif fle .f64 4602678819172646912 (fsub .f64 y (FloatKind.nearest .f64 (((ftoi .f64 y .i64).getD 0)))) then fneg .f64 (fmul .f64 (fmul .f64 (fsub .f64 4602678819172646912 (fsub .f64 y (FloatKind.nearest .f64 (((ftoi .f64 y .i64).getD 0))))) 4618760256179416344) p) else fmul .f64 (fmul .f64 (fsub .f64 4602678819172646912 (fsub .f64 y (FloatKind.nearest .f64 (((ftoi .f64 y .i64).getD 0))))) 4618760256179416344) p))
def p_spec_l01SineWide_l1g_s := fun y μ p k => @p_spec_l01SineWide_l1g.eq_2 y p k μ
def p_spec_l01SineWide_l1h (y : Nat) : Nat → Nat → Int → Nat
  | 0, _, _ => 0
  | μ + 1, p, k => (bif decide ((1 : Int) ≤ k) then (p_spec_l01SineWide_l1h y μ (fsub .f64 4607182418800017408 (fdiv .f64 (fmul .f64 (fmul .f64 (fmul .f64 (fsub .f64 y (FloatKind.nearest .f64 (((ftoi .f64 y .i64).getD 0)))) 4618760256179416344) (fmul .f64 (fsub .f64 y (FloatKind.nearest .f64 (((ftoi .f64 y .i64).getD 0)))) 4618760256179416344)) p) (FloatKind.nearest .f64 (IntKind.wrap .i64 ((IntKind.wrap .i64 (2 * k)) * (IntKind.wrap .i64 ((IntKind.wrap .i64 (2 * k)) + 1))))))) (k - 1)) else (bif fle .f64 4602678819172646912 (fsub .f64 y (FloatKind.nearest .f64 (((ftoi .f64 y .i64).getD 0)))) then fneg .f64 (fmul .f64 (fmul .f64 (fsub .f64 y (FloatKind.nearest .f64 (((ftoi .f64 y .i64).getD 0)))) 4618760256179416344) p) else fmul .f64 (fmul .f64 (fsub .f64 y (FloatKind.nearest .f64 (((ftoi .f64 y .i64).getD 0)))) 4618760256179416344) p))
def p_spec_l01SineWide_l1h_s := fun y μ p k => @p_spec_l01SineWide_l1h.eq_2 y p k μ
def p_spec_l01SineWide (y : Nat) : Nat := (bif !(feq .f64 (fsub .f64 y y) 0) then p_math_NaN else (bif fle .f64 4841369599423283200 y then 0 else (bif fle .f64 y 14064741636278059008 then 0 else (bif flt .f64 (fsub .f64 y (FloatKind.nearest .f64 (((ftoi .f64 y .i64).getD 0)))) 0 then (bif fle .f64 4602678819172646912 (fadd .f64 (fsub .f64 y (FloatKind.nearest .f64 (((ftoi .f64 y .i64).getD 0)))) 4607182418800017408) then (bif flt .f64 4598175219545276416 (fsub .f64 (fadd .f64 (fsub .f64 y (FloatKind.nearest .f64 (((ftoi .f64 y .i64).getD 0)))) 4607182418800017408) 4602678819172646912) then (p_spec_l01SineWide_l1 y (Int.toNat ((8 : Int) - 1 + 1) + 1) 4607182418800017408 (8 : Int)) else (p_spec_l01SineWide_l1b y (Int.toNat ((8 : Int) - 1 + 1) + 1) 4607182418800017408 (8 : Int))) else (bif flt .f64 4598175219545276416 (fadd .f64 (fsub .f64 y (FloatKind.nearest .f64 (((ftoi .f64 y .i64).getD 0)))) 4607182418800017408) then (p_spec_l01SineWide_l1c y (Int.toNat ((8 : Int) - 1 + 1) + 1) 4607182418800017408 (8 : Int)) else (p_spec_l01SineWide_l1d y (Int.toNat ((8 : Int) - 1 + 1) + 1) 4607182418800017408 (8 : Int)))) else (bif fle .f64 4602678819172646912 (fsub .f64 y (FloatKind.nearest .f64 (((ftoi .f64 y .i64).getD 0)))) then (bif flt .f64 4598175219545276416 (fsub .f64 (fsub .f64 y (FloatKind.nearest .f64 (((ftoi .f64 y .i64).getD 0)))) 4602678819172646912) then (p_spec_l01SineWide_l1e y (Int.toNat ((8 : Int) - 1 + 1) + 1) 4607182418800017408 (8 : Int)) else (p_spec_l01SineWide_l1f y (Int.toNat ((8 : Int) - 1 + 1) + 1) 4607182418800017408 (8 : Int))) else (bif flt .f64 4598175219545276416 (fsub .f64 y (FloatKind.nearest .f64 (((ftoi .f64 y .i64).getD 0)))) then (p_spec_l01SineWide_l1g y (Int.toNat ((8 : Int) - 1 + 1) + 1) 4607182418800017408 (8 : Int)) else (p_spec_l01SineWide_l1h y (Int.toNat ((8 : Int) - 1 + 1) + 1) 4607182418800017408 (8 : Int))))))))
def p_spec_l01SineWide_eq := @p_spec_l01SineWide.eq_1
def T_spec_l01SineWide (y : Nat) (H : AHeap) (K : Nat → AHeap → Prop) : Prop := K (p_spec_l01SineWide y) H
theorem T_spec_l01SineWide_i {y : Nat} {H : AHeap} {K : Nat → AHeap → Prop} (h : K (p_spec_l01SineWide y) H) : T_spec_l01SineWide y H K := h
theorem spec_sine_l1_eq (y : Nat) : ∀ (μ p : Nat) (k : Int), p_spec_l01SineWide_l1 y μ p k = sinS (fmul .f64 (fsub .f64 4602678819172646912 (fsub .f64 (fadd .f64 (fsub .f64 y (FloatKind.nearest .f64 (((ftoi .f64 y .i64).getD 0)))) 4607182418800017408) 4602678819172646912)) 4618760256179416344) (fle .f64 4602678819172646912 (fadd .f64 (fsub .f64 y (FloatKind.nearest .f64 (((ftoi .f64 y .i64).getD 0)))) 4607182418800017408)) μ p k := by
  intro μ; induction μ with
  | zero => intro p k; rfl
  | succ μ ih => intro p k; rw [p_spec_l01SineWide_l1_s, sinS, ih]
theorem spec_sine_l1b_eq (y : Nat) : ∀ (μ p : Nat) (k : Int), p_spec_l01SineWide_l1b y μ p k = sinS (fmul .f64 (fsub .f64 (fadd .f64 (fsub .f64 y (FloatKind.nearest .f64 (((ftoi .f64 y .i64).getD 0)))) 4607182418800017408) 4602678819172646912) 4618760256179416344) (fle .f64 4602678819172646912 (fadd .f64 (fsub .f64 y (FloatKind.nearest .f64 (((ftoi .f64 y .i64).getD 0)))) 4607182418800017408)) μ p k := by
  intro μ; induction μ with
  | zero => intro p k; rfl
  | succ μ ih => intro p k; rw [p_spec_l01SineWide_l1b_s, sinS, ih]
theorem spec_sine_l1c_eq (y : Nat) : ∀ (μ p : Nat) (k : Int), p_spec_l01SineWide_l1c y μ p k = sinS (fmul .f64 (fsub .f64 4602678819172646912 (fadd .f64 (fsub .f64 y (FloatKind.nearest .f64 (((ftoi .f64 y .i64).getD 0)))) 4607182418800017408)) 4618760256179416344) (fle .f64 4602678819172646912 (fadd .f64 (fsub .f64 y (FloatKind.nearest .f64 (((ftoi .f64 y .i64).getD 0)))) 4607182418800017408)) μ p k := by
  intro μ; induction μ with
  | zero => intro p k; rfl
  | succ μ ih => intro p k; rw [p_spec_l01SineWide_l1c_s, sinS, ih]
theorem spec_sine_l1d_eq (y : Nat) : ∀ (μ p : Nat) (k : Int), p_spec_l01SineWide_l1d y μ p k = sinS (fmul .f64 (fadd .f64 (fsub .f64 y (FloatKind.nearest .f64 (((ftoi .f64 y .i64).getD 0)))) 4607182418800017408) 4618760256179416344) (fle .f64 4602678819172646912 (fadd .f64 (fsub .f64 y (FloatKind.nearest .f64 (((ftoi .f64 y .i64).getD 0)))) 4607182418800017408)) μ p k := by
  intro μ; induction μ with
  | zero => intro p k; rfl
  | succ μ ih => intro p k; rw [p_spec_l01SineWide_l1d_s, sinS, ih]
theorem spec_sine_l1e_eq (y : Nat) : ∀ (μ p : Nat) (k : Int), p_spec_l01SineWide_l1e y μ p k = sinS (fmul .f64 (fsub .f64 4602678819172646912 (fsub .f64 (fsub .f64 y (FloatKind.nearest .f64 (((ftoi .f64 y .i64).getD 0)))) 4602678819172646912)) 4618760256179416344) (fle .f64 4602678819172646912 (fsub .f64 y (FloatKind.nearest .f64 (((ftoi .f64 y .i64).getD 0))))) μ p k := by
  intro μ; induction μ with
  | zero => intro p k; rfl
  | succ μ ih => intro p k; rw [p_spec_l01SineWide_l1e_s, sinS, ih]
theorem spec_sine_l1f_eq (y : Nat) : ∀ (μ p : Nat) (k : Int), p_spec_l01SineWide_l1f y μ p k = sinS (fmul .f64 (fsub .f64 (fsub .f64 y (FloatKind.nearest .f64 (((ftoi .f64 y .i64).getD 0)))) 4602678819172646912) 4618760256179416344) (fle .f64 4602678819172646912 (fsub .f64 y (FloatKind.nearest .f64 (((ftoi .f64 y .i64).getD 0))))) μ p k := by
  intro μ; induction μ with
  | zero => intro p k; rfl
  | succ μ ih => intro p k; rw [p_spec_l01SineWide_l1f_s, sinS, ih]
theorem spec_sine_l1g_eq (y : Nat) : ∀ (μ p : Nat) (k : Int), p_spec_l01SineWide_l1g y μ p k = sinS (fmul .f64 (fsub .f64 4602678819172646912 (fsub .f64 y (FloatKind.nearest .f64 (((ftoi .f64 y .i64).getD 0))))) 4618760256179416344) (fle .f64 4602678819172646912 (fsub .f64 y (FloatKind.nearest .f64 (((ftoi .f64 y .i64).getD 0))))) μ p k := by
  intro μ; induction μ with
  | zero => intro p k; rfl
  | succ μ ih => intro p k; rw [p_spec_l01SineWide_l1g_s, sinS, ih]
theorem spec_sine_l1h_eq (y : Nat) : ∀ (μ p : Nat) (k : Int), p_spec_l01SineWide_l1h y μ p k = sinS (fmul .f64 (fsub .f64 y (FloatKind.nearest .f64 (((ftoi .f64 y .i64).getD 0)))) 4618760256179416344) (fle .f64 4602678819172646912 (fsub .f64 y (FloatKind.nearest .f64 (((ftoi .f64 y .i64).getD 0))))) μ p k := by
  intro μ; induction μ with
  | zero => intro p k; rfl
  | succ μ ih => intro p k; rw [p_spec_l01SineWide_l1h_s, sinS, ih]
theorem spec_sine_val (y : Nat) (h : Bd .f64 (52 + lp .f64) y) (hw : In52 y) : p_spec_l01SineWide y = sineOf (fractOf y) := by
  rw [p_spec_l01SineWide_eq, fin_asked, h.1, hw.1, hw.2]
  simp only [spec_sine_l1_eq, spec_sine_l1b_eq, spec_sine_l1c_eq, spec_sine_l1d_eq, spec_sine_l1e_eq, spec_sine_l1f_eq, spec_sine_l1g_eq, spec_sine_l1h_eq, Bool.not_true, cond_false]
  unfold fractOf
  cases flt .f64 (fsub .f64 y (FloatKind.nearest .f64 (((ftoi .f64 y .i64).getD 0)))) 0
  · simp only [cond_false]; exact sineOf_bif _
  · simp only [cond_true]; exact sineOf_bif _
theorem spec_sine_bd (y : Nat) (h : Bd .f64 (1 + lp .f64) y) : Bd .f64 1140 (p_spec_l01SineWide y) := by
  rw [spec_sine_val y (h.mono o4) (in52 h)]; exact sineOf_bd (fractOf_bd (h.mono o4))
/-! spec_l01SineWide: function 155 -/
def E_spec_l01SineWide : Env := envOf [(159, S_math_NaN)]
def F_spec_l01SineWide : List Value → AHeap → (Value → AHeap → Prop) → Prop
  | [.float .f64 y], H, K => T_spec_l01SineWide y H fun (r1 : Nat) (H' : AHeap) => K (.float .f64 r1) H'
  | _, _, _ => False
def S_spec_l01SineWide : FSpec := { F := F_spec_l01SineWide, quiet := true, tame := false }
theorem spec_l01SineWide_vc (y : Nat) (H : AHeap) (K : Value → AHeap → Prop) : bodyK Try.prog E_spec_l01SineWide Try.f155 [.float .f64 y] H K =
  (Br (!(feq .f64 (fsub .f64 y y) 0)) (T_math_NaN  H fun (r1 : Nat) (H1 : AHeap) => K (.float .f64 r1) H1) (Br (fle .f64 4841369599423283200 y) (K (.float .f64 0) H) (Br (fle .f64 y 14064741636278059008) (K (.float .f64 0) H) (∃ n1 : Int, ftoi .f64 y .i64 = some n1 ∧ Br (flt .f64 (fsub .f64 y (FloatKind.nearest .f64 n1)) 0) (Br (fle .f64 4602678819172646912 (fadd .f64 (fsub .f64 y (FloatKind.nearest .f64 n1)) 4607182418800017408)) (Br (flt .f64 4598175219545276416 (fsub .f64 (fadd .f64 (fsub .f64 y (FloatKind.nearest .f64 n1)) 4607182418800017408) 4602678819172646912)) (loopK (exK Try.prog E_spec_l01SineWide (cl (cl (cr (cl (cr (cr (cr (cr (cr (cr (cr (cr (cr (cr (cr (bodyC Try.f155))))))))))))))))) [.float .f64 y, undef, .float .f64 0, .float .f64 (fsub .f64 4602678819172646912 (fsub .f64 (fadd .f64 (fsub .f64 y (FloatKind.nearest .f64 n1)) 4607182418800017408) 4602678819172646912)), .bool (fle .f64 4602678819172646912 (fadd .f64 (fsub .f64 y (FloatKind.nearest .f64 n1)) 4607182418800017408)), .float .f64 (fmul .f64 (fsub .f64 4602678819172646912 (fsub .f64 (fadd .f64 (fsub .f64 y (FloatKind.nearest .f64 n1)) 4607182418800017408) 4602678819172646912)) 4618760256179416344), .float .f64 (fmul .f64 (fmul .f64 (fsub .f64 4602678819172646912 (fsub .f64 (fadd .f64 (fsub .f64 y (FloatKind.nearest .f64 n1)) 4607182418800017408) 4602678819172646912)) 4618760256179416344) (fmul .f64 (fsub .f64 4602678819172646912 (fsub .f64 (fadd .f64 (fsub .f64 y (FloatKind.nearest .f64 n1)) 4607182418800017408) 4602678819172646912)) 4618760256179416344)), .float .f64 4607182418800017408, .int .i64 8, .float .f64 y, .float .f64 y, .float .f64 (fsub .f64 y y), .bool (!(feq .f64 (fsub .f64 y y) 0)), undef, .float .f64 y, .bool (fle .f64 4841369599423283200 y), .bool false, .float .f64 y, .bool (fle .f64 y 14064741636278059008), .bool (fle .f64 y 14064741636278059008), .float .f64 y, .float .f64 y, .int .i64 n1, .float .f64 (FloatKind.nearest .f64 n1), .float .f64 (fsub .f64 y (FloatKind.nearest .f64 n1)), .float .f64 (fsub .f64 y (FloatKind.nearest .f64 n1)), .bool (flt .f64 (fsub .f64 y (FloatKind.nearest .f64 n1)) 0), .float .f64 (fsub .f64 y (FloatKind.nearest .f64 n1)), .float .f64 (fadd .f64 (fsub .f64 y (FloatKind.nearest .f64 n1)) 4607182418800017408), .float .f64 (fadd .f64 (fsub .f64 y (FloatKind.nearest .f64 n1)) 4607182418800017408), .bool (fle .f64 4602678819172646912 (fadd .f64 (fsub .f64 y (FloatKind.nearest .f64 n1)) 4607182418800017408)), .bool (fle .f64 4602678819172646912 (fadd .f64 (fsub .f64 y (FloatKind.nearest .f64 n1)) 4607182418800017408)), .float .f64 (fadd .f64 (fsub .f64 y (FloatKind.nearest .f64 n1)) 4607182418800017408), .float .f64 (fsub .f64 (fadd .f64 (fsub .f64 y (FloatKind.nearest .f64 n1)) 4607182418800017408) 4602678819172646912), .float .f64 (fsub .f64 (fadd .f64 (fsub .f64 y (FloatKind.nearest .f64 n1)) 4607182418800017408) 4602678819172646912), .bool (flt .f64 4598175219545276416 (fsub .f64 (fadd .f64 (fsub .f64 y (FloatKind.nearest .f64 n1)) 4607182418800017408) 4602678819172646912)), .float .f64 (fsub .f64 (fadd .f64 (fsub .f64 y (FloatKind.nearest .f64 n1)) 4607182418800017408) 4602678819172646912), .float .f64 (fsub .f64 4602678819172646912 (fsub .f64 (fadd .f64 (fsub .f64 y (FloatKind.nearest .f64 n1)) 4607182418800017408) 4602678819172646912)), .float .f64 (fsub .f64 4602678819172646912 (fsub .f64 (fadd .f64 (fsub .f64 y (FloatKind.nearest .f64 n1)) 4607182418800017408) 4602678819172646912)), .float .f64 (fmul .f64 (fsub .f64 4602678819172646912 (fsub .f64 (fadd .f64 (fsub .f64 y (FloatKind.nearest .f64 n1)) 4607182418800017408) 4602678819172646912)) 4618760256179416344), .float .f64 (fmul .f64 (fsub .f64 4602678819172646912 (fsub .f64 (fadd .f64 (fsub .f64 y (FloatKind.nearest .f64 n1)) 4607182418800017408) 4602678819172646912)) 4618760256179416344), .float .f64 (fmul .f64 (fsub .f64 4602678819172646912 (fsub .f64 (fadd .f64 (fsub .f64 y (FloatKind.nearest .f64 n1)) 4607182418800017408) 4602678819172646912)) 4618760256179416344), .float .f64 (fmul .f64 (fmul .f64 (fsub .f64 4602678819172646912 (fsub .f64 (fadd .f64 (fsub .f64 y (FloatKind.nearest .f64 n1)) 4607182418800017408) 4602678819172646912)) 4618760256179416344) (fmul .f64 (fsub .f64 4602678819172646912 (fsub .f64 (fadd .f64 (fsub .f64 y (FloatKind.nearest .f64 n1)) 4607182418800017408) 4602678819172646912)) 4618760256179416344)), undef, undef, undef, undef, undef, undef, undef, undef, undef, undef, undef, undef, undef, undef, undef, undef, undef, undef, undef, undef, undef, undef, undef, undef] H (blockQ 0 (seqQ (exK Try.prog E_spec_l01SineWide (cr (cr (cr (cr (cr (cr (cr (cr (cr (cr (cr (cr (bodyC Try.f155)))))))))))))) (retK Try.prog Try.f155 K)))) (loopK (exK Try.prog E_spec_l01SineWide (cl (cl (cr (cl (cr (cr (cr (cr (cr (cr (cr (cr (cr (cr (cr (bodyC Try.f155))))))))))))))))) [.float .f64 y, undef, .float .f64 0, .float .f64 (fsub .f64 (fadd .f64 (fsub .f64 y (FloatKind.nearest .f64 n1)) 4607182418800017408) 4602678819172646912), .bool (fle .f64 4602678819172646912 (fadd .f64 (fsub .f64 y (FloatKind.nearest .f64 n1)) 4607182418800017408)), .float .f64 (fmul .f64 (fsub .f64 (fadd .f64 (fsub .f64 y (FloatKind.nearest .f64 n1)) 4607182418800017408) 4602678819172646912) 4618760256179416344), .float .f64 (fmul .f64 (fmul .f64 (fsub .f64 (fadd .f64 (fsub .f64 y (FloatKind.nearest .f64 n1)) 4607182418800017408) 4602678819172646912) 4618760256179416344) (fmul .f64 (fsub .f64 (fadd .f64 (fsub .f64 y (FloatKind.nearest .f64 n1)) 4607182418800017408) 4602678819172646912) 4618760256179416344)), .float .f64 4607182418800017408, .int .i64 8, .float .f64 y, .float .f64 y, .float .f64 (fsub .f64 y y), .bool (!(feq .f64 (fsub .f64 y y) 0)), undef, .float .f64 y, .bool (fle .f64 4841369599423283200 y), .bool false, .float .f64 y, .bool (fle .f64 y 14064741636278059008), .bool (fle .f64 y 14064741636278059008), .float .f64 y, .float .f64 y, .int .i64 n1, .float .f64 (FloatKind.nearest .f64 n1), .float .f64 (fsub .f64 y (FloatKind.nearest .f64 n1)), .float .f64 (fsub .f64 y (FloatKind.nearest .f64 n1)), .bool (flt .f64 (fsub .f64 y (FloatKind.nearest .f64 n1)) 0), .float .f64 (fsub .f64 y (FloatKind.nearest .f64 n1)), .float .f64 (fadd .f64 (fsub .f64 y (FloatKind.nearest .f64 n1)) 4607182418800017408), .float .f64 (fadd .f64 (fsub .f64 y (FloatKind.nearest .f64 n1)) 4607182418800017408), .bool (fle .f64 4602678819172646912 (fadd .f64 (fsub .f64 y (FloatKind.nearest .f64 n1)) 4607182418800017408)), .bool (fle .f64 4602678819172646912 (fadd .f64 (fsub .f64 y (FloatKind.nearest .f64 n1)) 4607182418800017408)), .float .f64 (fadd .f64 (fsub .f64 y (FloatKind.nearest .f64 n1)) 4607182418800017408), .float .f64 (fsub .f64 (fadd .f64 (fsub .f64 y (FloatKind.nearest .f64 n1)) 4607182418800017408) 4602678819172646912), .float .f64 (fsub .f64 (fadd .f64 (fsub .f64 y (FloatKind.nearest .f64 n1)) 4607182418800017408) 4602678819172646912), .bool (flt .f64 4598175219545276416 (fsub .f64 (fadd .f64 (fsub .f64 y (FloatKind.nearest .f64 n1)) 4607182418800017408) 4602678819172646912)), undef, undef, .float .f64 (fsub .f64 (fadd .f64 (fsub .f64 y (FloatKind.nearest .f64 n1)) 4607182418800017408) 4602678819172646912), .float .f64 (fmul .f64 (fsub .f64 (fadd .f64 (fsub .f64 y (FloatKind.nearest .f64 n1)) 4607182418800017408) 4602678819172646912) 4618760256179416344), .float .f64 (fmul .f64 (fsub .f64 (fadd .f64 (fsub .f64 y (FloatKind.nearest .f64 n1)) 4607182418800017408) 4602678819172646912) 4618760256179416344), .float .f64 (fmul .f64 (fsub .f64 (fadd .f64 (fsub .f64 y (FloatKind.nearest .f64 n1)) 4607182418800017408) 4602678819172646912) 4618760256179416344), .float .f64 (fmul .f64 (fmul .f64 (fsub .f64 (fadd .f64 (fsub .f64 y (FloatKind.nearest .f64 n1)) 4607182418800017408) 4602678819172646912) 4618760256179416344) (fmul .f64 (fsub .f64 (fadd .f64 (fsub .f64 y (FloatKind.nearest .f64 n1)) 4607182418800017408) 4602678819172646912) 4618760256179416344)), undef, undef, undef, undef, undef, undef, undef, undef, undef, undef, undef, undef, undef, undef, undef, undef, undef, undef, undef, undef, undef, undef, undef, undef] H (blockQ 0 (seqQ (exK Try.prog E_spec_l01SineWide (cr (cr (cr (cr (cr (cr (cr (cr (cr (cr (cr (cr (bodyC Try.f155)))))))))))))) (retK Try.prog Try.f155 K))))) (Br (flt .f64 4598175219545276416 (fadd .f64 (fsub .f64 y (FloatKind.nearest .f64 n1)) 4607182418800017408)) (loopK (exK Try.prog E_spec_l01SineWide (cl (cl (cr (cl (cr (cr (cr (cr (cr (cr (cr (cr (cr (cr (cr (bodyC Try.f155))))))))))))))))) [.float .f64 y, undef, .float .f64 0, .float .f64 (fsub .f64 4602678819172646912 (fadd .f64 (fsub .f64 y (FloatKind.nearest .f64 n1)) 4607182418800017408)), .bool (fle .f64 4602678819172646912 (fadd .f64 (fsub .f64 y (FloatKind.nearest .f64 n1)) 4607182418800017408)), .float .f64 (fmul .f64 (fsub .f64 4602678819172646912 (fadd .f64 (fsub .f64 y (FloatKind.nearest .f64 n1)) 4607182418800017408)) 4618760256179416344), .float .f64 (fmul .f64 (fmul .f64 (fsub .f64 4602678819172646912 (fadd .f64 (fsub .f64 y (FloatKind.nearest .f64 n1)) 4607182418800017408)) 4618760256179416344) (fmul .f64 (fsub .f64 4602678819172646912 (fadd .f64 (fsub .f64 y (FloatKind.nearest .f64 n1)) 4607182418800017408)) 4618760256179416344)), .float .f64 4607182418800017408, .int .i64 8, .float .f64 y, .float .f64 y, .float .f64 (fsub .f64 y y), .bool (!(feq .f64 (fsub .f64 y y) 0)), undef, .float .f64 y, .bool (fle .f64 4841369599423283200 y), .bool false, .float .f64 y, .bool (fle .f64 y 14064741636278059008), .bool (fle .f64 y 14064741636278059008), .float .f64 y, .float .f64 y, .int .i64 n1, .float .f64 (FloatKind.nearest .f64 n1), .float .f64 (fsub .f64 y (FloatKind.nearest .f64 n1)), .float .f64 (fsub .f64 y (FloatKind.nearest .f64 n1)), .bool (flt .f64 (fsub .f64 y (FloatKind.nearest .f64 n1)) 0), .float .f64 (fsub .f64 y (FloatKind.nearest .f64 n1)), .float .f64 (fadd .f64 (fsub .f64 y (FloatKind.nearest .f64 n1)) 4607182418800017408), .float .f64 (fadd .f64 (fsub .f64 y (FloatKind.nearest .f64 n1)) 4607182418800017408), .bool (fle .f64 4602678819172646912 (fadd .f64 (fsub .f64 y (FloatKind.nearest .f64 n1)) 4607182418800017408)), .bool (fle .f64 4602678819172646912 (fadd .f64 (fsub .f64 y (FloatKind.nearest .f64 n1)) 4607182418800017408)), undef, undef, .float .f64 (fadd .f64 (fsub .f64 y (FloatKind.nearest .f64 n1)) 4607182418800017408), .bool (flt .f64 4598175219545276416 (fadd .f64 (fsub .f64 y (FloatKind.nearest .f64 n1)) 4607182418800017408)), .float .f64 (fadd .f64 (fsub .f64 y (FloatKind.nearest .f64 n1)) 4607182418800017408), .float .f64 (fsub .f64 4602678819172646912 (fadd .f64 (fsub .f64 y (FloatKind.nearest .f64 n1)) 4607182418800017408)), .float .f64 (fsub .f64 4602678819172646912 (fadd .f64 (fsub .f64 y (FloatKind.nearest .f64 n1)) 4607182418800017408)), .float .f64 (fmul .f64 (fsub .f64 4602678819172646912 (fadd .f64 (fsub .f64 y (FloatKind.nearest .f64 n1)) 4607182418800017408)) 4618760256179416344), .float .f64 (fmul .f64 (fsub .f64 4602678819172646912 (fadd .f64 (fsub .f64 y (FloatKind.nearest .f64 n1)) 4607182418800017408)) 4618760256179416344), .float .f64 (fmul .f64 (fsub .f64 4602678819172646912 (fadd .f64 (fsub .f64 y (FloatKind.nearest .f64 n1)) 4607182418800017408)) 4618760256179416344), .float .f64 (fmul .f64 (fmul .f64 (fsub .f64 4602678819172646912 (fadd .f64 (fsub .f64 y (FloatKind.nearest .f64 n1)) 4607182418800017408)) 4618760256179416344) (fmul .f64 (fsub .f64 4602678819172646912 (fadd .f64 (fsub .f64 y (FloatKind.nearest .f64 n1)) 4607182418800017408)) 4618760256179416344)), undef, undef, undef, undef, undef, undef, undef, undef, undef, undef, undef, undef, undef, undef, undef, undef, undef, undef, undef, undef, undef, undef, undef, undef] H (blockQ 0 (seqQ (exK Try.prog E_spec_l01SineWide (cr (cr (cr (cr (cr (cr (cr (cr (cr (cr (cr (cr (bodyC Try.f155)))))))))))))) (retK Try.prog Try.f155 K)))) (loopK (exK Try.prog E_spec_l01SineWide (cl (cl (cr (cl (cr (cr (cr (cr (cr (cr (cr (cr (cr (cr (cr (bodyC Try.f155))))))))))))))))) [.float .f64 y, undef, .float .f64 0, .float .f64 (fadd .f64 (fsub .f64 y (FloatKind.nearest .f64 n1)) 4607182418800017408), .bool (fle .f64 4602678819172646912 (fadd .f64 (fsub .f64 y (FloatKind.nearest .f64 n1)) 4607182418800017408)), .float .f64 (fmul .f64 (fadd .f64 (fsub .f64 y (FloatKind.nearest .f64 n1)) 4607182418800017408) 4618760256179416344), .float .f64 (fmul .f64 (fmul .f64 (fadd .f64 (fsub .f64 y (FloatKind.nearest .f64 n1)) 4607182418800017408) 4618760256179416344) (fmul .f64 (fadd .f64 (fsub .f64 y (FloatKind.nearest .f64 n1)) 4607182418800017408) 4618760256179416344)), .float .f64 4607182418800017408, .int .i64 8, .float .f64 y, .float .f64 y, .float .f64 (fsub .f64 y y), .bool (!(feq .f64 (fsub .f64 y y) 0)), undef, .float .f64 y, .bool (fle .f64 4841369599423283200 y), .bool false, .float .f64 y, .bool (fle .f64 y 14064741636278059008), .bool (fle .f64 y 14064741636278059008), .float .f64 y, .float .f64 y, .int .i64 n1, .float .f64 (FloatKind.nearest .f64 n1), .float .f64 (fsub .f64 y (FloatKind.nearest .f64 n1)), .float .f64 (fsub .f64 y (FloatKind.nearest .f64 n1)), .bool (flt .f64 (fsub .f64 y (FloatKind.nearest .f64 n1)) 0), .float .f64 (fsub .f64 y (FloatKind.nearest .f64 n1)), .float .f64 (fadd .f64 (fsub .f64 y (FloatKind.nearest .f64 n1)) 4607182418800017408), .float .f64 (fadd .f64 (fsub .f64 y (FloatKind.nearest .f64 n1)) 4607182418800017408), .bool (fle .f64 4602678819172646912 (fadd .f64 (fsub .f64 y (FloatKind.nearest .f64 n1)) 4607182418800017408)), .bool (fle .f64 4602678819172646912 (fadd .f64 (fsub .f64 y (FloatKind.nearest .f64 n1)) 4607182418800017408)), undef, undef, .float .f64 (fadd .f64 (fsub .f64 y (FloatKind.nearest .f64 n1)) 4607182418800017408), .bool (flt .f64 4598175219545276416 (fadd .f64 (fsub .f64 y (FloatKind.nearest .f64 n1)) 4607182418800017408)), undef, undef, .float .f64 (fadd .f64 (fsub .f64 y (FloatKind.nearest .f64 n1)) 4607182418800017408), .float .f64 (fmul .f64 (fadd .f64 (fsub .f64 y (FloatKind.nearest .f64 n1)) 4607182418800017408) 4618760256179416344), .float .f64 (fmul .f64 (fadd .f64 (fsub .f64 y (FloatKind.nearest .f64 n1)) 4607182418800017408) 4618760256179416344), .float .f64 (fmul .f64 (fadd .f64 (fsub .f64 y (FloatKind.nearest .f64 n1)) 4607182418800017408) 4618760256179416344), .float .f64 (fmul .f64 (fmul .f64 (fadd .f64 (fsub .f64 y (FloatKind.nearest .f64 n1)) 4607182418800017408) 4618760256179416344) (fmul .f64 (fadd .f64 (fsub .f64 y (FloatKind.nearest .f64 n1)) 4607182418800017408) 4618760256179416344)), undef, undef, undef, undef, undef, undef, undef, undef, undef, undef, undef, undef, undef, undef, undef, undef, undef, undef, undef, undef, undef, undef, undef, undef] H (blockQ 0 (seqQ (exK Try.prog E_spec_l01SineWide (cr (cr (cr (cr (cr (cr (cr (cr (cr (cr (cr (cr (bodyC Try.f155)))))))))))))) (retK Try.prog Try.f155 K)))))) (Br (fle .f64 4602678819172646912 (fsub .f64 y (FloatKind.nearest .f64 n1))) (Br (flt .f64 4598175219545276416 (fsub .f64 (fsub .f64 y (FloatKind.nearest .f64 n1)) 4602678819172646912)) (loopK (exK Try.prog E_spec_l01SineWide (cl (cl (cr (cl (cr (cr (cr (cr (cr (cr (cr (cr (cr (cr (cr (bodyC Try.f155))))))))))))))))) [.float .f64 y, undef, .float .f64 0, .float .f64 (fsub .f64 4602678819172646912 (fsub .f64 (fsub .f64 y (FloatKind.nearest .f64 n1)) 4602678819172646912)), .bool (fle .f64 4602678819172646912 (fsub .f64 y (FloatKind.nearest .f64 n1))), .float .f64 (fmul .f64 (fsub .f64 4602678819172646912 (fsub .f64 (fsub .f64 y (FloatKind.nearest .f64 n1)) 4602678819172646912)) 4618760256179416344), .float .f64 (fmul .f64 (fmul .f64 (fsub .f64 4602678819172646912 (fsub .f64 (fsub .f64 y (FloatKind.nearest .f64 n1)) 4602678819172646912)) 4618760256179416344) (fmul .f64 (fsub .f64 4602678819172646912 (fsub .f64 (fsub .f64 y (FloatKind.nearest .f64 n1)) 4602678819172646912)) 4618760256179416344)), .float .f64 4607182418800017408, .int .i64 8, .float .f64 y, .float .f64 y, .float .f64 (fsub .f64 y y), .bool (!(feq .f64 (fsub .f64 y y) 0)), undef, .float .f64 y, .bool (fle .f64 4841369599423283200 y), .bool false, .float .f64 y, .bool (fle .f64 y 14064741636278059008), .bool (fle .f64 y 14064741636278059008), .float .f64 y, .float .f64 y, .int .i64 n1, .float .f64 (FloatKind.nearest .f64 n1), .float .f64 (fsub .f64 y (FloatKind.nearest .f64 n1)), .float .f64 (fsub .f64 y (FloatKind.nearest .f64 n1)), .bool (flt .f64 (fsub .f64 y (FloatKind.nearest .f64 n1)) 0), undef, undef, .float .f64 (fsub .f64 y (FloatKind.nearest .f64 n1)), .bool (fle .f64 4602678819172646912 (fsub .f64 y (FloatKind.nearest .f64 n1))), .bool (fle .f64 4602678819172646912 (fsub .f64 y (FloatKind.nearest .f64 n1))), .float .f64 (fsub .f64 y (FloatKind.nearest .f64 n1)), .float .f64 (fsub .f64 (fsub .f64 y (FloatKind.nearest .f64 n1)) 4602678819172646912), .float .f64 (fsub .f64 (fsub .f64 y (FloatKind.nearest .f64 n1)) 4602678819172646912), .bool (flt .f64 4598175219545276416 (fsub .f64 (fsub .f64 y (FloatKind.nearest .f64 n1)) 4602678819172646912)), .float .f64 (fsub .f64 (fsub .f64 y (FloatKind.nearest .f64 n1)) 4602678819172646912), .float .f64 (fsub .f64 4602678819172646912 (fsub .f64 (fsub .f64 y (FloatKind.nearest .f64 n1)) 4602678819172646912)), .float .f64 (fsub .f64 4602678819172646912 (fsub .f64 (fsub .f64 y (FloatKind.nearest .f64 n1)) 4602678819172646912)), .float .f64 (fmul .f64 (fsub .f64 4602678819172646912 (fsub .f64 (fsub .f64 y (FloatKind.nearest .f64 n1)) 4602678819172646912)) 4618760256179416344), .float .f64 (fmul .f64 (fsub .f64 4602678819172646912 (fsub .f64 (fsub .f64 y (FloatKind.nearest .f64 n1)) 4602678819172646912)) 4618760256179416344), .float .f64 (fmul .f64 (fsub .f64 4602678819172646912 (fsub .f64 (fsub .f64 y (FloatKind.nearest .f64 n1)) 4602678819172646912)) 4618760256179416344), .float .f64 (fmul .f64 (fmul .f64 (fsub .f64 4602678819172646912 (fsub .f64 (fsub .f64 y (FloatKind.nearest .f64 n1)) 4602678819172646912)) 4618760256179416344) (fmul .f64 (fsub .f64 4602678819172646912 (fsub .f64 (fsub .f64 y (FloatKind.nearest .f64 n1)) 4602678819172646912)) 4618760256179416344)), undef, undef, undef, undef, undef, undef, undef, undef, undef, undef, undef, undef, undef, undef, undef, undef, undef, undef, undef, undef, undef, undef, undef, undef] H (blockQ 0 (seqQ (exK Try.prog E_spec_l01SineWide (cr (cr (cr (cr (cr (cr (cr (cr (cr (cr (cr (cr (bodyC Try.f155)))))))))))))) (retK Try.prog Try.f155 K)))) (loopK (exK Try.prog E_spec_l01SineWide (cl (cl (cr (cl (cr (cr (cr (cr (cr (cr (cr (cr (cr (cr (cr (bodyC Try.f155))))))))))))))))) [.float .f64 y, undef, .float .f64 0, .float .f64 (fsub .f64 (fsub .f64 y (FloatKind.nearest .f64 n1)) 4602678819172646912), .bool (fle .f64 4602678819172646912 (fsub .f64 y (FloatKind.nearest .f64 n1))), .float .f64 (fmul .f64 (fsub .f64 (fsub .f64 y (FloatKind.nearest .f64 n1)) 4602678819172646912) 4618760256179416344), .float .f64 (fmul .f64 (fmul .f64 (fsub .f64 (fsub .f64 y (FloatKind.nearest .f64 n1)) 4602678819172646912) 4618760256179416344) (fmul .f64 (fsub .f64 (fsub .f64 y (FloatKind.nearest .f64 n1)) 4602678819172646912) 4618760256179416344)), .float .f64 4607182418800017408, .int .i64 8, .float .f64 y, .float .f64 y, .float .f64 (fsub .f64 y y), .bool (!(feq .f64 (fsub .f64 y y) 0)), undef, .float .f64 y, .bool (fle .f64 4841369599423283200 y), .bool false, .float .f64 y, .bool (fle .f64 y 14064741636278059008), .bool (fle .f64 y 14064741636278059008), .float .f64 y, .float .f64 y, .int .i64 n1, .float .f64 (FloatKind.nearest .f64 n1), .float .f64 (fsub .f64 y (FloatKind.nearest .f64 n1)), .float .f64 (fsub .f64 y (FloatKind.nearest .f64 n1)), .bool (flt .f64 (fsub .f64 y (FloatKind.nearest .f64 n1)) 0), undef, undef, .float .f64 (fsub .f64 y (FloatKind.nearest .f64 n1)), .bool (fle .f64 4602678819172646912 (fsub .f64 y (FloatKind.nearest .f64 n1))), .bool (fle .f64 4602678819172646912 (fsub .f64 y (FloatKind.nearest .f64 n1))), .float .f64 (fsub .f64 y (FloatKind.nearest .f64 n1)), .float .f64 (fsub .f64 (fsub .f64 y (FloatKind.nearest .f64 n1)) 4602678819172646912), .float .f64 (fsub .f64 (fsub .f64 y (FloatKind.nearest .f64 n1)) 4602678819172646912), .bool (flt .f64 4598175219545276416 (fsub .f64 (fsub .f64 y (FloatKind.nearest .f64 n1)) 4602678819172646912)), undef, undef, .float .f64 (fsub .f64 (fsub .f64 y (FloatKind.nearest .f64 n1)) 4602678819172646912), .float .f64 (fmul .f64 (fsub .f64 (fsub .f64 y (FloatKind.nearest .f64 n1)) 4602678819172646912) 4618760256179416344), .float .f64 (fmul .f64 (fsub .f64 (fsub .f64 y (FloatKind.nearest .f64 n1)) 4602678819172646912) 4618760256179416344), .float .f64 (fmul .f64 (fsub .f64 (fsub .f64 y (FloatKind.nearest .f64 n1)) 4602678819172646912) 4618760256179416344), .float .f64 (fmul .f64 (fmul .f64 (fsub .f64 (fsub .f64 y (FloatKind.nearest .f64 n1)) 4602678819172646912) 4618760256179416344) (fmul .f64 (fsub .f64 (fsub .f64 y (FloatKind.nearest .f64 n1)) 4602678819172646912) 4618760256179416344)), undef, undef, undef, undef, undef, undef, undef, undef, undef, undef, undef, undef, undef, undef, undef, undef, undef, undef, undef, undef, undef, undef, undef, undef] H (blockQ 0 (seqQ (exK Try.prog E_spec_l01SineWide (cr (cr (cr (cr (cr (cr (cr (cr (cr (cr (cr (cr (bodyC Try.f155)))))))))))))) (retK Try.prog Try.f155 K))))) (Br (flt .f64 4598175219545276416 (fsub .f64 y (FloatKind.nearest .f64 n1))) (loopK (exK Try.prog E_spec_l01SineWide (cl (cl (cr (cl (cr (cr (cr (cr (cr (cr (cr (cr (cr (cr (cr (bodyC Try.f155))))))))))))))))) [.float .f64 y, undef, .float .f64 0, .float .f64 (fsub .f64 4602678819172646912 (fsub .f64 y (FloatKind.nearest .f64 n1))), .bool (fle .f64 4602678819172646912 (fsub .f64 y (FloatKind.nearest .f64 n1))), .float .f64 (fmul .f64 (fsub .f64 4602678819172646912 (fsub .f64 y (FloatKind.nearest .f64 n1))) 4618760256179416344), .float .f64 (fmul .f64 (fmul .f64 (fsub .f64 4602678819172646912 (fsub .f64 y (FloatKind.nearest .f64 n1))) 4618760256179416344) (fmul .f64 (fsub .f64 4602678819172646912 (fsub .f64 y (FloatKind.nearest .f64 n1))) 4618760256179416344)), .float .f64 4607182418800017408, .int .i64 8, .float .f64 y, .float .f64 y, .float .f64 (fsub .f64 y y), .bool (!(feq .f64 (fsub .f64 y y) 0)), undef, .float .f64 y, .bool (fle .f64 4841369599423283200 y), .bool false, .float .f64 y, .bool (fle .f64 y 14064741636278059008), .bool (fle .f64 y 14064741636278059008), .float .f64 y, .float .f64 y, .int .i64 n1, .float .f64 (FloatKind.nearest .f64 n1), .float .f64 (fsub .f64 y (FloatKind.nearest .f64 n1)), .float .f64 (fsub .f64 y (FloatKind.nearest .f64 n1)), .bool (flt .f64 (fsub .f64 y (FloatKind.nearest .f64 n1)) 0), undef, undef, .float .f64 (fsub .f64 y (FloatKind.nearest .f64 n1)), .bool (fle .f64 4602678819172646912 (fsub .f64 y (FloatKind.nearest .f64 n1))), .bool (fle .f64 4602678819172646912 (fsub .f64 y (FloatKind.nearest .f64 n1))), undef, undef, .float .f64 (fsub .f64 y (FloatKind.nearest .f64 n1)), .bool (flt .f64 4598175219545276416 (fsub .f64 y (FloatKind.nearest .f64 n1))), .float .f64 (fsub .f64 y (FloatKind.nearest .f64 n1)), .float .f64 (fsub .f64 4602678819172646912 (fsub .f64 y (FloatKind.nearest .f64 n1))), .float .f64 (fsub .f64 4602678819172646912 (fsub .f64 y (FloatKind.nearest .f64 n1))), .float .f64 (fmul .f64 (fsub .f64 4602678819172646912 (fsub .f64 y (FloatKind.nearest .f64 n1))) 4618760256179416344), .float .f64 (fmul .f64 (fsub .f64 4602678819172646912 (fsub .f64 y (FloatKind.nearest .f64 n1))) 4618760256179416344), .float .f64 (fmul .f64 (fsub .f64 4602678819172646912 (fsub .f64 y (FloatKind.nearest .f64 n1))) 4618760256179416344), .float .f64 (fmul .f64 (fmul .f64 (fsub .f64 4602678819172646912 (fsub .f64 y (FloatKind.nearest .f64 n1))) 4618760256179416344) (fmul .f64 (fsub .f64 4602678819172646912 (fsub .f64 y (FloatKind.nearest .f64 n1))) 4618760256179416344)), undef, undef, undef, undef, undef, undef, undef, undef, undef, undef, undef, undef, undef, undef, undef, undef, undef, undef, undef, undef, undef, undef, undef, undef] H (blockQ 0 (seqQ (exK Try.prog E_spec_l01SineWide (cr (cr (cr (cr (cr (cr (cr (cr (cr (cr (cr (cr (bodyC Try.f155)))))))))))))) (retK Try.prog Try.f155 K)))) (loopK (exK Try.prog E_spec_l01SineWide (cl (cl (cr (cl (cr (cr (cr (cr (cr (cr (cr (cr (cr (cr (cr (bodyC Try.f155))))))))))))))))) [.float .f64 y, undef, .float .f64 0, .float .f64 (fsub .f64 y (FloatKind.nearest .f64 n1)), .bool (fle .f64 4602678819172646912 (fsub .f64 y (FloatKind.nearest .f64 n1))), .float .f64 (fmul .f64 (fsub .f64 y (FloatKind.nearest .f64 n1)) 4618760256179416344), .float .f64 (fmul .f64 (fmul .f64 (fsub .f64 y (FloatKind.nearest .f64 n1)) 4618760256179416344) (fmul .f64 (fsub .f64 y (FloatKind.nearest .f64 n1)) 4618760256179416344)), .float .f64 4607182418800017408, .int .i64 8, .float .f64 y, .float .f64 y, .float .f64 (fsub .f64 y y), .bool (!(feq .f64 (fsub .f64 y y) 0)), undef, .float .f64 y, .bool (fle .f64 4841369599423283200 y), .bool false, .float .f64 y, .bool (fle .f64 y 14064741636278059008), .bool (fle .f64 y 14064741636278059008), .float .f64 y, .float .f64 y, .int .i64 n1, .float .f64 (FloatKind.nearest .f64 n1), .float .f64 (fsub .f64 y (FloatKind.nearest .f64 n1)), .float .f64 (fsub .f64 y (FloatKind.nearest .f64 n1)), .bool (flt .f64 (fsub .f64 y (FloatKind.nearest .f64 n1)) 0), undef, undef, .float .f64 (fsub .f64 y (FloatKind.nearest .f64 n1)), .bool (fle .f64 4602678819172646912 (fsub .f64 y (FloatKind.nearest .f64 n1))), .bool (fle .f64 4602678819172646912 (fsub .f64 y (FloatKind.nearest .f64 n1))), undef, undef, .float .f64 (fsub .f64 y (FloatKind.nearest .f64 n1)), .bool (flt .f64 4598175219545276416 (fsub .f64 y (FloatKind.nearest .f64 n1))), undef, undef, .float .f64 (fsub .f64 y (FloatKind.nearest .f64 n1)), .float .f64 (fmul .f64 (fsub .f64 y (FloatKind.nearest .f64 n1)) 4618760256179416344), .float .f64 (fmul .f64 (fsub .f64 y (FloatKind.nearest .f64 n1)) 4618760256179416344), .float .f64 (fmul .f64 (fsub .f64 y (FloatKind.nearest .f64 n1)) 4618760256179416344), .float .f64 (fmul .f64 (fmul .f64 (fsub .f64 y (FloatKind.nearest .f64 n1)) 4618760256179416344) (fmul .f64 (fsub .f64 y (FloatKind.nearest .f64 n1)) 4618760256179416344)), undef, undef, undef, undef, undef, undef, undef, undef, undef, undef, undef, undef, undef, undef, undef, undef, undef, undef, undef, undef, undef, undef, undef, undef] H (blockQ 0 (seqQ (exK Try.prog E_spec_l01SineWide (cr (cr (cr (cr (cr (cr (cr (cr (cr (cr (cr (cr (bodyC Try.f155)))))))))))))) (retK Try.prog Try.f155 K)))))))))) := by kernel_rfl
abbrev spec_l01SineWide_P1 (n1 : Int) (y : Nat) (z1_27 : Value) (z1_28 : Value) (z1_29 : Nat) (z1_3 : Nat) (z1_30 : Bool) (z1_31 : Bool) (z1_32 : Value) (z1_33 : Value) (z1_34 : Nat) (z1_35 : Bool) (z1_36 : Value) (z1_37 : Value) (z1_38 : Nat) (z1_39 : Nat) (z1_4 : Bool) (z1_40 : Nat) (z1_41 : Nat) (z1_42 : Nat) (z1_5 : Nat) (z1_6 : Nat) (p : Nat) (k : Int) (g43 g44 g45 g46 g47 g48 g49 g50 g51 g52 g53 g54 g55 g56 g57 g58 : Value) : List Value := [.float .f64 y, undef, .float .f64 0, .float .f64 z1_3, .bool z1_4, .float .f64 z1_5, .float .f64 z1_6, .float .f64 p, .int .i64 k, .float .f64 y, .float .f64 y, .float .f64 (fsub .f64 y y), .bool (!(feq .f64 (fsub .f64 y y) 0)), undef, .float .f64 y, .bool (fle .f64 4841369599423283200 y), .bool false, .float .f64 y, .bool (fle .f64 y 14064741636278059008), .bool (fle .f64 y 14064741636278059008), .float .f64 y, .float .f64 y, .int .i64 n1, .float .f64 (FloatKind.nearest .f64 n1), .float .f64 (fsub .f64 y (FloatKind.nearest .f64 n1)), .float .f64 (fsub .f64 y (FloatKind.nearest .f64 n1)), .bool (flt .f64 (fsub .f64 y (FloatKind.nearest .f64 n1)) 0), z1_27, z1_28, .float .f64 z1_29, .bool z1_30, .bool z1_31, z1_32, z1_33, .float .f64 z1_34, .bool z1_35, z1_36, z1_37, .float .f64 z1_38, .float .f64 z1_39, .float .f64 z1_40, .float .f64 z1_41, .float .f64 z1_42, g43, g44, g45, g46, g47, g48, g49, g50, g51, g52, g53, g54, g55, g56, g57, g58, undef, undef, undef, undef, undef, undef, undef, undef]
theorem spec_l01SineWide_r1 (n1 : Int) (y : Nat) (z1_27 : Value) (z1_28 : Value) (z1_29 : Nat) (z1_3 : Nat) (z1_30 : Bool) (z1_31 : Bool) (z1_32 : Value) (z1_33 : Value) (z1_34 : Nat) (z1_35 : Bool) (z1_36 : Value) (z1_37 : Value) (z1_38 : Nat) (z1_39 : Nat) (z1_4 : Bool) (z1_40 : Nat) (z1_41 : Nat) (z1_42 : Nat) (z1_5 : Nat) (z1_6 : Nat) (p : Nat) (k : Int) (g43 g44 g45 g46 g47 g48 g49 g50 g51 g52 g53 g54 g55 g56 g57 g58 : Value) (H : AHeap) (R : Post) : exK Try.prog E_spec_l01SineWide (cl (cl (cr (cl (cr (cr (cr (cr (cr (cr (cr (cr (cr (cr (cr (bodyC Try.f155)))))))))))))))) (spec_l01SineWide_P1 n1 y z1_27 z1_28 z1_29 z1_3 z1_30 z1_31 z1_32 z1_33 z1_34 z1_35 z1_36 z1_37 z1_38 z1_39 z1_4 z1_40 z1_41 z1_42 z1_5 z1_6 p k g43 g44 g45 g46 g47 g48 g49 g50 g51 g52 g53 g54 g55 g56 g57 g58) H R =
  (Br (decide ((1 : Int) ≤ k)) (R .normal [.float .f64 y, undef, .float .f64 0, .float .f64 z1_3, .bool z1_4, .float .f64 z1_5, .float .f64 z1_6, .float .f64 (fsub .f64 4607182418800017408 (fdiv .f64 (fmul .f64 z1_6 p) (FloatKind.nearest .f64 (IntKind.wrap .i64 ((IntKind.wrap .i64 (2 * k)) * (IntKind.wrap .i64 ((IntKind.wrap .i64 (2 * k)) + 1))))))), .int .i64 (IntKind.wrap .i64 (k - 1)), .float .f64 y, .float .f64 y, .float .f64 (fsub .f64 y y), .bool (!(feq .f64 (fsub .f64 y y) 0)), undef, .float .f64 y, .bool (fle .f64 4841369599423283200 y), .bool false, .float .f64 y, .bool (fle .f64 y 14064741636278059008), .bool (fle .f64 y 14064741636278059008), .float .f64 y, .float .f64 y, .int .i64 n1, .float .f64 (FloatKind.nearest .f64 n1), .float .f64 (fsub .f64 y (FloatKind.nearest .f64 n1)), .float .f64 (fsub .f64 y (FloatKind.nearest .f64 n1)), .bool (flt .f64 (fsub .f64 y (FloatKind.nearest .f64 n1)) 0), z1_27, z1_28, .float .f64 z1_29, .bool z1_30, .bool z1_31, z1_32, z1_33, .float .f64 z1_34, .bool z1_35, z1_36, z1_37, .float .f64 z1_38, .float .f64 z1_39, .float .f64 z1_40, .float .f64 z1_41, .float .f64 z1_42, .int .i64 k, .bool (decide ((1 : Int) ≤ k)), .int .i64 k, .int .i64 (IntKind.wrap .i64 (k - 1)), .float .f64 z1_6, .float .f64 p, .float .f64 (fmul .f64 z1_6 p), .int .i64 k, .int .i64 (IntKind.wrap .i64 (2 * k)), .int .i64 k, .int .i64 (IntKind.wrap .i64 (2 * k)), .int .i64 (IntKind.wrap .i64 ((IntKind.wrap .i64 (2 * k)) + 1)), .int .i64 (IntKind.wrap .i64 ((IntKind.wrap .i64 (2 * k)) * (IntKind.wrap .i64 ((IntKind.wrap .i64 (2 * k)) + 1)))), .float .f64 (FloatKind.nearest .f64 (IntKind.wrap .i64 ((IntKind.wrap .i64 (2 * k)) * (IntKind.wrap .i64 ((IntKind.wrap .i64 (2 * k)) + 1))))), .float .f64 (fdiv .f64 (fmul .f64 z1_6 p) (FloatKind.nearest .f64 (IntKind.wrap .i64 ((IntKind.wrap .i64 (2 * k)) * (IntKind.wrap .i64 ((IntKind.wrap .i64 (2 * k)) + 1)))))), .float .f64 (fsub .f64 4607182418800017408 (fdiv .f64 (fmul .f64 z1_6 p) (FloatKind.nearest .f64 (IntKind.wrap .i64 ((IntKind.wrap .i64 (2 * k)) * (IntKind.wrap .i64 ((IntKind.wrap .i64 (2 * k)) + 1))))))), undef, undef, undef, undef, undef, undef, undef, undef] H) (R (.exit 0) [.float .f64 y, undef, .float .f64 0, .float .f64 z1_3, .bool z1_4, .float .f64 z1_5, .float .f64 z1_6, .float .f64 p, .int .i64 k, .float .f64 y, .float .f64 y, .float .f64 (fsub .f64 y y), .bool (!(feq .f64 (fsub .f64 y y) 0)), undef, .float .f64 y, .bool (fle .f64 4841369599423283200 y), .bool false, .float .f64 y, .bool (fle .f64 y 14064741636278059008), .bool (fle .f64 y 14064741636278059008), .float .f64 y, .float .f64 y, .int .i64 n1, .float .f64 (FloatKind.nearest .f64 n1), .float .f64 (fsub .f64 y (FloatKind.nearest .f64 n1)), .float .f64 (fsub .f64 y (FloatKind.nearest .f64 n1)), .bool (flt .f64 (fsub .f64 y (FloatKind.nearest .f64 n1)) 0), z1_27, z1_28, .float .f64 z1_29, .bool z1_30, .bool z1_31, z1_32, z1_33, .float .f64 z1_34, .bool z1_35, z1_36, z1_37, .float .f64 z1_38, .float .f64 z1_39, .float .f64 z1_40, .float .f64 z1_41, .float .f64 z1_42, .int .i64 k, .bool (decide ((1 : Int) ≤ k)), g45, g46, g47, g48, g49, g50, g51, g52, g53, g54, g55, g56, g57, g58, undef, undef, undef, undef, undef, undef, undef, undef] H)) := by kernel_rfl
def spec_l01SineWide_I1 (n1 : Int) (y : Nat) (z1_27 : Value) (z1_28 : Value) (z1_29 : Nat) (z1_3 : Nat) (z1_30 : Bool) (z1_31 : Bool) (z1_32 : Value) (z1_33 : Value) (z1_34 : Nat) (z1_35 : Bool) (z1_36 : Value) (z1_37 : Value) (z1_38 : Nat) (z1_39 : Nat) (z1_4 : Bool) (z1_40 : Nat) (z1_41 : Nat) (z1_42 : Nat) (z1_5 : Nat) (z1_6 : Nat) (Inv : Nat → Nat → Int → AHeap → Prop) : Nat → List Value → AHeap → Prop := fun μ tm H => ∃ (p : Nat), ∃ (k : Int), ∃ g43 g44 g45 g46 g47 g48 g49 g50 g51 g52 g53 g54 g55 g56 g57 g58, tm = (spec_l01SineWide_P1 n1 y z1_27 z1_28 z1_29 z1_3 z1_30 z1_31 z1_32 z1_33 z1_34 z1_35 z1_36 z1_37 z1_38 z1_39 z1_4 z1_40 z1_41 z1_42 z1_5 z1_6 p k g43 g44 g45 g46 g47 g48 g49 g50 g51 g52 g53 g54 g55 g56 g57 g58) ∧ Inv μ p k H
theorem spec_l01SineWide_L1 (n1 : Int) (y : Nat) (z1_27 : Value) (z1_28 : Value) (z1_29 : Nat) (z1_3 : Nat) (z1_30 : Bool) (z1_31 : Bool) (z1_32 : Value) (z1_33 : Value) (z1_34 : Nat) (z1_35 : Bool) (z1_36 : Value) (z1_37 : Value) (z1_38 : Nat) (z1_39 : Nat) (z1_4 : Bool) (z1_40 : Nat) (z1_41 : Nat) (z1_42 : Nat) (z1_5 : Nat) (z1_6 : Nat) {Q : Post} (Inv : Nat → Nat → Int → AHeap → Prop) (ν : Nat) (p : Nat) (k : Int) (g43 g44 g45 g46 g47 g48 g49 g50 g51 g52 g53 g54 g55 g56 g57 g58 : Value) (H : AHeap) (h0 : Inv ν p k H)
    (hs : ∀ (μ : Nat) (p : Nat) (k : Int) (g43 g44 g45 g46 g47 g48 g49 g50 g51 g52 g53 g54 g55 g56 g57 g58 : Value) (H : AHeap), Inv μ p k H → exK Try.prog E_spec_l01SineWide (cl (cl (cr (cl (cr (cr (cr (cr (cr (cr (cr (cr (cr (cr (cr (bodyC Try.f155)))))))))))))))) (spec_l01SineWide_P1 n1 y z1_27 z1_28 z1_29 z1_3 z1_30 z1_31 z1_32 z1_33 z1_34 z1_35 z1_36 z1_37 z1_38 z1_39 z1_4 z1_40 z1_41 z1_42 z1_5 z1_6 p k g43 g44 g45 g46 g47 g48 g49 g50 g51 g52 g53 g54 g55 g56 g57 g58) H (loopQ (spec_l01SineWide_I1 n1 y z1_27 z1_28 z1_29 z1_3 z1_30 z1_31 z1_32 z1_33 z1_34 z1_35 z1_36 z1_37 z1_38 z1_39 z1_4 z1_40 z1_41 z1_42 z1_5 z1_6 Inv) μ Q)) : loopK (exK Try.prog E_spec_l01SineWide (cl (cl (cr (cl (cr (cr (cr (cr (cr (cr (cr (cr (cr (cr (cr (bodyC Try.f155))))))))))))))))) (spec_l01SineWide_P1 n1 y z1_27 z1_28 z1_29 z1_3 z1_30 z1_31 z1_32 z1_33 z1_34 z1_35 z1_36 z1_37 z1_38 z1_39 z1_4 z1_40 z1_41 z1_42 z1_5 z1_6 p k g43 g44 g45 g46 g47 g48 g49 g50 g51 g52 g53 g54 g55 g56 g57 g58) H Q :=
  ⟨spec_l01SineWide_I1 n1 y z1_27 z1_28 z1_29 z1_3 z1_30 z1_31 z1_32 z1_33 z1_34 z1_35 z1_36 z1_37 z1_38 z1_39 z1_4 z1_40 z1_41 z1_42 z1_5 z1_6 Inv, ν, ⟨p, k, g43, g44, g45, g46, g47, g48, g49, g50, g51, g52, g53, g54, g55, g56, g57, g58, rfl, h0⟩, fun μ tm H h => by obtain ⟨p, k, g43, g44, g45, g46, g47, g48, g49, g50, g51, g52, g53, g54, g55, g56, g57, g58, rfl, hI⟩ := h; exact hs μ p k g43 g44 g45 g46 g47 g48 g49 g50 g51 g52 g53 g54 g55 g56 g57 g58 H hI⟩
theorem spec_l01SineWide_n1 {n1 : Int} {y : Nat} {z1_27 : Value} {z1_28 : Value} {z1_29 : Nat} {z1_3 : Nat} {z1_30 : Bool} {z1_31 : Bool} {z1_32 : Value} {z1_33 : Value} {z1_34 : Nat} {z1_35 : Bool} {z1_36 : Value} {z1_37 : Value} {z1_38 : Nat} {z1_39 : Nat} {z1_4 : Bool} {z1_40 : Nat} {z1_41 : Nat} {z1_42 : Nat} {z1_5 : Nat} {z1_6 : Nat} {Q : Post} {Inv : Nat → Nat → Int → AHeap → Prop} {μ : Nat} (μ' : Nat) {p : Nat} {k : Int} {g43 g44 g45 g46 g47 g48 g49 g50 g51 g52 g53 g54 g55 g56 g57 g58 : Value} {H : AHeap} (hm : μ' < μ) (hI : Inv μ' p k H) : loopQ (spec_l01SineWide_I1 n1 y z1_27 z1_28 z1_29 z1_3 z1_30 z1_31 z1_32 z1_33 z1_34 z1_35 z1_36 z1_37 z1_38 z1_39 z1_4 z1_40 z1_41 z1_42 z1_5 z1_6 Inv) μ Q .normal (spec_l01SineWide_P1 n1 y z1_27 z1_28 z1_29 z1_3 z1_30 z1_31 z1_32 z1_33 z1_34 z1_35 z1_36 z1_37 z1_38 z1_39 z1_4 z1_40 z1_41 z1_42 z1_5 z1_6 p k g43 g44 g45 g46 g47 g48 g49 g50 g51 g52 g53 g54 g55 g56 g57 g58) H := ⟨μ', hm, p, k, g43, g44, g45, g46, g47, g48, g49, g50, g51, g52, g53, g54, g55, g56, g57, g58, rfl, hI⟩
theorem spec_l01SineWide_x1_0 (n1 : Int) (y : Nat) (z1_27 : Value) (z1_28 : Value) (z1_29 : Nat) (z1_3 : Nat) (z1_30 : Bool) (z1_31 : Bool) (z1_32 : Value) (z1_33 : Value) (z1_34 : Nat) (z1_35 : Bool) (z1_36 : Value) (z1_37 : Value) (z1_38 : Nat) (z1_39 : Nat) (z1_4 : Bool) (z1_40 : Nat) (z1_41 : Nat) (z1_42 : Nat) (z1_5 : Nat) (z1_6 : Nat) (p : Nat) (k : Int) (g43 g44 g45 g46 g47 g48 g49 g50 g51 g52 g53 g54 g55 g56 g57 g58 : Value) (H : AHeap) (K : Value → AHeap → Prop)  {I : Nat → List Value → AHeap → Prop} {μ : Nat} : loopQ I μ (blockQ 0 (seqQ (exK Try.prog E_spec_l01SineWide (cr (cr (cr (cr (cr (cr (cr (cr (cr (cr (cr (cr (bodyC Try.f155)))))))))))))) (retK Try.prog Try.f155 K))) (.exit 0) (spec_l01SineWide_P1 n1 y z1_27 z1_28 z1_29 z1_3 z1_30 z1_31 z1_32 z1_33 z1_34 z1_35 z1_36 z1_37 z1_38 z1_39 z1_4 z1_40 z1_41 z1_42 z1_5 z1_6 p k g43 g44 g45 g46 g47 g48 g49 g50 g51 g52 g53 g54 g55 g56 g57 g58) H =
  (Br z1_4 (K (.float .f64 (fneg .f64 (fmul .f64 z1_5 p))) H) (K (.float .f64 (fmul .f64 z1_5 p)) H)) := by kernel_rfl
theorem E_spec_l01SineWide_ok : ∀ g, FnOk Try.prog g (E_spec_l01SineWide g) := FnOk.envOf (by
  intro x hx
  simp only [List.mem_cons, List.not_mem_nil, or_false] at hx
  subst hx; exact math_NaN_ok)
set_option maxHeartbeats 1000000 in
theorem spec_l01SineWide_main (y : Nat) (H : AHeap) (K : Value → AHeap → Prop) (h : T_spec_l01SineWide y H fun (r1 : Nat) (H' : AHeap) => K (.float .f64 r1) H') : bodyK Try.prog E_spec_l01SineWide Try.f155 [.float .f64 y] H K := by
  rw [spec_l01SineWide_vc]
  have hk := h
  unfold T_spec_l01SineWide at hk
  have e : (p_spec_l01SineWide y) = _ := rfl
  have e := e.trans (p_spec_l01SineWide_eq y)
  have g0 := Grow.refl H
  refine Br.intro (fun c_1 => ?_) (fun c_1 => ?_)
  · have e := e.trans (cond_t c_1)
    have c_1n := nf_of_t c_1
    refine T_math_NaN_i ?_
    rw [e] at hk
    exact hk
  · have e := e.trans (cond_f c_1)
    have c_1n := nt_of_f c_1
    refine Br.intro (fun c_2 => ?_) (fun c_2 => ?_)
    · have e := e.trans (cond_t c_2)
      rw [e] at hk
      exact hk
    · have e := e.trans (cond_f c_2)
      refine Br.intro (fun c_3 => ?_) (fun c_3 => ?_)
      · have e := e.trans (cond_t c_3)
        rw [e] at hk
        exact hk
      · have e := e.trans (cond_f c_3)
        refine ⟨_, opt_get (d := 0) (by exact fract_ne (wide_in (by assumption) (by assumption) (by assumption))), ?_⟩
        refine Br.intro (fun c_4 => ?_) (fun c_4 => ?_)
        · have e := e.trans (cond_t c_4)
          refine Br.intro (fun c_5 => ?_) (fun c_5 => ?_)
          · have e := e.trans (cond_t c_5)
            refine Br.intro (fun c_6 => ?_) (fun c_6 => ?_)
            · have e := e.trans (cond_t c_6)
              refine spec_l01SineWide_L1 _ _ _ _ _ _ _ _ _ _ _ _ _ _ _ _ _ _ _ _ _ _ (fun (μ : Nat) (p : Nat) (k : Int) (H_1 : AHeap) => H = H_1 ∧ k ≤ (8 : Int) ∧ k - 1 + 1 ≤ (μ : Int) ∧ p_spec_l01SineWide y = p_spec_l01SineWide_l1 y (μ + 1) p k) (Int.toNat ((8 : Int) - 1 + 1)) _ _ _ _ _ _ _ _ _ _ _ _ _ _ _ _ _ _ H ?_ ?_
              · exact ⟨rfl, o5, o4, e⟩
              · intro μ p k g43 g44 g45 g46 g47 g48 g49 g50 g51 g52 g53 g54 g55 g56 g57 g58 H_1 hI
                obtain ⟨rfl, v_7, hμ, e⟩ := hI
                rw [spec_l01SineWide_r1]
                have e := e.trans (p_spec_l01SineWide_l1_s y μ p k)
                have l_8 := g0.1
                refine Br.intro (fun c_9 => ?_) (fun c_9 => ?_)
                · have e := e.trans (cond_t c_9)
                  have c_9' := of_decide_eq_true c_9
                  rw [show IntKind.wrap .i64 (k - 1) = (k - 1) from wrap64 o4 o4]
                  refine spec_l01SineWide_n1 (μ - 1) o12 ⟨rfl, o1, o12, (by rw [show μ - 1 + 1 = μ from by first | omega]; exact e)⟩
                · have e := e.trans (cond_f c_9)
                  have c_9' := of_decide_eq_false c_9
                  rw [spec_l01SineWide_x1_0]
                  refine Br.intro (fun c_10 => ?_) (fun c_10 => ?_)
                  · have e := e.trans (cond_t c_10)
                    rw [e] at hk
                    exact hk
                  · have e := e.trans (cond_f c_10)
                    rw [e] at hk
                    exact hk
            · have e := e.trans (cond_f c_6)
              refine spec_l01SineWide_L1 _ _ _ _ _ _ _ _ _ _ _ _ _ _ _ _ _ _ _ _ _ _ (fun (μ : Nat) (p : Nat) (k : Int) (H_2 : AHeap) => H = H_2 ∧ k ≤ (8 : Int) ∧ k - 1 + 1 ≤ (μ : Int) ∧ p_spec_l01SineWide y = p_spec_l01SineWide_l1b y (μ + 1) p k) (Int.toNat ((8 : Int) - 1 + 1)) _ _ _ _ _ _ _ _ _ _ _ _ _ _ _ _ _ _ H ?_ ?_
              · exact ⟨rfl, o5, o4, e⟩
              · intro μ p k g43 g44 g45 g46 g47 g48 g49 g50 g51 g52 g53 g54 g55 g56 g57 g58 H_2 hI
                obtain ⟨rfl, v_11, hμ, e⟩ := hI
                rw [spec_l01SineWide_r1]
                have e := e.trans (p_spec_l01SineWide_l1b_s y μ p k)
                have l_12 := g0.1
                refine Br.intro (fun c_13 => ?_) (fun c_13 => ?_)
                · have e := e.trans (cond_t c_13)
                  have c_13' := of_decide_eq_true c_13
                  rw [show IntKind.wrap .i64 (k - 1) = (k - 1) from wrap64 o4 o4]
                  refine spec_l01SineWide_n1 (μ - 1) o12 ⟨rfl, o1, o12, (by rw [show μ - 1 + 1 = μ from by first | omega]; exact e)⟩
                · have e := e.trans (cond_f c_13)
                  have c_13' := of_decide_eq_false c_13
                  rw [spec_l01SineWide_x1_0]
                  refine Br.intro (fun c_14 => ?_) (fun c_14 => ?_)
                  · have e := e.trans (cond_t c_14)
                    rw [e] at hk
                    exact hk
                  · have e := e.trans (cond_f c_14)
                    rw [e] at hk
                    exact hk
          · have e := e.trans (cond_f c_5)
            refine Br.intro (fun c_15 => ?_) (fun c_15 => ?_)
            · have e := e.trans (cond_t c_15)
              refine spec_l01SineWide_L1 _ _ _ _ _ _ _ _ _ _ _ _ _ _ _ _ _ _ _ _ _ _ (fun (μ : Nat) (p : Nat) (k : Int) (H_3 : AHeap) => H = H_3 ∧ k ≤ (8 : Int) ∧ k - 1 + 1 ≤ (μ : Int) ∧ p_spec_l01SineWide y = p_spec_l01SineWide_l1c y (μ + 1) p k) (Int.toNat ((8 : Int) - 1 + 1)) _ _ _ _ _ _ _ _ _ _ _ _ _ _ _ _ _ _ H ?_ ?_
              · exact ⟨rfl, o5, o4, e⟩
              · intro μ p k g43 g44 g45 g46 g47 g48 g49 g50 g51 g52 g53 g54 g55 g56 g57 g58 H_3 hI
                obtain ⟨rfl, v_16, hμ, e⟩ := hI
                rw [spec_l01SineWide_r1]
                have e := e.trans (p_spec_l01SineWide_l1c_s y μ p k)
                have l_17 := g0.1
                refine Br.intro (fun c_18 => ?_) (fun c_18 => ?_)
                · have e := e.trans (cond_t c_18)
                  have c_18' := of_decide_eq_true c_18
                  rw [show IntKind.wrap .i64 (k - 1) = (k - 1) from wrap64 o4 o4]
                  refine spec_l01SineWide_n1 (μ - 1) o12 ⟨rfl, o1, o12, (by rw [show μ - 1 + 1 = μ from by first | omega]; exact e)⟩
                · have e := e.trans (cond_f c_18)
                  have c_18' := of_decide_eq_false c_18
                  rw [spec_l01SineWide_x1_0]
                  refine Br.intro (fun c_19 => ?_) (fun c_19 => ?_)
                  · have e := e.trans (cond_t c_19)
                    rw [e] at hk
                    exact hk
                  · have e := e.trans (cond_f c_19)
                    rw [e] at hk
                    exact hk
            · have e := e.trans (cond_f c_15)
              refine spec_l01SineWide_L1 _ _ _ _ _ _ _ _ _ _ _ _ _ _ _ _ _ _ _ _ _ _ (fun (μ : Nat) (p : Nat) (k : Int) (H_4 : AHeap) => H = H_4 ∧ k ≤ (8 : Int) ∧ k - 1 + 1 ≤ (μ : Int) ∧ p_spec_l01SineWide y = p_spec_l01SineWide_l1d y (μ + 1) p k) (Int.toNat ((8 : Int) - 1 + 1)) _ _ _ _ _ _ _ _ _ _ _ _ _ _ _ _ _ _ H ?_ ?_
              · exact ⟨rfl, o5, o4, e⟩
              · intro μ p k g43 g44 g45 g46 g47 g48 g49 g50 g51 g52 g53 g54 g55 g56 g57 g58 H_4 hI
                obtain ⟨rfl, v_20, hμ, e⟩ := hI
                rw [spec_l01SineWide_r1]
                have e := e.trans (p_spec_l01SineWide_l1d_s y μ p k)
                have l_21 := g0.1
                refine Br.intro (fun c_22 => ?_) (fun c_22 => ?_)
                · have e := e.trans (cond_t c_22)
                  have c_22' := of_decide_eq_true c_22
                  rw [show IntKind.wrap .i64 (k - 1) = (k - 1) from wrap64 o4 o4]
                  refine spec_l01SineWide_n1 (μ - 1) o12 ⟨rfl, o1, o12, (by rw [show μ - 1 + 1 = μ from by first | omega]; exact e)⟩
                · have e := e.trans (cond_f c_22)
                  have c_22' := of_decide_eq_false c_22
                  rw [spec_l01SineWide_x1_0]
                  refine Br.intro (fun c_23 => ?_) (fun c_23 => ?_)
                  · have e := e.trans (cond_t c_23)
                    rw [e] at hk
                    exact hk
                  · have e := e.trans (cond_f c_23)
                    rw [e] at hk
                    exact hk
        · have e := e.trans (cond_f c_4)
          refine Br.intro (fun c_24 => ?_) (fun c_24 => ?_)
          · have e := e.trans (cond_t c_24)
            refine Br.intro (fun c_25 => ?_) (fun c_25 => ?_)
            · have e := e.trans (cond_t c_25)
              refine spec_l01SineWide_L1 _ _ _ _ _ _ _ _ _ _ _ _ _ _ _ _ _ _ _ _ _ _ (fun (μ : Nat) (p : Nat) (k : Int) (H_5 : AHeap) => H = H_5 ∧ k ≤ (8 : Int) ∧ k - 1 + 1 ≤ (μ : Int) ∧ p_spec_l01SineWide y = p_spec_l01SineWide_l1e y (μ + 1) p k) (Int.toNat ((8 : Int) - 1 + 1)) _ _ _ _ _ _ _ _ _ _ _ _ _ _ _ _ _ _ H ?_ ?_
              · exact ⟨rfl, o5, o4, e⟩
              · intro μ p k g43 g44 g45 g46 g47 g48 g49 g50 g51 g52 g53 g54 g55 g56 g57 g58 H_5 hI
                obtain ⟨rfl, v_26, hμ, e⟩ := hI
                rw [spec_l01SineWide_r1]
                have e := e.trans (p_spec_l01SineWide_l1e_s y μ p k)
                have l_27 := g0.1
                refine Br.intro (fun c_28 => ?_) (fun c_28 => ?_)
                · have e := e.trans (cond_t c_28)
                  have c_28' := of_decide_eq_true c_28
                  rw [show IntKind.wrap .i64 (k - 1) = (k - 1) from wrap64 o4 o4]
                  refine spec_l01SineWide_n1 (μ - 1) o12 ⟨rfl, o1, o12, (by rw [show μ - 1 + 1 = μ from by first | omega]; exact e)⟩
                · have e := e.trans (cond_f c_28)
                  have c_28' := of_decide_eq_false c_28
                  rw [spec_l01SineWide_x1_0]
                  refine Br.intro (fun c_29 => ?_) (fun c_29 => ?_)
                  · have e := e.trans (cond_t c_29)
                    rw [e] at hk
                    exact hk
                  · have e := e.trans (cond_f c_29)
                    rw [e] at hk
                    exact hk
            · have e := e.trans (cond_f c_25)
              refine spec_l01SineWide_L1 _ _ _ _ _ _ _ _ _ _ _ _ _ _ _ _ _ _ _ _ _ _ (fun (μ : Nat) (p : Nat) (k : Int) (H_6 : AHeap) => H = H_6 ∧ k ≤ (8 : Int) ∧ k - 1 + 1 ≤ (μ : Int) ∧ p_spec_l01SineWide y = p_spec_l01SineWide_l1f y (μ + 1) p k) (Int.toNat ((8 : Int) - 1 + 1)) _ _ _ _ _ _ _ _ _ _ _ _ _ _ _ _ _ _ H ?_ ?_
              · exact ⟨rfl, o5, o4, e⟩
              · intro μ p k g43 g44 g45 g46 g47 g48 g49 g50 g51 g52 g53 g54 g55 g56 g57 g58 H_6 hI
                obtain ⟨rfl, v_30, hμ, e⟩ := hI
                rw [spec_l01SineWide_r1]
                have e := e.trans (p_spec_l01SineWide_l1f_s y μ p k)
                have l_31 := g0.1
                refine Br.intro (fun c_32 => ?_) (fun c_32 => ?_)
                · have e := e.trans (cond_t c_32)
                  have c_32' := of_decide_eq_true c_32
                  rw [show IntKind.wrap .i64 (k - 1) = (k - 1) from wrap64 o4 o4]
                  refine spec_l01SineWide_n1 (μ - 1) o12 ⟨rfl, o1, o12, (by rw [show μ - 1 + 1 = μ from by first | omega]; exact e)⟩
                · have e := e.trans (cond_f c_32)
                  have c_32' := of_decide_eq_false c_32
                  rw [spec_l01SineWide_x1_0]
                  refine Br.intro (fun c_33 => ?_) (fun c_33 => ?_)
                  · have e := e.trans (cond_t c_33)
                    rw [e] at hk
                    exact hk
                  · have e := e.trans (cond_f c_33)
                    rw [e] at hk
                    exact hk
          · have e := e.trans (cond_f c_24)
            refine Br.intro (fun c_34 => ?_) (fun c_34 => ?_)
            · have e := e.trans (cond_t c_34)
              refine spec_l01SineWide_L1 _ _ _ _ _ _ _ _ _ _ _ _ _ _ _ _ _ _ _ _ _ _ (fun (μ : Nat) (p : Nat) (k : Int) (H_7 : AHeap) => H = H_7 ∧ k ≤ (8 : Int) ∧ k - 1 + 1 ≤ (μ : Int) ∧ p_spec_l01SineWide y = p_spec_l01SineWide_l1g y (μ + 1) p k) (Int.toNat ((8 : Int) - 1 + 1)) _ _ _ _ _ _ _ _ _ _ _ _ _ _ _ _ _ _ H ?_ ?_
              · exact ⟨rfl, o5, o4, e⟩
              · intro μ p k g43 g44 g45 g46 g47 g48 g49 g50 g51 g52 g53 g54 g55 g56 g57 g58 H_7 hI
                obtain ⟨rfl, v_35, hμ, e⟩ := hI
                rw [spec_l01SineWide_r1]
                have e := e.trans (p_spec_l01SineWide_l1g_s y μ p k)
                have l_36 := g0.1
                refine Br.intro (fun c_37 => ?_) (fun c_37 => ?_)
                · have e := e.trans (cond_t c_37)
                  have c_37' := of_decide_eq_true c_37
                  rw [show IntKind.wrap .i64 (k - 1) = (k - 1) from wrap64 o4 o4]
                  refine spec_l01SineWide_n1 (μ - 1) o12 ⟨rfl, o1, o12, (by rw [show μ - 1 + 1 = μ from by first | omega]; exact e)⟩
                · have e := e.trans (cond_f c_37)
                  have c_37' := of_decide_eq_false c_37
                  rw [spec_l01SineWide_x1_0]
                  refine Br.intro (fun c_38 => ?_) (fun c_38 => ?_)
                  · have e := e.trans (cond_t c_38)
                    rw [e] at hk
                    exact hk
                  · have e := e.trans (cond_f c_38)
                    rw [e] at hk
                    exact hk
            · have e := e.trans (cond_f c_34)
              refine spec_l01SineWide_L1 _ _ _ _ _ _ _ _ _ _ _ _ _ _ _ _ _ _ _ _ _ _ (fun (μ : Nat) (p : Nat) (k : Int) (H_8 : AHeap) => H = H_8 ∧ k ≤ (8 : Int) ∧ k - 1 + 1 ≤ (μ : Int) ∧ p_spec_l01SineWide y = p_spec_l01SineWide_l1h y (μ + 1) p k) (Int.toNat ((8 : Int) - 1 + 1)) _ _ _ _ _ _ _ _ _ _ _ _ _ _ _ _ _ _ H ?_ ?_
              · exact ⟨rfl, o5, o4, e⟩
              · intro μ p k g43 g44 g45 g46 g47 g48 g49 g50 g51 g52 g53 g54 g55 g56 g57 g58 H_8 hI
                obtain ⟨rfl, v_39, hμ, e⟩ := hI
                rw [spec_l01SineWide_r1]
                have e := e.trans (p_spec_l01SineWide_l1h_s y μ p k)
                have l_40 := g0.1
                refine Br.intro (fun c_41 => ?_) (fun c_41 => ?_)
                · have e := e.trans (cond_t c_41)
                  have c_41' := of_decide_eq_true c_41
                  rw [show IntKind.wrap .i64 (k - 1) = (k - 1) from wrap64 o4 o4]
                  refine spec_l01SineWide_n1 (μ - 1) o12 ⟨rfl, o1, o12, (by rw [show μ - 1 + 1 = μ from by first | omega]; exact e)⟩
                · have e := e.trans (cond_f c_41)
                  have c_41' := of_decide_eq_false c_41
                  rw [spec_l01SineWide_x1_0]
                  refine Br.intro (fun c_42 => ?_) (fun c_42 => ?_)
                  · have e := e.trans (cond_t c_42)
                    rw [e] at hk
                    exact hk
                  · have e := e.trans (cond_f c_42)
                    rw [e] at hk
                    exact hk
theorem spec_l01SineWide_ok : FnOk Try.prog 155 S_spec_l01SineWide := by
  refine FnOk.body mix_ok E_spec_l01SineWide_ok Try.func155 rfl (by kernel_rfl) (by kernel_rfl) ?_ ?_ ?_ ?_ ?_
  · intro args H K K' h hk
    simp only [S_spec_l01SineWide] at *
    unfold F_spec_l01SineWide at *
    split at hk
    · have k := hk
      exact h _ _ k
    · exact hk.elim
  · intro _ args H K hk
    simp only [S_spec_l01SineWide] at *
    unfold F_spec_l01SineWide at *
    split at hk
    · have k := hk
      exact ⟨_, k, fun K' k' => k'⟩
    · exact hk.elim
  · intro args H K hk
    simp only [S_spec_l01SineWide] at *
    unfold F_spec_l01SineWide at *
    split at hk
    · have k := hk
      exact ⟨_, _, k⟩
    · exact hk.elim
  · intro hq; cases hq
  · have mm := @spec_l01SineWide_main
    revert mm
    generalize bodyK Try.prog E_spec_l01SineWide Try.f155 = Q
    intro mm args H K hk
    simp only [S_spec_l01SineWide] at *
    unfold F_spec_l01SineWide at *
    split at hk
    · exact mm _ H K hk
    · exact hk.elim

def p_spec_l01Phasor_l1 (turns : Nat) : Nat → Nat → Int → Nat × Nat
  | 0, _, _ => (0, 0)
  | μ + 1, f, quarter => (bif fle .f64 4598175219545276416 f then (p_spec_l01Phasor_l1 turns μ (fsub .f64 f 4598175219545276416) (quarter + 1)) else (bif (quarter : Int) == 1 then ((p_spec_l01Narrow (fsub .f64 0 (p_spec_l01SineWide f))), (p_spec_l01Narrow ((p_spec_l01SineWide (fsub .f64 4598175219545276416 f))))) else (bif (quarter : Int) == 2 then ((p_spec_l01Narrow (fsub .f64 0 ((p_spec_l01SineWide (fsub .f64 4598175219545276416 f))))), (p_spec_l01Narrow (fsub .f64 0 (p_spec_l01SineWide f)))) else (bif (quarter : Int) == 3 then ((p_spec_l01Narrow (p_spec_l01SineWide f)), (p_spec_l01Narrow (fsub .f64 0 ((p_spec_l01SineWide (fsub .f64 4598175219545276416 f)))))) else ((p_spec_l01Narrow ((p_spec_l01SineWide (fsub .f64 4598175219545276416 f)))), (p_spec_l01Narrow (p_spec_l01SineWide f)))))))
def p_spec_l01Phasor_l1_s := fun turns μ f quarter => @p_spec_l01Phasor_l1.eq_2 turns f quarter μ
def p_spec_l01Phasor (turns : Nat) : Nat × Nat := (bif !(feq .f64 (fsub .f64 turns turns) 0) then ((p_spec_l01From (2143289344 : Int)), (p_spec_l01From (2143289344 : Int))) else (bif fle .f64 4841369599423283200 turns then (1065353216, 0) else (bif fle .f64 turns 14064741636278059008 then (1065353216, 0) else (bif flt .f64 (fsub .f64 turns (FloatKind.nearest .f64 (((ftoi .f64 turns .i64).getD 0)))) 0 then (p_spec_l01Phasor_l1 turns (Int.toNat (qm (fadd .f64 (fsub .f64 turns (FloatKind.nearest .f64 (((ftoi .f64 turns .i64).getD 0)))) 4607182418800017408)) + 1) (fadd .f64 (fsub .f64 turns (FloatKind.nearest .f64 (((ftoi .f64 turns .i64).getD 0)))) 4607182418800017408) (0 : Int)) else (p_spec_l01Phasor_l1 turns (Int.toNat (qm (fsub .f64 turns (FloatKind.nearest .f64 (((ftoi .f64 turns .i64).getD 0))))) + 1) (fsub .f64 turns (FloatKind.nearest .f64 (((ftoi .f64 turns .i64).getD 0)))) (0 : Int))))))
def p_spec_l01Phasor_eq := @p_spec_l01Phasor.eq_1
def T_spec_l01Phasor (turns : Nat) (H : AHeap) (K : Nat → Nat → AHeap → Prop) : Prop := K ((p_spec_l01Phasor turns).1) ((p_spec_l01Phasor turns).2) H
theorem T_spec_l01Phasor_i {turns : Nat} {H : AHeap} {K : Nat → Nat → AHeap → Prop} (h : K ((p_spec_l01Phasor turns).1) ((p_spec_l01Phasor turns).2) H) : T_spec_l01Phasor turns H K := h

/-! spec_l01Phasor: function 111 -/
def E_spec_l01Phasor : Env := envOf [(154, S_spec_l01From), (155, S_spec_l01SineWide), (112, S_spec_l01Narrow)]
def F_spec_l01Phasor : List Value → AHeap → (Value → AHeap → Prop) → Prop
  | [.float .f64 turns], H, K => T_spec_l01Phasor turns H fun (r1_r : Nat) (r1_i : Nat) (H' : AHeap) => K (.complex .f32 r1_r r1_i) H'
  | _, _, _ => False
def S_spec_l01Phasor : FSpec := { F := F_spec_l01Phasor, quiet := true, tame := false }
theorem spec_l01Phasor_vc (turns : Nat) (H : AHeap) (K : Value → AHeap → Prop) : bodyK Try.prog E_spec_l01Phasor Try.f111 [.float .f64 turns] H K =
  (Br (!(feq .f64 (fsub .f64 turns turns) 0)) (T_spec_l01From 2143289344 H fun (r1 : Nat) (H1 : AHeap) => T_spec_l01From 2143289344 H1 fun (r2 : Nat) (H2 : AHeap) => K (.complex .f32 r1 r2) H2) (Br (fle .f64 4841369599423283200 turns) (K (.complex .f32 1065353216 0) H) (Br (fle .f64 turns 14064741636278059008) (K (.complex .f32 1065353216 0) H) (∃ n1 : Int, ftoi .f64 turns .i64 = some n1 ∧ Br (flt .f64 (fsub .f64 turns (FloatKind.nearest .f64 n1)) 0) (loopK (exK Try.prog E_spec_l01Phasor (cl (cl (cl (cr (cr (cr (cr (cr (cr (bodyC Try.f111))))))))))) [.float .f64 turns, undef, .complex .f32 0 0, .float .f64 (fadd .f64 (fsub .f64 turns (FloatKind.nearest .f64 n1)) 4607182418800017408), .int .i64 0, undef, undef, .float .f64 turns, .float .f64 turns, .float .f64 (fsub .f64 turns turns), .bool (!(feq .f64 (fsub .f64 turns turns) 0)), undef, undef, undef, .float .f64 turns, .bool (fle .f64 4841369599423283200 turns), .bool false, .float .f64 turns, .bool (fle .f64 turns 14064741636278059008), .bool (fle .f64 turns 14064741636278059008), .float .f64 turns, .float .f64 turns, .int .i64 n1, .float .f64 (FloatKind.nearest .f64 n1), .float .f64 (fsub .f64 turns (FloatKind.nearest .f64 n1)), .float .f64 (fsub .f64 turns (FloatKind.nearest .f64 n1)), .bool (flt .f64 (fsub .f64 turns (FloatKind.nearest .f64 n1)) 0), .float .f64 (fsub .f64 turns (FloatKind.nearest .f64 n1)), .float .f64 (fadd .f64 (fsub .f64 turns (FloatKind.nearest .f64 n1)) 4607182418800017408), undef, undef, undef, undef, undef, undef, undef, undef, undef, undef, undef, undef, undef, undef, undef, undef, undef, undef, undef, undef, undef, undef, undef, undef, undef, undef, undef, undef, undef, undef, undef, undef, undef, undef, undef, undef, undef, undef, undef, undef, undef, undef] H (blockQ 0 (seqQ (exK Try.prog E_spec_l01Phasor (cr (cr (cr (cr (cr (cr (cr (bodyC Try.f111))))))))) (retK Try.prog Try.f111 K)))) (loopK (exK Try.prog E_spec_l01Phasor (cl (cl (cl (cr (cr (cr (cr (cr (cr (bodyC Try.f111))))))))))) [.float .f64 turns, undef, .complex .f32 0 0, .float .f64 (fsub .f64 turns (FloatKind.nearest .f64 n1)), .int .i64 0, undef, undef, .float .f64 turns, .float .f64 turns, .float .f64 (fsub .f64 turns turns), .bool (!(feq .f64 (fsub .f64 turns turns) 0)), undef, undef, undef, .float .f64 turns, .bool (fle .f64 4841369599423283200 turns), .bool false, .float .f64 turns, .bool (fle .f64 turns 14064741636278059008), .bool (fle .f64 turns 14064741636278059008), .float .f64 turns, .float .f64 turns, .int .i64 n1, .float .f64 (FloatKind.nearest .f64 n1), .float .f64 (fsub .f64 turns (FloatKind.nearest .f64 n1)), .float .f64 (fsub .f64 turns (FloatKind.nearest .f64 n1)), .bool (flt .f64 (fsub .f64 turns (FloatKind.nearest .f64 n1)) 0), undef, undef, undef, undef, undef, undef, undef, undef, undef, undef, undef, undef, undef, undef, undef, undef, undef, undef, undef, undef, undef, undef, undef, undef, undef, undef, undef, undef, undef, undef, undef, undef, undef, undef, undef, undef, undef, undef, undef, undef, undef, undef, undef, undef] H (blockQ 0 (seqQ (exK Try.prog E_spec_l01Phasor (cr (cr (cr (cr (cr (cr (cr (bodyC Try.f111))))))))) (retK Try.prog Try.f111 K)))))))) := by kernel_rfl
abbrev spec_l01Phasor_P1 (n1 : Int) (turns : Nat) (z1_27 : Value) (z1_28 : Value) (f : Nat) (quarter : Int) (g29 g30 g31 g32 g33 g34 : Value) : List Value := [.float .f64 turns, undef, .complex .f32 0 0, .float .f64 f, .int .i64 quarter, undef, undef, .float .f64 turns, .float .f64 turns, .float .f64 (fsub .f64 turns turns), .bool (!(feq .f64 (fsub .f64 turns turns) 0)), undef, undef, undef, .float .f64 turns, .bool (fle .f64 4841369599423283200 turns), .bool false, .float .f64 turns, .bool (fle .f64 turns 14064741636278059008), .bool (fle .f64 turns 14064741636278059008), .float .f64 turns, .float .f64 turns, .int .i64 n1, .float .f64 (FloatKind.nearest .f64 n1), .float .f64 (fsub .f64 turns (FloatKind.nearest .f64 n1)), .float .f64 (fsub .f64 turns (FloatKind.nearest .f64 n1)), .bool (flt .f64 (fsub .f64 turns (FloatKind.nearest .f64 n1)) 0), z1_27, z1_28, g29, g30, g31, g32, g33, g34, undef, undef, undef, undef, undef, undef, undef, undef, undef, undef, undef, undef, undef, undef, undef, undef, undef, undef, undef, undef, undef, undef, undef, undef, undef, undef, undef, undef, undef, undef, undef, undef, undef, undef, undef, undef]
theorem spec_l01Phasor_r1 (n1 : Int) (turns : Nat) (z1_27 : Value) (z1_28 : Value) (f : Nat) (quarter : Int) (g29 g30 g31 g32 g33 g34 : Value) (H : AHeap) (R : Post) : exK Try.prog E_spec_l01Phasor (cl (cl (cl (cr (cr (cr (cr (cr (cr (bodyC Try.f111)))))))))) (spec_l01Phasor_P1 n1 turns z1_27 z1_28 f quarter g29 g30 g31 g32 g33 g34) H R =
  (Br (fle .f64 4598175219545276416 f) (R .normal [.float .f64 turns, undef, .complex .f32 0 0, .float .f64 (fsub .f64 f 4598175219545276416), .int .i64 (IntKind.wrap .i64 (quarter + 1)), undef, undef, .float .f64 turns, .float .f64 turns, .float .f64 (fsub .f64 turns turns), .bool (!(feq .f64 (fsub .f64 turns turns) 0)), undef, undef, undef, .float .f64 turns, .bool (fle .f64 4841369599423283200 turns), .bool false, .float .f64 turns, .bool (fle .f64 turns 14064741636278059008), .bool (fle .f64 turns 14064741636278059008), .float .f64 turns, .float .f64 turns, .int .i64 n1, .float .f64 (FloatKind.nearest .f64 n1), .float .f64 (fsub .f64 turns (FloatKind.nearest .f64 n1)), .float .f64 (fsub .f64 turns (FloatKind.nearest .f64 n1)), .bool (flt .f64 (fsub .f64 turns (FloatKind.nearest .f64 n1)) 0), z1_27, z1_28, .float .f64 f, .bool (fle .f64 4598175219545276416 f), .float .f64 f, .float .f64 (fsub .f64 f 4598175219545276416), .int .i64 quarter, .int .i64 (IntKind.wrap .i64 (quarter + 1)), undef, undef, undef, undef, undef, undef, undef, undef, undef, undef, undef, undef, undef, undef, undef, undef, undef, undef, undef, undef, undef, undef, undef, undef, undef, undef, undef, undef, undef, undef, undef, undef, undef, undef, undef, undef] H) (R (.exit 0) [.float .f64 turns, undef, .complex .f32 0 0, .float .f64 f, .int .i64 quarter, undef, undef, .float .f64 turns, .float .f64 turns, .float .f64 (fsub .f64 turns turns), .bool (!(feq .f64 (fsub .f64 turns turns) 0)), undef, undef, undef, .float .f64 turns, .bool (fle .f64 4841369599423283200 turns), .bool false, .float .f64 turns, .bool (fle .f64 turns 14064741636278059008), .bool (fle .f64 turns 14064741636278059008), .float .f64 turns, .float .f64 turns, .int .i64 n1, .float .f64 (FloatKind.nearest .f64 n1), .float .f64 (fsub .f64 turns (FloatKind.nearest .f64 n1)), .float .f64 (fsub .f64 turns (FloatKind.nearest .f64 n1)), .bool (flt .f64 (fsub .f64 turns (FloatKind.nearest .f64 n1)) 0), z1_27, z1_28, .float .f64 f, .bool (fle .f64 4598175219545276416 f), g31, g32, g33, g34, undef, undef, undef, undef, undef, undef, undef, undef, undef, undef, undef, undef, undef, undef, undef, undef, undef, undef, undef, undef, undef, undef, undef, undef, undef, undef, undef, undef, undef, undef, undef, undef, undef, undef, undef, undef] H)) := by kernel_rfl
def spec_l01Phasor_I1 (n1 : Int) (turns : Nat) (z1_27 : Value) (z1_28 : Value) (Inv : Nat → Nat → Int → AHeap → Prop) : Nat → List Value → AHeap → Prop := fun μ tm H => ∃ (f : Nat), ∃ (quarter : Int), ∃ g29 g30 g31 g32 g33 g34, tm = (spec_l01Phasor_P1 n1 turns z1_27 z1_28 f quarter g29 g30 g31 g32 g33 g34) ∧ Inv μ f quarter H
theorem spec_l01Phasor_L1 (n1 : Int) (turns : Nat) (z1_27 : Value) (z1_28 : Value) {Q : Post} (Inv : Nat → Nat → Int → AHeap → Prop) (ν : Nat) (f : Nat) (quarter : Int) (g29 g30 g31 g32 g33 g34 : Value) (H : AHeap) (h0 : Inv ν f quarter H)
    (hs : ∀ (μ : Nat) (f : Nat) (quarter : Int) (g29 g30 g31 g32 g33 g34 : Value) (H : AHeap), Inv μ f quarter H → exK Try.prog E_spec_l01Phasor (cl (cl (cl (cr (cr (cr (cr (cr (cr (bodyC Try.f111)))))))))) (spec_l01Phasor_P1 n1 turns z1_27 z1_28 f quarter g29 g30 g31 g32 g33 g34) H (loopQ (spec_l01Phasor_I1 n1 turns z1_27 z1_28 Inv) μ Q)) : loopK (exK Try.prog E_spec_l01Phasor (cl (cl (cl (cr (cr (cr (cr (cr (cr (bodyC Try.f111))))))))))) (spec_l01Phasor_P1 n1 turns z1_27 z1_28 f quarter g29 g30 g31 g32 g33 g34) H Q :=
  ⟨spec_l01Phasor_I1 n1 turns z1_27 z1_28 Inv, ν, ⟨f, quarter, g29, g30, g31, g32, g33, g34, rfl, h0⟩, fun μ tm H h => by obtain ⟨f, quarter, g29, g30, g31, g32, g33, g34, rfl, hI⟩ := h; exact hs μ f quarter g29 g30 g31 g32 g33 g34 H hI⟩
theorem spec_l01Phasor_n1 {n1 : Int} {turns : Nat} {z1_27 : Value} {z1_28 : Value} {Q : Post} {Inv : Nat → Nat → Int → AHeap → Prop} {μ : Nat} (μ' : Nat) {f : Nat} {quarter : Int} {g29 g30 g31 g32 g33 g34 : Value} {H : AHeap} (hm : μ' < μ) (hI : Inv μ' f quarter H) : loopQ (spec_l01Phasor_I1 n1 turns z1_27 z1_28 Inv) μ Q .normal (spec_l01Phasor_P1 n1 turns z1_27 z1_28 f quarter g29 g30 g31 g32 g33 g34) H := ⟨μ', hm, f, quarter, g29, g30, g31, g32, g33, g34, rfl, hI⟩
theorem spec_l01Phasor_x1_0 (n1 : Int) (turns : Nat) (z1_27 : Value) (z1_28 : Value) (f : Nat) (quarter : Int) (g29 g30 g31 g32 g33 g34 : Value) (H : AHeap) (K : Value → AHeap → Prop)  {I : Nat → List Value → AHeap → Prop} {μ : Nat} : loopQ I μ (blockQ 0 (seqQ (exK Try.prog E_spec_l01Phasor (cr (cr (cr (cr (cr (cr (cr (bodyC Try.f111))))))))) (retK Try.prog Try.f111 K))) (.exit 0) (spec_l01Phasor_P1 n1 turns z1_27 z1_28 f quarter g29 g30 g31 g32 g33 g34) H =
  (T_spec_l01SineWide (fsub .f64 4598175219545276416 f) H fun (r3 : Nat) (H3 : AHeap) => T_spec_l01SineWide f H3 fun (r4 : Nat) (H4 : AHeap) => Br ((quarter : Int) == 1) (T_spec_l01Narrow (fsub .f64 0 r4) H4 fun (r5 : Nat) (H5 : AHeap) => T_spec_l01Narrow r3 H5 fun (r6 : Nat) (H6 : AHeap) => K (.complex .f32 r5 r6) H6) (Br ((quarter : Int) == 2) (T_spec_l01Narrow (fsub .f64 0 r3) H4 fun (r7 : Nat) (H7 : AHeap) => T_spec_l01Narrow (fsub .f64 0 r4) H7 fun (r8 : Nat) (H8 : AHeap) => K (.complex .f32 r7 r8) H8) (Br ((quarter : Int) == 3) (T_spec_l01Narrow r4 H4 fun (r9 : Nat) (H9 : AHeap) => T_spec_l01Narrow (fsub .f64 0 r3) H9 fun (r10 : Nat) (H10 : AHeap) => K (.complex .f32 r9 r10) H10) (T_spec_l01Narrow r3 H4 fun (r11 : Nat) (H11 : AHeap) => T_spec_l01Narrow r4 H11 fun (r12 : Nat) (H12 : AHeap) => K (.complex .f32 r11 r12) H12)))) := by kernel_rfl
theorem E_spec_l01Phasor_ok : ∀ g, FnOk Try.prog g (E_spec_l01Phasor g) := FnOk.envOf (by
  intro x hx
  simp only [List.mem_cons, List.not_mem_nil, or_false] at hx
  rcases hx with rfl | rfl | rfl
  · exact spec_l01From_ok
  · exact spec_l01SineWide_ok
  · exact spec_l01Narrow_ok)
theorem o3 {P : Prop} (h : P := by first | omega | (simp; done) | (simp; omega) | (first | omega | with_reducible exact (qm_step (by assumption) (by assumption)).1 | with_reducible exact (fract_bd (wide_in (by assumption) (by assumption) (by assumption))) | with_reducible exact (fract_bd1 (wide_in (by assumption) (by assumption) (by assumption)) (by assumption)) | (have := (qm_step (by assumption) (by assumption)); have := qm_le (qm_step (by assumption) (by assumption)).1; omega) | (have := qm_le (fract_bd1 (wide_in (by assumption) (by assumption) (by assumption)) (by assumption)); omega) | (have := qm_le (fract_bd (wide_in (by assumption) (by assumption) (by assumption))); omega))) : P := h
theorem o21 {P : Prop} (h : P := by first | omega | (have := qm_step (by assumption) (by assumption); omega)) : P := h
theorem o2 {P : Prop} (h : P := by first | omega | (first | omega | with_reducible exact (qm_step (by assumption) (by assumption)).1 | with_reducible exact (fract_bd (wide_in (by assumption) (by assumption) (by assumption))) | with_reducible exact (fract_bd1 (wide_in (by assumption) (by assumption) (by assumption)) (by assumption)) | (have := (qm_step (by assumption) (by assumption)); have := qm_le (qm_step (by assumption) (by assumption)).1; omega) | (have := qm_le (fract_bd1 (wide_in (by assumption) (by assumption) (by assumption)) (by assumption)); omega) | (have := qm_le (fract_bd (wide_in (by assumption) (by assumption) (by assumption))); omega)) | (simp only [List.length_append, List.length_cons, List.length_nil, List.length_set]; done) | (simp only [List.length_append, List.length_cons, List.length_nil, List.length_set]; omega)) : P := h
theorem o23 {P : Prop} (h : P := by first | exact lp_up1 (by assumption) | exact rest_bd1 (by assumption)) : P := h
theorem o6 {P : Prop} (h : P := by first | assumption | omega | (simp; omega) | (first | exact bd_nar (by assumption) | exact bd_nar0 (by assumption))) : P := h
set_option maxHeartbeats 1000000 in
theorem spec_l01Phasor_main (turns : Nat) (H : AHeap) (K : Value → AHeap → Prop) (h : T_spec_l01Phasor turns H fun (r1_r : Nat) (r1_i : Nat) (H' : AHeap) => K (.complex .f32 r1_r r1_i) H') : bodyK Try.prog E_spec_l01Phasor Try.f111 [.float .f64 turns] H K := by
  rw [spec_l01Phasor_vc]
  have hk := h
  unfold T_spec_l01Phasor at hk
  have e : (p_spec_l01Phasor turns) = _ := rfl
  have e := e.trans (p_spec_l01Phasor_eq turns)
  have g0 := Grow.refl H
  refine Br.intro (fun c_1 => ?_) (fun c_1 => ?_)
  · have e := e.trans (cond_t c_1)
    have c_1n := nf_of_t c_1
    refine T_spec_l01From_i ?_
    refine T_spec_l01From_i ?_
    rw [e] at hk
    exact hk
  · have e := e.trans (cond_f c_1)
    have c_1n := nt_of_f c_1
    refine Br.intro (fun c_2 => ?_) (fun c_2 => ?_)
    · have e := e.trans (cond_t c_2)
      rw [e] at hk
      exact hk
    · have e := e.trans (cond_f c_2)
      refine Br.intro (fun c_3 => ?_) (fun c_3 => ?_)
      · have e := e.trans (cond_t c_3)
        rw [e] at hk
        exact hk
      · have e := e.trans (cond_f c_3)
        refine ⟨_, opt_get (d := 0) (by exact fract_ne (wide_in (by assumption) (by assumption) (by assumption))), ?_⟩
        refine Br.intro (fun c_4 => ?_) (fun c_4 => ?_)
        · have e := e.trans (cond_t c_4)
          refine spec_l01Phasor_L1 _ _ _ _ (fun (μ : Nat) (f : Nat) (quarter : Int) (H_1 : AHeap) => H = H_1 ∧ Bd .f64 (lp .f64) f ∧ 0 ≤ quarter ∧ quarter + qm f ≤ 4 ∧ -4 ≤ qm f ∧ qm f ≤ (μ : Int) ∧ p_spec_l01Phasor turns = p_spec_l01Phasor_l1 turns (μ + 1) f quarter) (Int.toNat (qm (fadd .f64 (fsub .f64 turns (FloatKind.nearest .f64 (((ftoi .f64 turns .i64).getD 0)))) 4607182418800017408))) _ _ _ _ _ _ _ _ H ?_ ?_
          · exact ⟨rfl, o3, o3, o3, o3, o4, e⟩
          · intro μ f quarter g29 g30 g31 g32 g33 g34 H_1 hI
            obtain ⟨rfl, v_5, v_6, v_7, v_8, hμ, e⟩ := hI
            rw [spec_l01Phasor_r1]
            have e := e.trans (p_spec_l01Phasor_l1_s turns μ f quarter)
            have l_9 := g0.1
            refine Br.intro (fun c_10 => ?_) (fun c_10 => ?_)
            · have e := e.trans (cond_t c_10)
              rw [show IntKind.wrap .i64 (quarter + 1) = (quarter + 1) from wrap64 o4 o4]
              refine spec_l01Phasor_n1 (μ - 1) o21 ⟨rfl, o2, o2, o2, o2, o21, (by rw [show μ - 1 + 1 = μ from by first | omega | (have := qm_step (by assumption) (by assumption); omega)]; exact e)⟩
            · have e := e.trans (cond_f c_10)
              rw [spec_l01Phasor_x1_0]
              refine T_spec_l01SineWide_i ?_
              have z_11 := spec_sine_bd (fsub .f64 4598175219545276416 f) o23
              refine T_spec_l01SineWide_i ?_
              have z_12 := spec_sine_bd f o23
              refine Br.intro (fun c_13 => ?_) (fun c_13 => ?_)
              · have e := e.trans (cond_t c_13)
                have c_13' := ieq_t c_13
                refine T_spec_l01Narrow_i ⟨o6, ?_⟩
                refine T_spec_l01Narrow_i ⟨o6, ?_⟩
                rw [e] at hk
                exact hk
              · have e := e.trans (cond_f c_13)
                have c_13' := ieq_f c_13
                refine Br.intro (fun c_14 => ?_) (fun c_14 => ?_)
                · have e := e.trans (cond_t c_14)
                  have c_14' := ieq_t c_14
                  refine T_spec_l01Narrow_i ⟨o6, ?_⟩
                  refine T_spec_l01Narrow_i ⟨o6, ?_⟩
                  rw [e] at hk
                  exact hk
                · have e := e.trans (cond_f c_14)
                  have c_14' := ieq_f c_14
                  refine Br.intro (fun c_15 => ?_) (fun c_15 => ?_)
                  · have e := e.trans (cond_t c_15)
                    have c_15' := ieq_t c_15
                    refine T_spec_l01Narrow_i ⟨o6, ?_⟩
                    refine T_spec_l01Narrow_i ⟨o6, ?_⟩
                    rw [e] at hk
                    exact hk
                  · have e := e.trans (cond_f c_15)
                    have c_15' := ieq_f c_15
                    refine T_spec_l01Narrow_i ⟨o6, ?_⟩
                    refine T_spec_l01Narrow_i ⟨o6, ?_⟩
                    rw [e] at hk
                    exact hk
        · have e := e.trans (cond_f c_4)
          refine spec_l01Phasor_L1 _ _ _ _ (fun (μ : Nat) (f : Nat) (quarter : Int) (H_2 : AHeap) => H = H_2 ∧ Bd .f64 (lp .f64) f ∧ 0 ≤ quarter ∧ quarter + qm f ≤ 4 ∧ -4 ≤ qm f ∧ qm f ≤ (μ : Int) ∧ p_spec_l01Phasor turns = p_spec_l01Phasor_l1 turns (μ + 1) f quarter) (Int.toNat (qm (fsub .f64 turns (FloatKind.nearest .f64 (((ftoi .f64 turns .i64).getD 0)))))) _ _ _ _ _ _ _ _ H ?_ ?_
          · exact ⟨rfl, o3, o3, o3, o3, o4, e⟩
          · intro μ f quarter g29 g30 g31 g32 g33 g34 H_2 hI
            obtain ⟨rfl, v_16, v_17, v_18, v_19, hμ, e⟩ := hI
            rw [spec_l01Phasor_r1]
            have e := e.trans (p_spec_l01Phasor_l1_s turns μ f quarter)
            have l_20 := g0.1
            refine Br.intro (fun c_21 => ?_) (fun c_21 => ?_)
            · have e := e.trans (cond_t c_21)
              rw [show IntKind.wrap .i64 (quarter + 1) = (quarter + 1) from wrap64 o4 o4]
              refine spec_l01Phasor_n1 (μ - 1) o21 ⟨rfl, o2, o2, o2, o2, o21, (by rw [show μ - 1 + 1 = μ from by first | omega | (have := qm_step (by assumption) (by assumption); omega)]; exact e)⟩
            · have e := e.trans (cond_f c_21)
              rw [spec_l01Phasor_x1_0]
              refine T_spec_l01SineWide_i ?_
              have z_22 := spec_sine_bd (fsub .f64 4598175219545276416 f) o23
              refine T_spec_l01SineWide_i ?_
              have z_23 := spec_sine_bd f o23
              refine Br.intro (fun c_24 => ?_) (fun c_24 => ?_)
              · have e := e.trans (cond_t c_24)
                have c_24' := ieq_t c_24
                refine T_spec_l01Narrow_i ⟨o6, ?_⟩
                refine T_spec_l01Narrow_i ⟨o6, ?_⟩
                rw [e] at hk
                exact hk
              · have e := e.trans (cond_f c_24)
                have c_24' := ieq_f c_24
                refine Br.intro (fun c_25 => ?_) (fun c_25 => ?_)
                · have e := e.trans (cond_t c_25)
                  have c_25' := ieq_t c_25
                  refine T_spec_l01Narrow_i ⟨o6, ?_⟩
                  refine T_spec_l01Narrow_i ⟨o6, ?_⟩
                  rw [e] at hk
                  exact hk
                · have e := e.trans (cond_f c_25)
                  have c_25' := ieq_f c_25
                  refine Br.intro (fun c_26 => ?_) (fun c_26 => ?_)
                  · have e := e.trans (cond_t c_26)
                    have c_26' := ieq_t c_26
                    refine T_spec_l01Narrow_i ⟨o6, ?_⟩
                    refine T_spec_l01Narrow_i ⟨o6, ?_⟩
                    rw [e] at hk
                    exact hk
                  · have e := e.trans (cond_f c_26)
                    have c_26' := ieq_f c_26
                    refine T_spec_l01Narrow_i ⟨o6, ?_⟩
                    refine T_spec_l01Narrow_i ⟨o6, ?_⟩
                    rw [e] at hk
                    exact hk
theorem spec_l01Phasor_ok : FnOk Try.prog 111 S_spec_l01Phasor := by
  refine FnOk.body mix_ok E_spec_l01Phasor_ok Try.func111 rfl (by kernel_rfl) (by kernel_rfl) ?_ ?_ ?_ ?_ ?_
  · intro args H K K' h hk
    simp only [S_spec_l01Phasor] at *
    unfold F_spec_l01Phasor at *
    split at hk
    · have k := hk
      exact h _ _ k
    · exact hk.elim
  · intro _ args H K hk
    simp only [S_spec_l01Phasor] at *
    unfold F_spec_l01Phasor at *
    split at hk
    · have k := hk
      exact ⟨_, k, fun K' k' => k'⟩
    · exact hk.elim
  · intro args H K hk
    simp only [S_spec_l01Phasor] at *
    unfold F_spec_l01Phasor at *
    split at hk
    · have k := hk
      exact ⟨_, _, k⟩
    · exact hk.elim
  · intro hq; cases hq
  · have mm := @spec_l01Phasor_main
    revert mm
    generalize bodyK Try.prog E_spec_l01Phasor Try.f111 = Q
    intro mm args H K hk
    simp only [S_spec_l01Phasor] at *
    unfold F_spec_l01Phasor at *
    split at hk
    · exact mm _ H K hk
    · exact hk.elim
def p_spec_l01Scale (x_r : Nat) (x_i : Nat) (vby : Nat) : Nat × Nat := (fmul .f32 x_r vby, fmul .f32 x_i vby)
def p_spec_l01Scale_eq := @p_spec_l01Scale.eq_1
def T_spec_l01Scale (x_r : Nat) (x_i : Nat) (vby : Nat) (H : AHeap) (K : Nat → Nat → AHeap → Prop) : Prop := K (p_spec_l01Scale x_r x_i vby).1 (p_spec_l01Scale x_r x_i vby).2 H

theorem T_spec_l01Scale_i {x_r : Nat} {x_i : Nat} {vby : Nat} {H : AHeap} {K : Nat → Nat → AHeap → Prop} (h : K (p_spec_l01Scale x_r x_i vby).1 (p_spec_l01Scale x_r x_i vby).2 H) : T_spec_l01Scale x_r x_i vby H K := h
/-! spec_l01Scale: function 110 -/
def E_spec_l01Scale : Env := envOf []
def F_spec_l01Scale : List Value → AHeap → (Value → AHeap → Prop) → Prop
  | [.complex .f32 x_r x_i, .float .f32 vby], H, K => T_spec_l01Scale x_r x_i vby H fun (r1_r : Nat) (r1_i : Nat) (H' : AHeap) => K (.complex .f32 r1_r r1_i) H'
  | _, _, _ => False
def S_spec_l01Scale : FSpec := { F := F_spec_l01Scale, quiet := true, tame := false }
theorem spec_l01Scale_vc (x_r : Nat) (x_i : Nat) (vby : Nat) (H : AHeap) (K : Value → AHeap → Prop) : bodyK Try.prog E_spec_l01Scale Try.f110 [.complex .f32 x_r x_i, .float .f32 vby] H K =
  (K (.complex .f32 (fmul .f32 x_r vby) (fmul .f32 x_i vby)) H) := by kernel_rfl
theorem E_spec_l01Scale_ok : ∀ g, FnOk Try.prog g (E_spec_l01Scale g) := FnOk.envOf (by
  intro x hx; cases hx)
set_option maxHeartbeats 1000000 in
theorem spec_l01Scale_main (x_r : Nat) (x_i : Nat) (vby : Nat) (H : AHeap) (K : Value → AHeap → Prop) (h : T_spec_l01Scale x_r x_i vby H fun (r1_r : Nat) (r1_i : Nat) (H' : AHeap) => K (.complex .f32 r1_r r1_i) H') : bodyK Try.prog E_spec_l01Scale Try.f110 [.complex .f32 x_r x_i, .float .f32 vby] H K := by
  rw [spec_l01Scale_vc]
  unfold T_spec_l01Scale p_spec_l01Scale at h
  repeat' (first | exact h | (exfalso; simp_all; done) | (refine ⟨by decide, ?_⟩) | (refine Br.intro (fun hb => ?_) (fun hb => ?_) <;> (try simp only [hb, cond_true, cond_false, Bool.not_true, Bool.not_false] at h)))
theorem spec_l01Scale_ok : FnOk Try.prog 110 S_spec_l01Scale := by
  refine FnOk.body mix_ok E_spec_l01Scale_ok Try.func110 rfl (by kernel_rfl) (by kernel_rfl) ?_ ?_ ?_ ?_ ?_
  · intro args H K K' h hk
    simp only [S_spec_l01Scale] at *
    unfold F_spec_l01Scale at *
    split at hk
    · have k := hk
      exact h _ _ k
    · exact hk.elim
  · intro _ args H K hk
    simp only [S_spec_l01Scale] at *
    unfold F_spec_l01Scale at *
    split at hk
    · have k := hk
      exact ⟨_, k, fun K' k' => k'⟩
    · exact hk.elim
  · intro args H K hk
    simp only [S_spec_l01Scale] at *
    unfold F_spec_l01Scale at *
    split at hk
    · have k := hk
      exact ⟨_, _, k⟩
    · exact hk.elim
  · intro hq; cases hq
  · have mm := @spec_l01Scale_main
    revert mm
    generalize bodyK Try.prog E_spec_l01Scale Try.f110 = Q
    intro mm args H K hk
    simp only [S_spec_l01Scale] at *
    unfold F_spec_l01Scale at *
    split at hk
    · exact mm _ _ _ H K hk
    · exact hk.elim

def p_spec_l03Kernel_l1 (scale : Nat) : Nat → (List (Nat × Nat)) → Int → (List (Nat × Nat))
  | 0, _, _ => []
  | μ + 1, l_vout, k => (bif decide ((k : Int) ≤ (2 * (((ftoi .f64 ((p_math_Ceil (fwide (fmul .f32 1077936128 scale)))) .i64).getD 0)))) then (p_spec_l03Kernel_l1 scale μ ((l_vout ++ [((p_spec_l01Scale ((p_spec_l01Phasor (fwide (fdiv .f32 (FloatKind.nearest .f32 ((k - (((ftoi .f64 ((p_math_Ceil (fwide (fmul .f32 1077936128 scale)))) .i64).getD 0))))) scale))).1) ((p_spec_l01Phasor (fwide (fdiv .f32 (FloatKind.nearest .f32 ((k - (((ftoi .f64 ((p_math_Ceil (fwide (fmul .f32 1077936128 scale)))) .i64).getD 0))))) scale))).2) (fdiv .f32 ((p_spec_l01Exp (fmul .f32 (fmul .f32 3204448256 (fdiv .f32 (FloatKind.nearest .f32 ((k - (((ftoi .f64 ((p_math_Ceil (fwide (fmul .f32 1077936128 scale)))) .i64).getD 0))))) scale)) (fdiv .f32 (FloatKind.nearest .f32 ((k - (((ftoi .f64 ((p_math_Ceil (fwide (fmul .f32 1077936128 scale)))) .i64).getD 0))))) scale)))) scale)).1, (p_spec_l01Scale ((p_spec_l01Phasor (fwide (fdiv .f32 (FloatKind.nearest .f32 ((k - (((ftoi .f64 ((p_math_Ceil (fwide (fmul .f32 1077936128 scale)))) .i64).getD 0))))) scale))).1) ((p_spec_l01Phasor (fwide (fdiv .f32 (FloatKind.nearest .f32 ((k - (((ftoi .f64 ((p_math_Ceil (fwide (fmul .f32 1077936128 scale)))) .i64).getD 0))))) scale))).2) (fdiv .f32 ((p_spec_l01Exp (fmul .f32 (fmul .f32 3204448256 (fdiv .f32 (FloatKind.nearest .f32 ((k - (((ftoi .f64 ((p_math_Ceil (fwide (fmul .f32 1077936128 scale)))) .i64).getD 0))))) scale)) (fdiv .f32 (FloatKind.nearest .f32 ((k - (((ftoi .f64 ((p_math_Ceil (fwide (fmul .f32 1077936128 scale)))) .i64).getD 0))))) scale)))) scale)).2)])) (k + 1)) else l_vout)
def p_spec_l03Kernel_l1_s := fun scale μ l_vout k => @p_spec_l03Kernel_l1.eq_2 scale l_vout k μ
def p_spec_l03Kernel (scale : Nat) : (List (Nat × Nat)) := (p_spec_l03Kernel_l1 scale (Int.toNat ((2 * (((ftoi .f64 ((p_math_Ceil (fwide (fmul .f32 1077936128 scale)))) .i64).getD 0))) - (0 : Int) + 1) + 1) (([] : List (Nat × Nat))) (0 : Int))
def p_spec_l03Kernel_eq := @p_spec_l03Kernel.eq_1
def T_spec_l03Kernel (scale : Nat) (H : AHeap) (K : (Option Addr) → Nat → Nat → AHeap → Prop) : Prop := (bif fle .f32 1056964608 scale then fle .f32 scale 1098907648 else false) = true ∧ ((∀ (r1_a : Option Addr) (r1_n r1_e : Nat), ∀ H' : AHeap, Grow H H' → OwnS fC H' H.length r1_a r1_n r1_e (p_spec_l03Kernel scale) → K r1_a r1_n r1_e H'))
theorem T_spec_l03Kernel_i {scale : Nat} {H : AHeap} {K : (Option Addr) → Nat → Nat → AHeap → Prop} (h : (bif fle .f32 1056964608 scale then fle .f32 scale 1098907648 else false) = true ∧ ((∀ (r1_a : Option Addr) (r1_n r1_e : Nat), ∀ H' : AHeap, Grow H H' → OwnS fC H' H.length r1_a r1_n r1_e (p_spec_l03Kernel scale) → K r1_a r1_n r1_e H'))) : T_spec_l03Kernel scale H K := h
theorem spec_l03Kernel_l1_len (x : Nat) : ∀ (μ : Nat) (o : List (Nat × Nat)) (k : Int), (p_spec_l03Kernel_l1 x μ o k).length ≤ o.length + μ := by
  intro μ
  induction μ with
  | zero => intro o k; exact Nat.zero_le _
  | succ μ ih =>
    intro o k
    rw [p_spec_l03Kernel_l1_s]
    cases decide (k ≤ (2 * (((ftoi .f64 ((p_math_Ceil (fwide (fmul .f32 1077936128 x)))) .i64).getD 0))))
    · show o.length ≤ _; omega
    · simp only [cond_true]
      refine Nat.le_trans (ih _ _) ?_
      rw [List.length_append, List.length_singleton]; omega
theorem spec_l03Kernel_len (x : Nat) (h : (bif fle .f32 1056964608 x then fle .f32 x 1098907648 else false) = true) : (p_spec_l03Kernel x).length ≤ 1000 := by
  have hr : -256 ≤ (ftoi .f64 (p_math_Ceil (fwide (fmul .f32 1077936128 x))) .i64).getD 0 ∧ (ftoi .f64 (p_math_Ceil (fwide (fmul .f32 1077936128 x))) .i64).getD 0 ≤ 256 := rad_le h
  rw [p_spec_l03Kernel_eq]
  refine Nat.le_trans (spec_l03Kernel_l1_len _ _ _ _) ?_
  rw [List.length_nil]; omega
/-! spec_l03Kernel: function 84 -/
def E_spec_l03Kernel : Env := envOf [(108, S_math_Ceil), (109, S_spec_l01Exp), (111, S_spec_l01Phasor), (110, S_spec_l01Scale)]
def F_spec_l03Kernel : List Value → AHeap → (Value → AHeap → Prop) → Prop
  | [.float .f32 scale], H, K => T_spec_l03Kernel scale H fun (r1_a : Option Addr) (r1_n : Nat) (r1_e : Nat) (H' : AHeap) => K (.slice r1_a r1_n r1_e) H'
  | _, _, _ => False
def S_spec_l03Kernel : FSpec := { F := F_spec_l03Kernel, quiet := false, tame := true }
theorem spec_l03Kernel_vc (scale : Nat) (H : AHeap) (K : Value → AHeap → Prop) : bodyK Try.prog E_spec_l03Kernel Try.f84 [.float .f32 scale] H K =
  (T_math_Ceil (fwide (fmul .f32 1077936128 scale)) H fun (r1 : Nat) (H1 : AHeap) => ∃ n1 : Int, ftoi .f64 r1 .i64 = some n1 ∧ Al [] H1 fun b1 H2 => loopK (exK Try.prog E_spec_l03Kernel (cl (cl (cr (cl (cr (cr (cr (bodyC Try.f84))))))))) [.float .f32 scale, undef, .slice none 0 0, .int .i64 n1, .slice (some ⟨b1, 0, none⟩) 0 1, .int .i64 0, undef, undef, .float .f32 scale, .float .f32 (fmul .f32 1077936128 scale), .float .f64 (fwide (fmul .f32 1077936128 scale)), .float .f64 r1, .int .i64 n1, .slice (some ⟨b1, 0, none⟩) 0 1, undef, undef, undef, undef, undef, undef, undef, undef, undef, undef, undef, undef, undef, undef, undef, undef, undef, undef, undef, undef, undef, undef, undef, undef, undef, undef, undef, undef] H2 (blockQ 0 (seqQ (exK Try.prog E_spec_l03Kernel (cr (cr (cr (cr (bodyC Try.f84)))))) (retK Try.prog Try.f84 K)))) := by kernel_rfl
abbrev spec_l03Kernel_P1 (b1 : Nat) (n1 : Int) (r1 : Nat) (scale : Nat) (vout_a : Option Addr) (vout_n : Nat) (vout_e : Nat) (k : Int) (g6 g7 g14 g15 g16 g17 g18 g19 g20 g21 g22 g23 g24 g25 g26 g27 g28 g29 g30 g31 g32 g33 g34 g35 g36 g37 g38 g39 g40 : Value) : List Value := [.float .f32 scale, undef, .slice none 0 0, .int .i64 n1, .slice vout_a vout_n vout_e, .int .i64 k, g6, g7, .float .f32 scale, .float .f32 (fmul .f32 1077936128 scale), .float .f64 (fwide (fmul .f32 1077936128 scale)), .float .f64 r1, .int .i64 n1, .slice (some ⟨b1, 0, none⟩) 0 1, g14, g15, g16, g17, g18, g19, g20, g21, g22, g23, g24, g25, g26, g27, g28, g29, g30, g31, g32, g33, g34, g35, g36, g37, g38, g39, g40, undef]
theorem spec_l03Kernel_r1 (b1 : Nat) (n1 : Int) (r1 : Nat) (scale : Nat) (vout_a : Option Addr) (vout_n : Nat) (vout_e : Nat) (k : Int) (g6 g7 g14 g15 g16 g17 g18 g19 g20 g21 g22 g23 g24 g25 g26 g27 g28 g29 g30 g31 g32 g33 g34 g35 g36 g37 g38 g39 g40 : Value) (H : AHeap) (R : Post) : exK Try.prog E_spec_l03Kernel (cl (cl (cr (cl (cr (cr (cr (bodyC Try.f84)))))))) (spec_l03Kernel_P1 b1 n1 r1 scale vout_a vout_n vout_e k g6 g7 g14 g15 g16 g17 g18 g19 g20 g21 g22 g23 g24 g25 g26 g27 g28 g29 g30 g31 g32 g33 g34 g35 g36 g37 g38 g39 g40) H R =
  (Br (decide ((k : Int) ≤ IntKind.wrap .i64 (2 * n1))) (T_spec_l01Exp (fmul .f32 (fmul .f32 3204448256 (fdiv .f32 (FloatKind.nearest .f32 (IntKind.wrap .i64 (k - n1))) scale)) (fdiv .f32 (FloatKind.nearest .f32 (IntKind.wrap .i64 (k - n1))) scale)) H fun (r2 : Nat) (H3 : AHeap) => T_spec_l01Phasor (fwide (fdiv .f32 (FloatKind.nearest .f32 (IntKind.wrap .i64 (k - n1))) scale)) H3 fun (r3 : Nat) (r4 : Nat) (H4 : AHeap) => T_spec_l01Scale r3 r4 (fdiv .f32 r2 scale) H4 fun (r5 : Nat) (r6 : Nat) (H5 : AHeap) => Al [.complex .f32 r5 r6] H5 fun b2 H6 => ∃ o1 w1 : List Value, ownB H6 vout_a vout_n vout_e 1 = some o1 ∧ rdS H6 (some ⟨b2, 0, none⟩) (1 * 1) = some w1 ∧ ((vout_a : Option Addr) = none → 0 < (1 : Nat)) ∧ (vout_n : Nat) + 1 < most ∧ Ap H6 (killB H6 vout_a ++ [some ⟨o1 ++ w1, true⟩]) fun b3 H7 => R .normal [.float .f32 scale, undef, .slice none 0 0, .int .i64 n1, .slice (some ⟨b3, 0, none⟩) (vout_n + 1) 1, .int .i64 (IntKind.wrap .i64 (k + 1)), .float .f32 (fdiv .f32 (FloatKind.nearest .f32 (IntKind.wrap .i64 (k - n1))) scale), .float .f32 (fdiv .f32 r2 scale), .float .f32 scale, .float .f32 (fmul .f32 1077936128 scale), .float .f64 (fwide (fmul .f32 1077936128 scale)), .float .f64 r1, .int .i64 n1, .slice (some ⟨b1, 0, none⟩) 0 1, .int .i64 k, .int .i64 n1, .int .i64 (IntKind.wrap .i64 (2 * n1)), .bool (decide ((k : Int) ≤ IntKind.wrap .i64 (2 * n1))), .int .i64 k, .int .i64 (IntKind.wrap .i64 (k + 1)), .int .i64 k, .int .i64 n1, .int .i64 (IntKind.wrap .i64 (k - n1)), .float .f32 (FloatKind.nearest .f32 (IntKind.wrap .i64 (k - n1))), .float .f32 scale, .float .f32 (fdiv .f32 (FloatKind.nearest .f32 (IntKind.wrap .i64 (k - n1))) scale), .float .f32 (fdiv .f32 (FloatKind.nearest .f32 (IntKind.wrap .i64 (k - n1))) scale), .float .f32 (fmul .f32 3204448256 (fdiv .f32 (FloatKind.nearest .f32 (IntKind.wrap .i64 (k - n1))) scale)), .float .f32 (fdiv .f32 (FloatKind.nearest .f32 (IntKind.wrap .i64 (k - n1))) scale), .float .f32 (fmul .f32 (fmul .f32 3204448256 (fdiv .f32 (FloatKind.nearest .f32 (IntKind.wrap .i64 (k - n1))) scale)) (fdiv .f32 (FloatKind.nearest .f32 (IntKind.wrap .i64 (k - n1))) scale)), .float .f32 r2, .float .f32 scale, .float .f32 (fdiv .f32 r2 scale), .slice vout_a vout_n vout_e, .float .f32 (fdiv .f32 (FloatKind.nearest .f32 (IntKind.wrap .i64 (k - n1))) scale), .float .f64 (fwide (fdiv .f32 (FloatKind.nearest .f32 (IntKind.wrap .i64 (k - n1))) scale)), .complex .f32 r3 r4, .float .f32 (fdiv .f32 r2 scale), .complex .f32 r5 r6, .slice (some ⟨b2, 0, none⟩) 1 1, .slice (some ⟨b3, 0, none⟩) (vout_n + 1) 1, undef] H7) (R (.exit 0) [.float .f32 scale, undef, .slice none 0 0, .int .i64 n1, .slice vout_a vout_n vout_e, .int .i64 k, g6, g7, .float .f32 scale, .float .f32 (fmul .f32 1077936128 scale), .float .f64 (fwide (fmul .f32 1077936128 scale)), .float .f64 r1, .int .i64 n1, .slice (some ⟨b1, 0, none⟩) 0 1, .int .i64 k, .int .i64 n1, .int .i64 (IntKind.wrap .i64 (2 * n1)), .bool (decide ((k : Int) ≤ IntKind.wrap .i64 (2 * n1))), g18, g19, g20, g21, g22, g23, g24, g25, g26, g27, g28, g29, g30, g31, g32, g33, g34, g35, g36, g37, g38, g39, g40, undef] H)) := by kernel_rfl
def spec_l03Kernel_I1 (b1 : Nat) (n1 : Int) (r1 : Nat) (scale : Nat) (Inv : Nat → (Option Addr) → Nat → Nat → Int → AHeap → Prop) : Nat → List Value → AHeap → Prop := fun μ tm H => ∃ (vout_a : Option Addr), ∃ (vout_n : Nat), ∃ (vout_e : Nat), ∃ (k : Int), ∃ g6 g7 g14 g15 g16 g17 g18 g19 g20 g21 g22 g23 g24 g25 g26 g27 g28 g29 g30 g31 g32 g33 g34 g35 g36 g37 g38 g39 g40, tm = (spec_l03Kernel_P1 b1 n1 r1 scale vout_a vout_n vout_e k g6 g7 g14 g15 g16 g17 g18 g19 g20 g21 g22 g23 g24 g25 g26 g27 g28 g29 g30 g31 g32 g33 g34 g35 g36 g37 g38 g39 g40) ∧ Inv μ vout_a vout_n vout_e k H
theorem spec_l03Kernel_L1 (b1 : Nat) (n1 : Int) (r1 : Nat) (scale : Nat) {Q : Post} (Inv : Nat → (Option Addr) → Nat → Nat → Int → AHeap → Prop) (ν : Nat) (vout_a : Option Addr) (vout_n : Nat) (vout_e : Nat) (k : Int) (g6 g7 g14 g15 g16 g17 g18 g19 g20 g21 g22 g23 g24 g25 g26 g27 g28 g29 g30 g31 g32 g33 g34 g35 g36 g37 g38 g39 g40 : Value) (H : AHeap) (h0 : Inv ν vout_a vout_n vout_e k H)
    (hs : ∀ (μ : Nat) (vout_a : Option Addr) (vout_n : Nat) (vout_e : Nat) (k : Int) (g6 g7 g14 g15 g16 g17 g18 g19 g20 g21 g22 g23 g24 g25 g26 g27 g28 g29 g30 g31 g32 g33 g34 g35 g36 g37 g38 g39 g40 : Value) (H : AHeap), Inv μ vout_a vout_n vout_e k H → exK Try.prog E_spec_l03Kernel (cl (cl (cr (cl (cr (cr (cr (bodyC Try.f84)))))))) (spec_l03Kernel_P1 b1 n1 r1 scale vout_a vout_n vout_e k g6 g7 g14 g15 g16 g17 g18 g19 g20 g21 g22 g23 g24 g25 g26 g27 g28 g29 g30 g31 g32 g33 g34 g35 g36 g37 g38 g39 g40) H (loopQ (spec_l03Kernel_I1 b1 n1 r1 scale Inv) μ Q)) : loopK (exK Try.prog E_spec_l03Kernel (cl (cl (cr (cl (cr (cr (cr (bodyC Try.f84))))))))) (spec_l03Kernel_P1 b1 n1 r1 scale vout_a vout_n vout_e k g6 g7 g14 g15 g16 g17 g18 g19 g20 g21 g22 g23 g24 g25 g26 g27 g28 g29 g30 g31 g32 g33 g34 g35 g36 g37 g38 g39 g40) H Q :=
  ⟨spec_l03Kernel_I1 b1 n1 r1 scale Inv, ν, ⟨vout_a, vout_n, vout_e, k, g6, g7, g14, g15, g16, g17, g18, g19, g20, g21, g22, g23, g24, g25, g26, g27, g28, g29, g30, g31, g32, g33, g34, g35, g36, g37, g38, g39, g40, rfl, h0⟩, fun μ tm H h => by obtain ⟨vout_a, vout_n, vout_e, k, g6, g7, g14, g15, g16, g17, g18, g19, g20, g21, g22, g23, g24, g25, g26, g27, g28, g29, g30, g31, g32, g33, g34, g35, g36, g37, g38, g39, g40, rfl, hI⟩ := h; exact hs μ vout_a vout_n vout_e k g6 g7 g14 g15 g16 g17 g18 g19 g20 g21 g22 g23 g24 g25 g26 g27 g28 g29 g30 g31 g32 g33 g34 g35 g36 g37 g38 g39 g40 H hI⟩
theorem spec_l03Kernel_n1 {b1 : Nat} {n1 : Int} {r1 : Nat} {scale : Nat} {Q : Post} {Inv : Nat → (Option Addr) → Nat → Nat → Int → AHeap → Prop} {μ : Nat} (μ' : Nat) {vout_a : Option Addr} {vout_n : Nat} {vout_e : Nat} {k : Int} {g6 g7 g14 g15 g16 g17 g18 g19 g20 g21 g22 g23 g24 g25 g26 g27 g28 g29 g30 g31 g32 g33 g34 g35 g36 g37 g38 g39 g40 : Value} {H : AHeap} (hm : μ' < μ) (hI : Inv μ' vout_a vout_n vout_e k H) : loopQ (spec_l03Kernel_I1 b1 n1 r1 scale Inv) μ Q .normal (spec_l03Kernel_P1 b1 n1 r1 scale vout_a vout_n vout_e k g6 g7 g14 g15 g16 g17 g18 g19 g20 g21 g22 g23 g24 g25 g26 g27 g28 g29 g30 g31 g32 g33 g34 g35 g36 g37 g38 g39 g40) H := ⟨μ', hm, vout_a, vout_n, vout_e, k, g6, g7, g14, g15, g16, g17, g18, g19, g20, g21, g22, g23, g24, g25, g26, g27, g28, g29, g30, g31, g32, g33, g34, g35, g36, g37, g38, g39, g40, rfl, hI⟩
theorem spec_l03Kernel_x1_0 (b1 : Nat) (n1 : Int) (r1 : Nat) (scale : Nat) (vout_a : Option Addr) (vout_n : Nat) (vout_e : Nat) (k : Int) (g6 g7 g14 g15 g16 g17 g18 g19 g20 g21 g22 g23 g24 g25 g26 g27 g28 g29 g30 g31 g32 g33 g34 g35 g36 g37 g38 g39 g40 : Value) (H : AHeap) (K : Value → AHeap → Prop)  {I : Nat → List Value → AHeap → Prop} {μ : Nat} : loopQ I μ (blockQ 0 (seqQ (exK Try.prog E_spec_l03Kernel (cr (cr (cr (cr (bodyC Try.f84)))))) (retK Try.prog Try.f84 K))) (.exit 0) (spec_l03Kernel_P1 b1 n1 r1 scale vout_a vout_n vout_e k g6 g7 g14 g15 g16 g17 g18 g19 g20 g21 g22 g23 g24 g25 g26 g27 g28 g29 g30 g31 g32 g33 g34 g35 g36 g37 g38 g39 g40) H =
  (K (.slice vout_a vout_n vout_e) H) := by kernel_rfl
theorem E_spec_l03Kernel_ok : ∀ g, FnOk Try.prog g (E_spec_l03Kernel g) := FnOk.envOf (by
  intro x hx
  simp only [List.mem_cons, List.not_mem_nil, or_false] at hx
  rcases hx with rfl | rfl | rfl | rfl
  · exact math_Ceil_ok
  · exact spec_l01Exp_ok
  · exact spec_l01Phasor_ok
  · exact spec_l01Scale_ok)
theorem o8 {P : Prop} (h : P := by first | rfl | omega | (simp only [List.length_set]; done) | (simp only [List.length_set, List.length_replicate]; omega)) : P := h
theorem o9 {P : Prop} (h : P := by first | (simp only [List.length_map, List.length_cons, List.length_nil, List.length_append]; done) | (simp only [List.length_map, List.length_cons, List.length_nil, List.length_append]; omega) | (simp only [List.length_map, List.length_cons, List.length_nil, List.length_append, List.length_take, List.length_drop]; omega)) : P := h
theorem o11 {P : Prop} (h : P := by first | omega | (simp only [List.length_append, List.length_cons, List.length_nil]; done) | (simp only [List.length_append, List.length_cons, List.length_nil]; omega) | (simp only [List.length_append, List.length_cons, List.length_nil, List.length_take, List.length_drop]; omega)) : P := h
set_option maxHeartbeats 1000000 in
theorem spec_l03Kernel_main (scale : Nat) (H : AHeap) (K : Value → AHeap → Prop) (h : T_spec_l03Kernel scale H fun (r1_a : Option Addr) (r1_n : Nat) (r1_e : Nat) (H' : AHeap) => K (.slice r1_a r1_n r1_e) H') : bodyK Try.prog E_spec_l03Kernel Try.f84 [.float .f32 scale] H K := by
  rw [spec_l03Kernel_vc]
  obtain ⟨pr0, hk⟩ := h
  have hr : -256 ≤ (ftoi .f64 (p_math_Ceil (fwide (fmul .f32 1077936128 scale))) .i64).getD 0 ∧ (ftoi .f64 (p_math_Ceil (fwide (fmul .f32 1077936128 scale))) .i64).getD 0 ≤ 256 := rad_le (by assumption)
  have e : (p_spec_l03Kernel scale) = _ := rfl
  have e := e.trans (p_spec_l03Kernel_eq scale)
  have g0 := Grow.refl H
  refine T_math_Ceil_i ?_
  refine ⟨_, opt_get (d := 0) (by exact rad_ne (by assumption)), ?_⟩
  refine Al.intro (fun b_1 H_1 hb_2 hl_3 g_4 o_5 => ?_)
  have o_5 : Own H_1 b_1 ((([] : List (Nat × Nat))).map fC) := o_5
  have l_7 := g_4.1
  have g_8 := g0.trans g_4
  have l_9 := g_8.1
  have w_44 := o_5.lt
  refine spec_l03Kernel_L1 _ _ _ _ (fun (μ : Nat) (vout_a : Option Addr) (vout_n : Nat) (vout_e : Nat) (k : Int) (H_2 : AHeap) => ∃ (l_vout : List (Nat × Nat)), ∃ (b_10 : Nat), vout_a = some ⟨b_10, 0, none⟩ ∧ vout_n = l_vout.length ∧ vout_e = 1 ∧ Own H_2 b_10 (l_vout.map fC) ∧ Grow H H_2 ∧ H.length ≤ b_10 ∧ (0 : Int) ≤ k ∧ ((k ≤ (2 * (((ftoi .f64 ((p_math_Ceil (fwide (fmul .f32 1077936128 scale)))) .i64).getD 0))) + 1 ∨ k ≤ (0 : Int))) ∧ (l_vout.length : Int) ≤ k ∧ (2 * (((ftoi .f64 ((p_math_Ceil (fwide (fmul .f32 1077936128 scale)))) .i64).getD 0))) - k + 1 ≤ (μ : Int) ∧ p_spec_l03Kernel scale = p_spec_l03Kernel_l1 scale (μ + 1) l_vout k) (Int.toNat ((2 * (((ftoi .f64 ((p_math_Ceil (fwide (fmul .f32 1077936128 scale)))) .i64).getD 0))) - (0 : Int) + 1)) _ _ _ _ _ _ _ _ _ _ _ _ _ _ _ _ _ _ _ _ _ _ _ _ _ _ _ _ _ _ _ _ _ H_1 ?_ ?_
  · exact ⟨_, _, rfl, o8, rfl, o_5, g_8, o4, o5, o5, o5, o4, e⟩
  · intro μ vout_a vout_n vout_e k g6 g7 g14 g15 g16 g17 g18 g19 g20 g21 g22 g23 g24 g25 g26 g27 g28 g29 g30 g31 g32 g33 g34 g35 g36 g37 g38 g39 g40 H_2 hI
    obtain ⟨l_vout, b_10, rfl, rfl, rfl, o_11, g_12, l_13, v_14, v_15, v_16, hμ, e⟩ := hI
    rw [spec_l03Kernel_r1]
    have e := e.trans (p_spec_l03Kernel_l1_s scale μ l_vout k)
    have w_17 := o_11.lt
    have l_18 := g_12.1
    rw [show IntKind.wrap .i64 (2 * (((ftoi .f64 ((p_math_Ceil (fwide (fmul .f32 1077936128 scale)))) .i64).getD 0))) = (2 * (((ftoi .f64 ((p_math_Ceil (fwide (fmul .f32 1077936128 scale)))) .i64).getD 0))) from wrap64 o4 o4]
    refine Br.intro (fun c_19 => ?_) (fun c_19 => ?_)
    · have e := e.trans (cond_t c_19)
      have c_19' := of_decide_eq_true c_19
      rw [show IntKind.wrap .i64 (k - (((ftoi .f64 ((p_math_Ceil (fwide (fmul .f32 1077936128 scale)))) .i64).getD 0))) = (k - (((ftoi .f64 ((p_math_Ceil (fwide (fmul .f32 1077936128 scale)))) .i64).getD 0))) from wrap64 o4 o4]
      refine T_spec_l01Exp_i ⟨(by first | assumption | omega | (simp; omega) | (exact spec_l01ExpWide_nar (sq_neg (by decide +kernel)))), ?_⟩
      refine T_spec_l01Phasor_i ?_
      refine T_spec_l01Scale_i ?_
      refine Al.intro (fun b_20 H_3 hb_21 hl_22 g_23 o_24 => ?_)
      have o_24 : Own H_3 b_20 (([((p_spec_l01Scale ((p_spec_l01Phasor (fwide (fdiv .f32 (FloatKind.nearest .f32 ((k - (((ftoi .f64 ((p_math_Ceil (fwide (fmul .f32 1077936128 scale)))) .i64).getD 0))))) scale))).1) ((p_spec_l01Phasor (fwide (fdiv .f32 (FloatKind.nearest .f32 ((k - (((ftoi .f64 ((p_math_Ceil (fwide (fmul .f32 1077936128 scale)))) .i64).getD 0))))) scale))).2) (fdiv .f32 ((p_spec_l01Exp (fmul .f32 (fmul .f32 3204448256 (fdiv .f32 (FloatKind.nearest .f32 ((k - (((ftoi .f64 ((p_math_Ceil (fwide (fmul .f32 1077936128 scale)))) .i64).getD 0))))) scale)) (fdiv .f32 (FloatKind.nearest .f32 ((k - (((ftoi .f64 ((p_math_Ceil (fwide (fmul .f32 1077936128 scale)))) .i64).getD 0))))) scale)))) scale)).1, (p_spec_l01Scale ((p_spec_l01Phasor (fwide (fdiv .f32 (FloatKind.nearest .f32 ((k - (((ftoi .f64 ((p_math_Ceil (fwide (fmul .f32 1077936128 scale)))) .i64).getD 0))))) scale))).1) ((p_spec_l01Phasor (fwide (fdiv .f32 (FloatKind.nearest .f32 ((k - (((ftoi .f64 ((p_math_Ceil (fwide (fmul .f32 1077936128 scale)))) .i64).getD 0))))) scale))).2) (fdiv .f32 ((p_spec_l01Exp (fmul .f32 (fmul .f32 3204448256 (fdiv .f32 (FloatKind.nearest .f32 ((k - (((ftoi .f64 ((p_math_Ceil (fwide (fmul .f32 1077936128 scale)))) .i64).getD 0))))) scale)) (fdiv .f32 (FloatKind.nearest .f32 ((k - (((ftoi .f64 ((p_math_Ceil (fwide (fmul .f32 1077936128 scale)))) .i64).getD 0))))) scale)))) scale)).2)]).map fC) := o_24
      have l_26 := g_23.1
      have g_27 := g_12.trans g_23
      have l_28 := g_27.1
      have o_29 := o_11.grow g_23
      have w_30 := o_29.lt
      have w_43 := o_24.lt
      refine ⟨_, _, o_29.ownB o9 rfl, (isl_rdS (o_24.isL o8)), (fun h => by cases h), o24, ?_⟩
      refine Ap.app o_29 rfl rfl (fun b_35 H_4 q_41 hl_31 o_32 k_33 => ?_)
      have o_32 := map_snoc o_32
      have l_36 := k_33.1
      have g_37 := g_27.keep (b := b_10) o4 k_33
      have l_38 := g_37.1
      have o_39 := o_24.keep o4 k_33
      have w_40 := o_39.lt
      have w_42 := o_32.lt
      rw [show IntKind.wrap .i64 (k + 1) = (k + 1) from wrap64 o4 o4]
      refine spec_l03Kernel_n1 (μ - 1) o12 ⟨_, _, rfl, o11, rfl, o_32, g_37, o4, o1, o1, o1, o12, (by rw [show μ - 1 + 1 = μ from by first | omega]; exact e)⟩
    · have e := e.trans (cond_f c_19)
      have c_19' := of_decide_eq_false c_19
      rw [spec_l03Kernel_x1_0]
      rw [e] at hk
      exact hk _ _ _ H_2 g_12 (o_11.ownS o8 o4)
theorem spec_l03Kernel_ok : FnOk Try.prog 84 S_spec_l03Kernel := by
  refine FnOk.body mix_ok E_spec_l03Kernel_ok Try.func84 rfl (by kernel_rfl) (by kernel_rfl) ?_ ?_ ?_ ?_ ?_
  · intro args H K K' h hk
    simp only [S_spec_l03Kernel] at *
    unfold F_spec_l03Kernel at *
    split at hk
    · obtain ⟨pr0, k⟩ := hk
      exact ⟨pr0, (fun r1_a r1_n r1_e H' gg ow0 => h _ _ (k r1_a r1_n r1_e H' gg ow0))⟩
    · exact hk.elim
  · intro hq; cases hq
  · intro args H K hk
    simp only [S_spec_l03Kernel] at *
    unfold F_spec_l03Kernel at *
    split at hk
    · obtain ⟨pr0, k⟩ := hk
      exact liveS fun a n e H1 g o => ⟨_, _, k a n e H1 g o⟩
    · exact hk.elim
  · intro _ args H K hk
    simp only [S_spec_l03Kernel] at *
    unfold F_spec_l03Kernel at *
    split at hk
    · obtain ⟨pr0, k⟩ := hk
      exact ⟨pr0, (fun r1_a r1_n r1_e H' gg ow0 => ⟨gg, k r1_a r1_n r1_e H' gg ow0⟩)⟩
    · exact hk.elim
  · have mm := @spec_l03Kernel_main
    revert mm
    generalize bodyK Try.prog E_spec_l03Kernel Try.f84 = Q
    intro mm args H K hk
    simp only [S_spec_l03Kernel] at *
    unfold F_spec_l03Kernel at *
    split at hk
    · exact mm _ H K hk
    · exact hk.elim

def p_spec_l03Energy_l1 (l_list : List Nat) : Nat → Nat → Int → Nat
  | 0, _, _ => 0
  | μ + 1, sum, t7 => (bif decide ((t7 : Int) < (l_list.length : Int)) then (p_spec_l03Energy_l1 l_list μ (fadd .f32 sum (fmul .f32 (((l_list).getD (t7 : Int).toNat 0)) (((l_list).getD (t7 : Int).toNat 0)))) (t7 + 1)) else sum)
def p_spec_l03Energy_l1_s := fun l_list μ sum t7 => @p_spec_l03Energy_l1.eq_2 l_list sum t7 μ
def p_spec_l03Energy (l_list : List Nat) : Nat := (p_spec_l03Energy_l1 l_list (Int.toNat ((l_list.length : Int) - (0 : Int)) + 1) 0 (0 : Int))
def p_spec_l03Energy_eq := @p_spec_l03Energy.eq_1
def T_spec_l03Energy (list_a : Option Addr) (list_n : Nat) (list_e : Nat) (H : AHeap) (K : Nat → AHeap → Prop) : Prop := ∃ (l_list : List Nat), IsL fF H list_a list_n l_list ∧ l_list.length < 1073741824 ∧ K (p_spec_l03Energy l_list) H
theorem T_spec_l03Energy_i {list_a : Option Addr} {list_n : Nat} {list_e : Nat} {H : AHeap} {K : Nat → AHeap → Prop} (h : ∃ (l_list : List Nat), IsL fF H list_a list_n l_list ∧ l_list.length < 1073741824 ∧ K (p_spec_l03Energy l_list) H) : T_spec_l03Energy list_a list_n list_e H K := h

/-! spec_l03Energy: function 86 -/
def E_spec_l03Energy : Env := envOf []
def F_spec_l03Energy : List Value → AHeap → (Value → AHeap → Prop) → Prop
  | [.slice list_a list_n list_e], H, K => T_spec_l03Energy list_a list_n list_e H fun (r1 : Nat) (H' : AHeap) => K (.float .f32 r1) H'
  | _, _, _ => False
def S_spec_l03Energy : FSpec := { F := F_spec_l03Energy, quiet := true, tame := false }
theorem spec_l03Energy_vc (list_a : Option Addr) (list_n : Nat) (list_e : Nat) (H : AHeap) (K : Value → AHeap → Prop) : bodyK Try.prog E_spec_l03Energy Try.f86 [.slice list_a list_n list_e] H K =
  (loopK (exK Try.prog E_spec_l03Energy (cl (cl (cr (cl (cr (cr (bodyC Try.f86)))))))) [.slice list_a list_n list_e, undef, .float .f32 0, .float .f32 0, undef, .slice list_a list_n list_e, .int .i64 (list_n : Int), .int .i64 0, undef, undef, undef, undef, undef, undef, undef, undef, undef, undef, undef, undef, undef, undef, undef] H (blockQ 0 (seqQ (exK Try.prog E_spec_l03Energy (cr (cr (cr (bodyC Try.f86))))) (retK Try.prog Try.f86 K)))) := by kernel_rfl
abbrev spec_l03Energy_P1 (list_a : Option Addr) (list_e : Nat) (list_n : Nat) (sum : Nat) (t7 : Int) (g4 g8 g9 g10 g11 g12 g13 g14 g15 g16 g17 g18 g19 g20 g21 : Value) : List Value := [.slice list_a list_n list_e, undef, .float .f32 0, .float .f32 sum, g4, .slice list_a list_n list_e, .int .i64 (list_n : Int), .int .i64 t7, g8, g9, g10, g11, g12, g13, g14, g15, g16, g17, g18, g19, g20, g21, undef]
theorem spec_l03Energy_r1 (list_a : Option Addr) (list_e : Nat) (list_n : Nat) (sum : Nat) (t7 : Int) (g4 g8 g9 g10 g11 g12 g13 g14 g15 g16 g17 g18 g19 g20 g21 : Value) (H : AHeap) (R : Post) : exK Try.prog E_spec_l03Energy (cl (cl (cr (cl (cr (cr (bodyC Try.f86))))))) (spec_l03Energy_P1 list_a list_e list_n sum t7 g4 g8 g9 g10 g11 g12 g13 g14 g15 g16 g17 g18 g19 g20 g21) H R =
  (Br (decide ((t7 : Int) < (list_n : Int))) ((0 : Int) ≤ t7 ∧ t7 < (list_n : Int) ∧ ∃ b1 f1, (list_a : Option Addr) = some ⟨b1, f1, none⟩ ∧ ∃ x1 : Nat,  rdC H b1 (f1 + (t7 : Int).toNat * 1) = some (.float .f32 x1) ∧ (0 : Int) ≤ t7 ∧ t7 < (list_n : Int) ∧ ∃ b2 f2, (list_a : Option Addr) = some ⟨b2, f2, none⟩ ∧ ∃ x2 : Nat,  rdC H b2 (f2 + (t7 : Int).toNat * 1) = some (.float .f32 x2) ∧ R .normal [.slice list_a list_n list_e, undef, .float .f32 0, .float .f32 (fadd .f32 sum (fmul .f32 x1 x2)), .int .i64 t7, .slice list_a list_n list_e, .int .i64 (list_n : Int), .int .i64 (IntKind.wrap .i64 (t7 + 1)), .bool (decide ((t7 : Int) < (list_n : Int))), .int .i64 t7, .float .f32 sum, .slice list_a list_n list_e, .int .i64 t7, .pointer (some ⟨b1, f1 + (t7 : Int).toNat * 1, none⟩), .float .f32 x1, .slice list_a list_n list_e, .int .i64 t7, .pointer (some ⟨b2, f2 + (t7 : Int).toNat * 1, none⟩), .float .f32 x2, .float .f32 (fmul .f32 x1 x2), .float .f32 (fadd .f32 sum (fmul .f32 x1 x2)), .int .i64 (IntKind.wrap .i64 (t7 + 1)), undef] H) (R (.exit 0) [.slice list_a list_n list_e, undef, .float .f32 0, .float .f32 sum, g4, .slice list_a list_n list_e, .int .i64 (list_n : Int), .int .i64 t7, .bool (decide ((t7 : Int) < (list_n : Int))), g9, g10, g11, g12, g13, g14, g15, g16, g17, g18, g19, g20, g21, undef] H)) := by kernel_rfl
def spec_l03Energy_I1 (list_a : Option Addr) (list_e : Nat) (list_n : Nat) (Inv : Nat → Nat → Int → AHeap → Prop) : Nat → List Value → AHeap → Prop := fun μ tm H => ∃ (sum : Nat), ∃ (t7 : Int), ∃ g4 g8 g9 g10 g11 g12 g13 g14 g15 g16 g17 g18 g19 g20 g21, tm = (spec_l03Energy_P1 list_a list_e list_n sum t7 g4 g8 g9 g10 g11 g12 g13 g14 g15 g16 g17 g18 g19 g20 g21) ∧ Inv μ sum t7 H
theorem spec_l03Energy_L1 (list_a : Option Addr) (list_e : Nat) (list_n : Nat) {Q : Post} (Inv : Nat → Nat → Int → AHeap → Prop) (ν : Nat) (sum : Nat) (t7 : Int) (g4 g8 g9 g10 g11 g12 g13 g14 g15 g16 g17 g18 g19 g20 g21 : Value) (H : AHeap) (h0 : Inv ν sum t7 H)
    (hs : ∀ (μ : Nat) (sum : Nat) (t7 : Int) (g4 g8 g9 g10 g11 g12 g13 g14 g15 g16 g17 g18 g19 g20 g21 : Value) (H : AHeap), Inv μ sum t7 H → exK Try.prog E_spec_l03Energy (cl (cl (cr (cl (cr (cr (bodyC Try.f86))))))) (spec_l03Energy_P1 list_a list_e list_n sum t7 g4 g8 g9 g10 g11 g12 g13 g14 g15 g16 g17 g18 g19 g20 g21) H (loopQ (spec_l03Energy_I1 list_a list_e list_n Inv) μ Q)) : loopK (exK Try.prog E_spec_l03Energy (cl (cl (cr (cl (cr (cr (bodyC Try.f86)))))))) (spec_l03Energy_P1 list_a list_e list_n sum t7 g4 g8 g9 g10 g11 g12 g13 g14 g15 g16 g17 g18 g19 g20 g21) H Q :=
  ⟨spec_l03Energy_I1 list_a list_e list_n Inv, ν, ⟨sum, t7, g4, g8, g9, g10, g11, g12, g13, g14, g15, g16, g17, g18, g19, g20, g21, rfl, h0⟩, fun μ tm H h => by obtain ⟨sum, t7, g4, g8, g9, g10, g11, g12, g13, g14, g15, g16, g17, g18, g19, g20, g21, rfl, hI⟩ := h; exact hs μ sum t7 g4 g8 g9 g10 g11 g12 g13 g14 g15 g16 g17 g18 g19 g20 g21 H hI⟩
theorem spec_l03Energy_n1 {list_a : Option Addr} {list_e : Nat} {list_n : Nat} {Q : Post} {Inv : Nat → Nat → Int → AHeap → Prop} {μ : Nat} (μ' : Nat) {sum : Nat} {t7 : Int} {g4 g8 g9 g10 g11 g12 g13 g14 g15 g16 g17 g18 g19 g20 g21 : Value} {H : AHeap} (hm : μ' < μ) (hI : Inv μ' sum t7 H) : loopQ (spec_l03Energy_I1 list_a list_e list_n Inv) μ Q .normal (spec_l03Energy_P1 list_a list_e list_n sum t7 g4 g8 g9 g10 g11 g12 g13 g14 g15 g16 g17 g18 g19 g20 g21) H := ⟨μ', hm, sum, t7, g4, g8, g9, g10, g11, g12, g13, g14, g15, g16, g17, g18, g19, g20, g21, rfl, hI⟩
theorem spec_l03Energy_x1_0 (list_a : Option Addr) (list_e : Nat) (list_n : Nat) (sum : Nat) (t7 : Int) (g4 g8 g9 g10 g11 g12 g13 g14 g15 g16 g17 g18 g19 g20 g21 : Value) (H : AHeap) (K : Value → AHeap → Prop)  {I : Nat → List Value → AHeap → Prop} {μ : Nat} : loopQ I μ (blockQ 0 (seqQ (exK Try.prog E_spec_l03Energy (cr (cr (cr (bodyC Try.f86))))) (retK Try.prog Try.f86 K))) (.exit 0) (spec_l03Energy_P1 list_a list_e list_n sum t7 g4 g8 g9 g10 g11 g12 g13 g14 g15 g16 g17 g18 g19 g20 g21) H =
  (K (.float .f32 sum) H) := by kernel_rfl
theorem E_spec_l03Energy_ok : ∀ g, FnOk Try.prog g (E_spec_l03Energy g) := FnOk.envOf (by
  intro x hx; cases hx)
set_option maxHeartbeats 1000000 in
theorem spec_l03Energy_main (list_a : Option Addr) (list_n : Nat) (list_e : Nat) (H : AHeap) (K : Value → AHeap → Prop) (h : T_spec_l03Energy list_a list_n list_e H fun (r1 : Nat) (H' : AHeap) => K (.float .f32 r1) H') : bodyK Try.prog E_spec_l03Energy Try.f86 [.slice list_a list_n list_e] H K := by
  rw [spec_l03Energy_vc]
  obtain ⟨l_list, i_list, bd_11, hk⟩ := h
  obtain rfl := i_list.eqn
  have e : (p_spec_l03Energy l_list) = _ := rfl
  have e := e.trans (p_spec_l03Energy_eq l_list)
  have g0 := Grow.refl H
  refine spec_l03Energy_L1 _ _ _ (fun (μ : Nat) (sum : Nat) (t7 : Int) (H_1 : AHeap) => H = H_1 ∧ (0 : Int) ≤ t7 ∧ t7 ≤ (l_list.length : Int) ∧ (l_list.length : Int) - t7 ≤ (μ : Int) ∧ p_spec_l03Energy l_list = p_spec_l03Energy_l1 l_list (μ + 1) sum t7) (Int.toNat ((l_list.length : Int) - (0 : Int))) _ _ _ _ _ _ _ _ _ _ _ _ _ _ _ _ _ H ?_ ?_
  · exact ⟨rfl, o5, o5, o4, e⟩
  · intro μ sum t7 g4 g8 g9 g10 g11 g12 g13 g14 g15 g16 g17 g18 g19 g20 g21 H_1 hI
    obtain ⟨rfl, v_1, v_2, hμ, e⟩ := hI
    rw [spec_l03Energy_r1]
    have e := e.trans (p_spec_l03Energy_l1_s l_list μ sum t7)
    have l_3 := g0.1
    refine Br.intro (fun c_4 => ?_) (fun c_4 => ?_)
    · have e := e.trans (cond_t c_4)
      have c_4' := of_decide_eq_true c_4
      obtain ⟨b_5, f_6, q_7⟩ := ((i_list.grow g0)).pos o0
      refine ⟨by omega, by omega, b_5, f_6, q_7, ?_⟩
      refine ⟨((l_list).getD (t7 : Int).toNat 0), (i_list).rd g0 q_7 o4 _, ?_⟩
      obtain ⟨b_8, f_9, q_10⟩ := ((i_list.grow g0)).pos o0
      refine ⟨by omega, by omega, b_8, f_9, q_10, ?_⟩
      refine ⟨((l_list).getD (t7 : Int).toNat 0), (i_list).rd g0 q_10 o4 _, ?_⟩
      rw [show IntKind.wrap .i64 (t7 + 1) = (t7 + 1) from wrap64 o4 o4]
      refine spec_l03Energy_n1 (μ - 1) o12 ⟨rfl, o1, o1, o12, (by rw [show μ - 1 + 1 = μ from by first | omega]; exact e)⟩
    · have e := e.trans (cond_f c_4)
      have c_4' := of_decide_eq_false c_4
      rw [spec_l03Energy_x1_0]
      rw [e] at hk
      exact hk
theorem spec_l03Energy_ok : FnOk Try.prog 86 S_spec_l03Energy := by
  refine FnOk.body mix_ok E_spec_l03Energy_ok Try.func86 rfl (by kernel_rfl) (by kernel_rfl) ?_ ?_ ?_ ?_ ?_
  · intro args H K K' h hk
    simp only [S_spec_l03Energy] at *
    unfold F_spec_l03Energy at *
    split at hk
    · obtain ⟨l_list, i_list, bd_11, k⟩ := hk
      exact ⟨l_list, i_list, bd_11, h _ _ k⟩
    · exact hk.elim
  · intro _ args H K hk
    simp only [S_spec_l03Energy] at *
    unfold F_spec_l03Energy at *
    split at hk
    · obtain ⟨l_list, i_list, bd_11, k⟩ := hk
      exact ⟨_, k, fun K' k' => ⟨l_list, i_list, bd_11, k'⟩⟩
    · exact hk.elim
  · intro args H K hk
    simp only [S_spec_l03Energy] at *
    unfold F_spec_l03Energy at *
    split at hk
    · obtain ⟨l_list, i_list, bd_11, k⟩ := hk
      exact ⟨_, _, k⟩
    · exact hk.elim
  · intro hq; cases hq
  · have mm := @spec_l03Energy_main
    revert mm
    generalize bodyK Try.prog E_spec_l03Energy Try.f86 = Q
    intro mm args H K hk
    simp only [S_spec_l03Energy] at *
    unfold F_spec_l03Energy at *
    split at hk
    · exact mm _ _ _ H K hk
    · exact hk.elim
def p_math_sqrt (x : Nat) : Nat := fsqrt .f64 x
def T_math_sqrt (x : Nat) (H : AHeap) (K : Nat → AHeap → Prop) : Prop := K (p_math_sqrt x) H
theorem T_math_sqrt_i {x : Nat} {H : AHeap} {K : Nat → AHeap → Prop} (h : K (p_math_sqrt x) H) : T_math_sqrt x H K := h
def F_math_sqrt : List Value → AHeap → (Value → AHeap → Prop) → Prop
  | [.float .f64 x], H, K => T_math_sqrt x H fun r1 H' => K (.float .f64 r1) H'
  | _, _, _ => False
def S_math_sqrt : FSpec := { F := F_math_sqrt, quiet := true }
theorem math_sqrt_ok : FnOk Try.prog 156 S_math_sqrt := by
  refine FnOk.ext1 (f := p_math_sqrt) (e := Extern.MathSqrt.sqrt) rfl ?_ (fun x H K h => h) Try.func156 (by kernel_rfl) (by kernel_rfl) (by kernel_rfl) (by kernel_rfl) (fun b w => ext_sqrt b w)
  intro args H K h
  simp only [S_math_sqrt] at h
  unfold F_math_sqrt at h
  split at h
  · exact ⟨_, rfl, h⟩
  · exact h.elim

def p_math_Sqrt (x : Nat) : Nat := (p_math_sqrt x)
def p_math_Sqrt_eq := @p_math_Sqrt.eq_1
def T_math_Sqrt (x : Nat) (H : AHeap) (K : Nat → AHeap → Prop) : Prop := K (p_math_Sqrt x) H

theorem T_math_Sqrt_i {x : Nat} {H : AHeap} {K : Nat → AHeap → Prop} (h : K (p_math_Sqrt x) H) : T_math_Sqrt x H K := h
/-! math_Sqrt: function 113 -/
def E_math_Sqrt : Env := envOf [(156, S_math_sqrt)]
def F_math_Sqrt : List Value → AHeap → (Value → AHeap → Prop) → Prop
  | [.float .f64 x], H, K => T_math_Sqrt x H fun (r1 : Nat) (H' : AHeap) => K (.float .f64 r1) H'
  | _, _, _ => False
def S_math_Sqrt : FSpec := { F := F_math_Sqrt, quiet := true, tame := false }
theorem math_Sqrt_vc (x : Nat) (H : AHeap) (K : Value → AHeap → Prop) : bodyK Try.prog E_math_Sqrt Try.f113 [.float .f64 x] H K =
  (T_math_sqrt x H fun (r1 : Nat) (H1 : AHeap) => K (.float .f64 r1) H1) := by kernel_rfl
theorem E_math_Sqrt_ok : ∀ g, FnOk Try.prog g (E_math_Sqrt g) := FnOk.envOf (by
  intro x hx
  simp only [List.mem_cons, List.not_mem_nil, or_false] at hx
  subst hx; exact math_sqrt_ok)
set_option maxHeartbeats 1000000 in
theorem math_Sqrt_main (x : Nat) (H : AHeap) (K : Value → AHeap → Prop) (h : T_math_Sqrt x H fun (r1 : Nat) (H' : AHeap) => K (.float .f64 r1) H') : bodyK Try.prog E_math_Sqrt Try.f113 [.float .f64 x] H K := by
  rw [math_Sqrt_vc]
  simp only [T_math_sqrt]
  unfold T_math_Sqrt p_math_Sqrt at h
  repeat' (first | exact h | (exfalso; simp_all; done) | (refine ⟨by decide, ?_⟩) | (refine Br.intro (fun hb => ?_) (fun hb => ?_) <;> (try simp only [hb, cond_true, cond_false, Bool.not_true, Bool.not_false] at h)))
theorem math_Sqrt_ok : FnOk Try.prog 113 S_math_Sqrt := by
  refine FnOk.body mix_ok E_math_Sqrt_ok Try.func113 rfl (by kernel_rfl) (by kernel_rfl) ?_ ?_ ?_ ?_ ?_
  · intro args H K K' h hk
    simp only [S_math_Sqrt] at *
    unfold F_math_Sqrt at *
    split at hk
    · have k := hk
      exact h _ _ k
    · exact hk.elim
  · intro _ args H K hk
    simp only [S_math_Sqrt] at *
    unfold F_math_Sqrt at *
    split at hk
    · have k := hk
      exact ⟨_, k, fun K' k' => k'⟩
    · exact hk.elim
  · intro args H K hk
    simp only [S_math_Sqrt] at *
    unfold F_math_Sqrt at *
    split at hk
    · have k := hk
      exact ⟨_, _, k⟩
    · exact hk.elim
  · intro hq; cases hq
  · have mm := @math_Sqrt_main
    revert mm
    generalize bodyK Try.prog E_math_Sqrt Try.f113 = Q
    intro mm args H K hk
    simp only [S_math_Sqrt] at *
    unfold F_math_Sqrt at *
    split at hk
    · exact mm _ H K hk
    · exact hk.elim

def p_spec_l01Sqrt (x : Nat) : Nat := (p_spec_l01Narrow ((p_math_Sqrt (fwide x))))
def p_spec_l01Sqrt_eq := @p_spec_l01Sqrt.eq_1
def T_spec_l01Sqrt (x : Nat) (H : AHeap) (K : Nat → AHeap → Prop) : Prop := K (p_spec_l01Sqrt x) H
theorem T_spec_l01Sqrt_i {x : Nat} {H : AHeap} {K : Nat → AHeap → Prop} (h : K (p_spec_l01Sqrt x) H) : T_spec_l01Sqrt x H K := h

/-! spec_l01Sqrt: function 85 -/
def E_spec_l01Sqrt : Env := envOf [(113, S_math_Sqrt), (112, S_spec_l01Narrow)]
def F_spec_l01Sqrt : List Value → AHeap → (Value → AHeap → Prop) → Prop
  | [.float .f32 x], H, K => T_spec_l01Sqrt x H fun (r1 : Nat) (H' : AHeap) => K (.float .f32 r1) H'
  | _, _, _ => False
def S_spec_l01Sqrt : FSpec := { F := F_spec_l01Sqrt, quiet := true, tame := false }
theorem spec_l01Sqrt_vc (x : Nat) (H : AHeap) (K : Value → AHeap → Prop) : bodyK Try.prog E_spec_l01Sqrt Try.f85 [.float .f32 x] H K =
  (T_math_Sqrt (fwide x) H fun (r1 : Nat) (H1 : AHeap) => T_spec_l01Narrow r1 H1 fun (r2 : Nat) (H2 : AHeap) => K (.float .f32 r2) H2) := by kernel_rfl
theorem E_spec_l01Sqrt_ok : ∀ g, FnOk Try.prog g (E_spec_l01Sqrt g) := FnOk.envOf (by
  intro x hx
  simp only [List.mem_cons, List.not_mem_nil, or_false] at hx
  rcases hx with rfl | rfl
  · exact math_Sqrt_ok
  · exact spec_l01Narrow_ok)
set_option maxHeartbeats 1000000 in
theorem spec_l01Sqrt_main (x : Nat) (H : AHeap) (K : Value → AHeap → Prop) (h : T_spec_l01Sqrt x H fun (r1 : Nat) (H' : AHeap) => K (.float .f32 r1) H') : bodyK Try.prog E_spec_l01Sqrt Try.f85 [.float .f32 x] H K := by
  rw [spec_l01Sqrt_vc]
  have hk := h
  unfold T_spec_l01Sqrt at hk
  have e : (p_spec_l01Sqrt x) = _ := rfl
  have e := e.trans (p_spec_l01Sqrt_eq x)
  have g0 := Grow.refl H
  refine T_math_Sqrt_i ?_
  refine T_spec_l01Narrow_i ⟨(by first | assumption | omega | (simp; omega) | (exact sqrt_nar _)), ?_⟩
  rw [e] at hk
  exact hk
theorem spec_l01Sqrt_ok : FnOk Try.prog 85 S_spec_l01Sqrt := by
  refine FnOk.body mix_ok E_spec_l01Sqrt_ok Try.func85 rfl (by kernel_rfl) (by kernel_rfl) ?_ ?_ ?_ ?_ ?_
  · intro args H K K' h hk
    simp only [S_spec_l01Sqrt] at *
    unfold F_spec_l01Sqrt at *
    split at hk
    · have k := hk
      exact h _ _ k
    · exact hk.elim
  · intro _ args H K hk
    simp only [S_spec_l01Sqrt] at *
    unfold F_spec_l01Sqrt at *
    split at hk
    · have k := hk
      exact ⟨_, k, fun K' k' => k'⟩
    · exact hk.elim
  · intro args H K hk
    simp only [S_spec_l01Sqrt] at *
    unfold F_spec_l01Sqrt at *
    split at hk
    · have k := hk
      exact ⟨_, _, k⟩
    · exact hk.elim
  · intro hq; cases hq
  · have mm := @spec_l01Sqrt_main
    revert mm
    generalize bodyK Try.prog E_spec_l01Sqrt Try.f85 = Q
    intro mm args H K hk
    simp only [S_spec_l01Sqrt] at *
    unfold F_spec_l01Sqrt at *
    split at hk
    · exact mm _ H K hk
    · exact hk.elim
end Go.Proofs.Ytghkkclonabpkab.Ai
