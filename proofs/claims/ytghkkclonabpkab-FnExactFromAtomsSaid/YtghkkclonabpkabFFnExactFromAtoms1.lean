/- What functions of the program come to on the abstract machine, and that they do so; printed by a program of mine around proofs of mine. -/
import Derived.Test.YtghkkclonabpkabFFnExactFromAtoms0
set_option linter.unusedVariables false
set_option linter.unusedSimpArgs false
set_option linter.defProp false
set_option maxRecDepth 100000
namespace Go.Proofs.Ytghkkclonabpkab.Ai
open Go
attribute [local irreducible] bodyK

def p_spec_l05Of_l2 (count : Int) (ap_Place : Int) (ap_Scale : Nat) (ap_Size : Nat) (l_vout : List Nat) (i : Int) (k2_2 : Int → (List Nat) → (List Nat)) : Nat → Int → (List Nat) → (List Nat)
  | 0, _, _ => []
  | μ2 + 1, t54, y2_1 => (bif decide ((t54 : Int) < (l_vout.length : Int)) then (p_spec_l05Of_l2 count ap_Place ap_Scale ap_Size l_vout i k2_2 μ2 (t54 + 1) (((y2_1).set (t54 : Int).toNat ((fmul .f32 (fdiv .f32 (((y2_1).getD (t54 : Int).toNat 0)) ((p_spec_l01Sqrt (p_spec_l03Energy l_vout)))) ap_Size))))) else (k2_2 t54 y2_1))
def p_spec_l05Of_l2_s := fun count ap_Place ap_Scale ap_Size l_vout i k2_2 μ2 t54 y2_1 => @p_spec_l05Of_l2.eq_2 count ap_Place ap_Scale ap_Size l_vout i k2_2 t54 y2_1 μ2
def p_spec_l05Of_l1 (count : Int) (ap_Place : Int) (ap_Scale : Nat) (ap_Size : Nat) : Nat → (List Nat) → Int → (List Nat)
  | 0, _, _ => []
  | μ + 1, l_vout, i => (bif decide ((i : Int) < count) then (bif (p_spec_l00In (((i - ap_Place) + ((Int.tdiv ((((p_spec_l03Kernel ap_Scale)).length : Int)) 2)))) (0 : Int) ((((((p_spec_l03Kernel ap_Scale)).length : Int)) - 1))) then (p_spec_l05Of_l1 count ap_Place ap_Scale ap_Size μ ((l_vout ++ [(((((p_spec_l03Kernel ap_Scale)).getD (((i - ap_Place) + ((Int.tdiv ((((p_spec_l03Kernel ap_Scale)).length : Int)) 2))) : Int).toNat (0, 0))).1)])) (i + 1)) else (p_spec_l05Of_l1 count ap_Place ap_Scale ap_Size μ (l_vout ++ [0]) (i + 1))) else (p_spec_l05Of_l2 count ap_Place ap_Scale ap_Size l_vout i (fun (t54 : Int) (y2_1 : List Nat) => y2_1) (Int.toNat ((l_vout.length : Int) - (0 : Int)) + 1) (0 : Int) l_vout))
def p_spec_l05Of_l1_s := fun count ap_Place ap_Scale ap_Size μ l_vout i => @p_spec_l05Of_l1.eq_2 count ap_Place ap_Scale ap_Size l_vout i μ
def p_spec_l05Of (count : Int) (ap_Place : Int) (ap_Scale : Nat) (ap_Size : Nat) : (List Nat) := (p_spec_l05Of_l1 count ap_Place ap_Scale ap_Size (Int.toNat (count - (0 : Int)) + 1) ([] : List Nat) (0 : Int))
def p_spec_l05Of_eq := @p_spec_l05Of.eq_1
def T_spec_l05Of (count : Int) (a : Nat) (H : AHeap) (K : (Option Addr) → Nat → Nat → AHeap → Prop) : Prop := ∃ (ap_Place : Int), ∃ (ap_Scale : Nat), ∃ (ap_Size : Nat), rdN H a 0 3 = some [.int .i64 ap_Place, .float .f32 ap_Scale, .float .f32 ap_Size] ∧ 0 ≤ count ∧ count ≤ 1000 ∧ 0 ≤ ap_Place ∧ ap_Place ≤ 1000 ∧ (bif fle .f32 1056964608 ap_Scale then fle .f32 ap_Scale 1098907648 else false) = true ∧ ((∀ (r1_a : Option Addr) (r1_n r1_e : Nat), ∀ H' : AHeap, Grow H H' → OwnS fF H' H.length r1_a r1_n r1_e (p_spec_l05Of count ap_Place ap_Scale ap_Size) → K r1_a r1_n r1_e H'))
theorem T_spec_l05Of_i {count : Int} {a : Nat} {H : AHeap} {K : (Option Addr) → Nat → Nat → AHeap → Prop} (h : ∃ (ap_Place : Int), ∃ (ap_Scale : Nat), ∃ (ap_Size : Nat), rdN H a 0 3 = some [.int .i64 ap_Place, .float .f32 ap_Scale, .float .f32 ap_Size] ∧ 0 ≤ count ∧ count ≤ 1000 ∧ 0 ≤ ap_Place ∧ ap_Place ≤ 1000 ∧ (bif fle .f32 1056964608 ap_Scale then fle .f32 ap_Scale 1098907648 else false) = true ∧ ((∀ (r1_a : Option Addr) (r1_n r1_e : Nat), ∀ H' : AHeap, Grow H H' → OwnS fF H' H.length r1_a r1_n r1_e (p_spec_l05Of count ap_Place ap_Scale ap_Size) → K r1_a r1_n r1_e H'))) : T_spec_l05Of count a H K := h
theorem spec_l05Of_l2_len (c p : Int) (s z : Nat) (o : List Nat) (t : Int) : ∀ (μ : Nat) (i : Int) (y : List Nat), (p_spec_l05Of_l2 c p s z o t (fun (t54 : Int) (y2_1 : List Nat) => y2_1) μ i y).length ≤ y.length := by
  intro μ
  induction μ with
  | zero => intro i y; exact Nat.zero_le _
  | succ μ ih =>
    intro i y
    rw [p_spec_l05Of_l2_s]
    cases decide (i < (o.length : Int))
    · exact Nat.le_refl _
    · exact Nat.le_trans (ih _ _) (by rw [List.length_set]; exact Nat.le_refl _)
theorem spec_l05Of_l1_len (c p : Int) (s z : Nat) : ∀ (μ : Nat) (o : List Nat) (i : Int), (p_spec_l05Of_l1 c p s z μ o i).length ≤ o.length + μ := by
  intro μ
  induction μ with
  | zero => intro o i; exact Nat.zero_le _
  | succ μ ih =>
    intro o i
    rw [p_spec_l05Of_l1_s]
    cases decide (i < c)
    · exact Nat.le_trans (spec_l05Of_l2_len _ _ _ _ _ _ _ _ _) o4
    · simp only [cond_true]
      refine cnb (P := fun y : List Nat => y.length ≤ o.length + (μ + 1)) (fun h => ?_) (fun h => ?_)
      · refine Nat.le_trans (ih _ _) ?_; rw [List.length_append, List.length_singleton]; omega
      · refine Nat.le_trans (ih _ _) ?_; rw [List.length_append, List.length_singleton]; omega
theorem spec_l05Of_len (c p : Int) (s z : Nat) : (p_spec_l05Of c p s z).length ≤ c.toNat + 1 := by
  rw [p_spec_l05Of_eq]
  exact Nat.le_trans (spec_l05Of_l1_len _ _ _ _ _ _ _) (by rw [List.length_nil]; omega)
theorem spec_l05Of_l2_full (c p : Int) (s z : Nat) (o : List Nat) (t : Int) : ∀ (μ : Nat) (i : Int) (y : List Nat), ((o.length : Int) - i).toNat < μ → (p_spec_l05Of_l2 c p s z o t (fun (t54 : Int) (y2_1 : List Nat) => y2_1) μ i y).length = y.length := by
  intro μ
  induction μ with
  | zero => intro i y h; omega
  | succ μ ih =>
    intro i y h
    rw [p_spec_l05Of_l2_s]
    by_cases hi : i < (o.length : Int)
    · rw [decide_eq_true hi, cond_true, ih _ _ o4, List.length_set]
    · rw [decide_eq_false hi, cond_false]
theorem spec_l05Of_l1_full (c p : Int) (s z : Nat) : ∀ (μ : Nat) (o : List Nat) (i : Int), (c - i).toNat < μ → (p_spec_l05Of_l1 c p s z μ o i).length = o.length + (c - i).toNat := by
  intro μ
  induction μ with
  | zero => intro o i h; omega
  | succ μ ih =>
    intro o i h
    rw [p_spec_l05Of_l1_s]
    by_cases hi : i < c
    · rw [decide_eq_true hi, cond_true]
      refine cnb (P := fun y : List Nat => y.length = o.length + (c - i).toNat) (fun h => ?_) (fun h => ?_)
      · rw [ih _ _ o4, List.length_append, List.length_singleton]; omega
      · rw [ih _ _ o4, List.length_append, List.length_singleton]; omega
    · rw [decide_eq_false hi, cond_false, spec_l05Of_l2_full _ _ _ _ _ _ _ _ _ o4]; omega
theorem spec_l05Of_full (c p : Int) (s z : Nat) (h : 0 ≤ c) : (p_spec_l05Of c p s z).length = c.toNat := by
  rw [p_spec_l05Of_eq, spec_l05Of_l1_full _ _ _ _ _ _ _ o4, List.length_nil]; omega
/-! spec_l05Of: function 52 -/
def E_spec_l05Of : Env := envOf [(84, S_spec_l03Kernel), (50, S_spec_l00In), (86, S_spec_l03Energy), (85, S_spec_l01Sqrt)]
def F_spec_l05Of : List Value → AHeap → (Value → AHeap → Prop) → Prop
  | [.int .i64 count, .pointer (some ⟨a, 0, none⟩)], H, K => T_spec_l05Of count a H fun (r1_a : Option Addr) (r1_n : Nat) (r1_e : Nat) (H' : AHeap) => K (.slice r1_a r1_n r1_e) H'
  | _, _, _ => False
def S_spec_l05Of : FSpec := { F := F_spec_l05Of, quiet := false, tame := true }
theorem spec_l05Of_vc (count : Int) (a : Nat) (H : AHeap) (K : Value → AHeap → Prop) : bodyK Try.prog E_spec_l05Of Try.f52 [.int .i64 count, .pointer (some ⟨a, 0, none⟩)] H K =
  (∃ x1 : Nat,  rdC H a 1 = some (.float .f32 x1) ∧ T_spec_l03Kernel x1 H fun (a1 : Option Addr) (r1 : Nat) (r2 : Nat) (H1 : AHeap) => 2 ≠ (0 : Int) ∧ Al [] H1 fun b1 H2 => loopK (exK Try.prog E_spec_l05Of (cl (cl (cr (cl (cr (cr (cr (cr (bodyC Try.f52)))))))))) [.int .i64 count, .pointer (some ⟨a, 0, none⟩), undef, undef, .slice none 0 0, .slice a1 r1 r2, .int .i64 (IntKind.wrap .i64 (Int.tdiv (r1 : Int) 2)), .slice (some ⟨b1, 0, none⟩) 0 1, .int .i64 0, undef, undef, undef, undef, .pointer (some ⟨a, 0, none⟩), .pointer (some ⟨a, 0, none⟩), .pointer (some ⟨a, 1, none⟩), .float .f32 x1, .slice a1 r1 r2, .slice a1 r1 r2, .int .i64 (r1 : Int), .int .i64 (IntKind.wrap .i64 (Int.tdiv (r1 : Int) 2)), .slice (some ⟨b1, 0, none⟩) 0 1, undef, undef, undef, undef, undef, undef, undef, undef, undef, undef, undef, undef, undef, undef, undef, undef, undef, undef, undef, undef, undef, undef, undef, undef, undef, undef, undef, undef, undef, undef, undef, undef, undef, undef, undef, undef, undef, undef, undef, undef, undef, undef, undef, undef, undef, undef, undef, undef, undef, undef, undef] H2 (blockQ 0 (seqQ (exK Try.prog E_spec_l05Of (cr (cr (cr (cr (cr (bodyC Try.f52))))))) (retK Try.prog Try.f52 K)))) := by kernel_rfl
abbrev spec_l05Of_P1 (a : Nat) (a1 : Option Addr) (b1 : Nat) (count : Int) (r1 : Nat) (r2 : Nat) (x1 : Nat) (z1_20 : Int) (z1_6 : Int) (vout_a : Option Addr) (vout_n : Nat) (vout_e : Nat) (i : Int) (g9 g10 g22 g23 g24 g25 g26 g27 g28 g29 g30 g31 g32 g33 g34 g35 g36 g37 g38 g39 g40 g41 g42 g43 g44 g45 g46 g47 g48 : Value) : List Value := [.int .i64 count, .pointer (some ⟨a, 0, none⟩), undef, undef, .slice none 0 0, .slice a1 r1 r2, .int .i64 z1_6, .slice vout_a vout_n vout_e, .int .i64 i, g9, g10, undef, undef, .pointer (some ⟨a, 0, none⟩), .pointer (some ⟨a, 0, none⟩), .pointer (some ⟨a, 1, none⟩), .float .f32 x1, .slice a1 r1 r2, .slice a1 r1 r2, .int .i64 (r1 : Int), .int .i64 z1_20, .slice (some ⟨b1, 0, none⟩) 0 1, g22, g23, g24, g25, g26, g27, g28, g29, g30, g31, g32, g33, g34, g35, g36, g37, g38, g39, g40, g41, g42, g43, g44, g45, g46, g47, g48, undef, undef, undef, undef, undef, undef, undef, undef, undef, undef, undef, undef, undef, undef, undef, undef, undef, undef, undef, undef, undef, undef, undef, undef]
theorem spec_l05Of_r1 (a : Nat) (a1 : Option Addr) (b1 : Nat) (count : Int) (r1 : Nat) (r2 : Nat) (x1 : Nat) (z1_20 : Int) (z1_6 : Int) (vout_a : Option Addr) (vout_n : Nat) (vout_e : Nat) (i : Int) (g9 g10 g22 g23 g24 g25 g26 g27 g28 g29 g30 g31 g32 g33 g34 g35 g36 g37 g38 g39 g40 g41 g42 g43 g44 g45 g46 g47 g48 : Value) (H : AHeap) (R : Post) : exK Try.prog E_spec_l05Of (cl (cl (cr (cl (cr (cr (cr (cr (bodyC Try.f52))))))))) (spec_l05Of_P1 a a1 b1 count r1 r2 x1 z1_20 z1_6 vout_a vout_n vout_e i g9 g10 g22 g23 g24 g25 g26 g27 g28 g29 g30 g31 g32 g33 g34 g35 g36 g37 g38 g39 g40 g41 g42 g43 g44 g45 g46 g47 g48) H R =
  (Br (decide ((i : Int) < count)) (∃ x2 : Int,  rdC H a 0 = some (.int .i64 x2) ∧ T_spec_l00In (IntKind.wrap .i64 ((IntKind.wrap .i64 (i - x2)) + z1_6)) 0 (IntKind.wrap .i64 ((r1 : Int) - 1)) H fun (r3 : Bool) (H3 : AHeap) => Br r3 ((0 : Int) ≤ IntKind.wrap .i64 ((IntKind.wrap .i64 (i - x2)) + z1_6) ∧ IntKind.wrap .i64 ((IntKind.wrap .i64 (i - x2)) + z1_6) < (r1 : Int) ∧ ∃ b2 f1, (a1 : Option Addr) = some ⟨b2, f1, none⟩ ∧ ∃ x3_r : Nat, ∃ x3_i : Nat,  rdC H3 b2 (f1 + (IntKind.wrap .i64 ((IntKind.wrap .i64 (i - x2)) + z1_6) : Int).toNat * 1) = some (.complex .f32 x3_r x3_i) ∧ Al [.float .f32 x3_r] H3 fun b3 H4 => ∃ o1 w1 : List Value, ownB H4 vout_a vout_n vout_e 1 = some o1 ∧ rdS H4 (some ⟨b3, 0, none⟩) (1 * 1) = some w1 ∧ ((vout_a : Option Addr) = none → 0 < (1 : Nat)) ∧ (vout_n : Nat) + 1 < most ∧ Ap H4 (killB H4 vout_a ++ [some ⟨o1 ++ w1, true⟩]) fun b4 H5 => R .normal [.int .i64 count, .pointer (some ⟨a, 0, none⟩), undef, undef, .slice none 0 0, .slice a1 r1 r2, .int .i64 z1_6, .slice (some ⟨b4, 0, none⟩) (vout_n + 1) 1, .int .i64 (IntKind.wrap .i64 (i + 1)), .int .i64 (IntKind.wrap .i64 ((IntKind.wrap .i64 (i - x2)) + z1_6)), .float .f32 x3_r, undef, undef, .pointer (some ⟨a, 0, none⟩), .pointer (some ⟨a, 0, none⟩), .pointer (some ⟨a, 1, none⟩), .float .f32 x1, .slice a1 r1 r2, .slice a1 r1 r2, .int .i64 (r1 : Int), .int .i64 z1_20, .slice (some ⟨b1, 0, none⟩) 0 1, .int .i64 i, .int .i64 count, .bool (decide ((i : Int) < count)), .int .i64 i, .int .i64 (IntKind.wrap .i64 (i + 1)), .int .i64 i, .pointer (some ⟨a, 0, none⟩), .pointer (some ⟨a, 0, none⟩), .pointer (some ⟨a, 0, none⟩), .int .i64 x2, .int .i64 (IntKind.wrap .i64 (i - x2)), .int .i64 z1_6, .int .i64 (IntKind.wrap .i64 ((IntKind.wrap .i64 (i - x2)) + z1_6)), .int .i64 (IntKind.wrap .i64 ((IntKind.wrap .i64 (i - x2)) + z1_6)), .slice a1 r1 r2, .int .i64 (r1 : Int), .int .i64 (IntKind.wrap .i64 ((r1 : Int) - 1)), .bool r3, .slice a1 r1 r2, .int .i64 (IntKind.wrap .i64 ((IntKind.wrap .i64 (i - x2)) + z1_6)), .pointer (some ⟨b2, f1 + (IntKind.wrap .i64 ((IntKind.wrap .i64 (i - x2)) + z1_6) : Int).toNat * 1, none⟩), .complex .f32 x3_r x3_i, .float .f32 x3_r, .slice vout_a vout_n vout_e, .float .f32 x3_r, .slice (some ⟨b3, 0, none⟩) 1 1, .slice (some ⟨b4, 0, none⟩) (vout_n + 1) 1, undef, undef, undef, undef, undef, undef, undef, undef, undef, undef, undef, undef, undef, undef, undef, undef, undef, undef, undef, undef, undef, undef, undef, undef] H5) (Al [.float .f32 0] H3 fun b5 H6 => ∃ o2 w2 : List Value, ownB H6 vout_a vout_n vout_e 1 = some o2 ∧ rdS H6 (some ⟨b5, 0, none⟩) (1 * 1) = some w2 ∧ ((vout_a : Option Addr) = none → 0 < (1 : Nat)) ∧ (vout_n : Nat) + 1 < most ∧ Ap H6 (killB H6 vout_a ++ [some ⟨o2 ++ w2, true⟩]) fun b6 H7 => R .normal [.int .i64 count, .pointer (some ⟨a, 0, none⟩), undef, undef, .slice none 0 0, .slice a1 r1 r2, .int .i64 z1_6, .slice (some ⟨b6, 0, none⟩) (vout_n + 1) 1, .int .i64 (IntKind.wrap .i64 (i + 1)), .int .i64 (IntKind.wrap .i64 ((IntKind.wrap .i64 (i - x2)) + z1_6)), .float .f32 0, undef, undef, .pointer (some ⟨a, 0, none⟩), .pointer (some ⟨a, 0, none⟩), .pointer (some ⟨a, 1, none⟩), .float .f32 x1, .slice a1 r1 r2, .slice a1 r1 r2, .int .i64 (r1 : Int), .int .i64 z1_20, .slice (some ⟨b1, 0, none⟩) 0 1, .int .i64 i, .int .i64 count, .bool (decide ((i : Int) < count)), .int .i64 i, .int .i64 (IntKind.wrap .i64 (i + 1)), .int .i64 i, .pointer (some ⟨a, 0, none⟩), .pointer (some ⟨a, 0, none⟩), .pointer (some ⟨a, 0, none⟩), .int .i64 x2, .int .i64 (IntKind.wrap .i64 (i - x2)), .int .i64 z1_6, .int .i64 (IntKind.wrap .i64 ((IntKind.wrap .i64 (i - x2)) + z1_6)), .int .i64 (IntKind.wrap .i64 ((IntKind.wrap .i64 (i - x2)) + z1_6)), .slice a1 r1 r2, .int .i64 (r1 : Int), .int .i64 (IntKind.wrap .i64 ((r1 : Int) - 1)), .bool r3, g40, g41, g42, g43, g44, .slice vout_a vout_n vout_e, .float .f32 0, .slice (some ⟨b5, 0, none⟩) 1 1, .slice (some ⟨b6, 0, none⟩) (vout_n + 1) 1, undef, undef, undef, undef, undef, undef, undef, undef, undef, undef, undef, undef, undef, undef, undef, undef, undef, undef, undef, undef, undef, undef, undef, undef] H7)) (R (.exit 0) [.int .i64 count, .pointer (some ⟨a, 0, none⟩), undef, undef, .slice none 0 0, .slice a1 r1 r2, .int .i64 z1_6, .slice vout_a vout_n vout_e, .int .i64 i, g9, g10, undef, undef, .pointer (some ⟨a, 0, none⟩), .pointer (some ⟨a, 0, none⟩), .pointer (some ⟨a, 1, none⟩), .float .f32 x1, .slice a1 r1 r2, .slice a1 r1 r2, .int .i64 (r1 : Int), .int .i64 z1_20, .slice (some ⟨b1, 0, none⟩) 0 1, .int .i64 i, .int .i64 count, .bool (decide ((i : Int) < count)), g25, g26, g27, g28, g29, g30, g31, g32, g33, g34, g35, g36, g37, g38, g39, g40, g41, g42, g43, g44, g45, g46, g47, g48, undef, undef, undef, undef, undef, undef, undef, undef, undef, undef, undef, undef, undef, undef, undef, undef, undef, undef, undef, undef, undef, undef, undef, undef] H)) := by kernel_rfl
def spec_l05Of_I1 (a : Nat) (a1 : Option Addr) (b1 : Nat) (count : Int) (r1 : Nat) (r2 : Nat) (x1 : Nat) (z1_20 : Int) (z1_6 : Int) (Inv : Nat → (Option Addr) → Nat → Nat → Int → AHeap → Prop) : Nat → List Value → AHeap → Prop := fun μ tm H => ∃ (vout_a : Option Addr), ∃ (vout_n : Nat), ∃ (vout_e : Nat), ∃ (i : Int), ∃ g9 g10 g22 g23 g24 g25 g26 g27 g28 g29 g30 g31 g32 g33 g34 g35 g36 g37 g38 g39 g40 g41 g42 g43 g44 g45 g46 g47 g48, tm = (spec_l05Of_P1 a a1 b1 count r1 r2 x1 z1_20 z1_6 vout_a vout_n vout_e i g9 g10 g22 g23 g24 g25 g26 g27 g28 g29 g30 g31 g32 g33 g34 g35 g36 g37 g38 g39 g40 g41 g42 g43 g44 g45 g46 g47 g48) ∧ Inv μ vout_a vout_n vout_e i H
theorem spec_l05Of_L1 (a : Nat) (a1 : Option Addr) (b1 : Nat) (count : Int) (r1 : Nat) (r2 : Nat) (x1 : Nat) (z1_20 : Int) (z1_6 : Int) {Q : Post} (Inv : Nat → (Option Addr) → Nat → Nat → Int → AHeap → Prop) (ν : Nat) (vout_a : Option Addr) (vout_n : Nat) (vout_e : Nat) (i : Int) (g9 g10 g22 g23 g24 g25 g26 g27 g28 g29 g30 g31 g32 g33 g34 g35 g36 g37 g38 g39 g40 g41 g42 g43 g44 g45 g46 g47 g48 : Value) (H : AHeap) (h0 : Inv ν vout_a vout_n vout_e i H)
    (hs : ∀ (μ : Nat) (vout_a : Option Addr) (vout_n : Nat) (vout_e : Nat) (i : Int) (g9 g10 g22 g23 g24 g25 g26 g27 g28 g29 g30 g31 g32 g33 g34 g35 g36 g37 g38 g39 g40 g41 g42 g43 g44 g45 g46 g47 g48 : Value) (H : AHeap), Inv μ vout_a vout_n vout_e i H → exK Try.prog E_spec_l05Of (cl (cl (cr (cl (cr (cr (cr (cr (bodyC Try.f52))))))))) (spec_l05Of_P1 a a1 b1 count r1 r2 x1 z1_20 z1_6 vout_a vout_n vout_e i g9 g10 g22 g23 g24 g25 g26 g27 g28 g29 g30 g31 g32 g33 g34 g35 g36 g37 g38 g39 g40 g41 g42 g43 g44 g45 g46 g47 g48) H (loopQ (spec_l05Of_I1 a a1 b1 count r1 r2 x1 z1_20 z1_6 Inv) μ Q)) : loopK (exK Try.prog E_spec_l05Of (cl (cl (cr (cl (cr (cr (cr (cr (bodyC Try.f52)))))))))) (spec_l05Of_P1 a a1 b1 count r1 r2 x1 z1_20 z1_6 vout_a vout_n vout_e i g9 g10 g22 g23 g24 g25 g26 g27 g28 g29 g30 g31 g32 g33 g34 g35 g36 g37 g38 g39 g40 g41 g42 g43 g44 g45 g46 g47 g48) H Q :=
  ⟨spec_l05Of_I1 a a1 b1 count r1 r2 x1 z1_20 z1_6 Inv, ν, ⟨vout_a, vout_n, vout_e, i, g9, g10, g22, g23, g24, g25, g26, g27, g28, g29, g30, g31, g32, g33, g34, g35, g36, g37, g38, g39, g40, g41, g42, g43, g44, g45, g46, g47, g48, rfl, h0⟩, fun μ tm H h => by obtain ⟨vout_a, vout_n, vout_e, i, g9, g10, g22, g23, g24, g25, g26, g27, g28, g29, g30, g31, g32, g33, g34, g35, g36, g37, g38, g39, g40, g41, g42, g43, g44, g45, g46, g47, g48, rfl, hI⟩ := h; exact hs μ vout_a vout_n vout_e i g9 g10 g22 g23 g24 g25 g26 g27 g28 g29 g30 g31 g32 g33 g34 g35 g36 g37 g38 g39 g40 g41 g42 g43 g44 g45 g46 g47 g48 H hI⟩
theorem spec_l05Of_n1 {a : Nat} {a1 : Option Addr} {b1 : Nat} {count : Int} {r1 : Nat} {r2 : Nat} {x1 : Nat} {z1_20 : Int} {z1_6 : Int} {Q : Post} {Inv : Nat → (Option Addr) → Nat → Nat → Int → AHeap → Prop} {μ : Nat} (μ' : Nat) {vout_a : Option Addr} {vout_n : Nat} {vout_e : Nat} {i : Int} {g9 g10 g22 g23 g24 g25 g26 g27 g28 g29 g30 g31 g32 g33 g34 g35 g36 g37 g38 g39 g40 g41 g42 g43 g44 g45 g46 g47 g48 : Value} {H : AHeap} (hm : μ' < μ) (hI : Inv μ' vout_a vout_n vout_e i H) : loopQ (spec_l05Of_I1 a a1 b1 count r1 r2 x1 z1_20 z1_6 Inv) μ Q .normal (spec_l05Of_P1 a a1 b1 count r1 r2 x1 z1_20 z1_6 vout_a vout_n vout_e i g9 g10 g22 g23 g24 g25 g26 g27 g28 g29 g30 g31 g32 g33 g34 g35 g36 g37 g38 g39 g40 g41 g42 g43 g44 g45 g46 g47 g48) H := ⟨μ', hm, vout_a, vout_n, vout_e, i, g9, g10, g22, g23, g24, g25, g26, g27, g28, g29, g30, g31, g32, g33, g34, g35, g36, g37, g38, g39, g40, g41, g42, g43, g44, g45, g46, g47, g48, rfl, hI⟩
theorem spec_l05Of_x1_0 (a : Nat) (a1 : Option Addr) (b1 : Nat) (count : Int) (r1 : Nat) (r2 : Nat) (x1 : Nat) (z1_20 : Int) (z1_6 : Int) (vout_a : Option Addr) (vout_n : Nat) (vout_e : Nat) (i : Int) (g9 g10 g22 g23 g24 g25 g26 g27 g28 g29 g30 g31 g32 g33 g34 g35 g36 g37 g38 g39 g40 g41 g42 g43 g44 g45 g46 g47 g48 : Value) (H : AHeap) (K : Value → AHeap → Prop)  {I : Nat → List Value → AHeap → Prop} {μ : Nat} : loopQ I μ (blockQ 0 (seqQ (exK Try.prog E_spec_l05Of (cr (cr (cr (cr (cr (bodyC Try.f52))))))) (retK Try.prog Try.f52 K))) (.exit 0) (spec_l05Of_P1 a a1 b1 count r1 r2 x1 z1_20 z1_6 vout_a vout_n vout_e i g9 g10 g22 g23 g24 g25 g26 g27 g28 g29 g30 g31 g32 g33 g34 g35 g36 g37 g38 g39 g40 g41 g42 g43 g44 g45 g46 g47 g48) H =
  (T_spec_l03Energy vout_a vout_n vout_e H fun (r4 : Nat) (H8 : AHeap) => T_spec_l01Sqrt r4 H8 fun (r5 : Nat) (H9 : AHeap) => loopK (exK Try.prog E_spec_l05Of (cl (cl (cr (cl (cr (cr (cr (cr (cr (cr (bodyC Try.f52)))))))))))) [.int .i64 count, .pointer (some ⟨a, 0, none⟩), undef, undef, .slice none 0 0, .slice a1 r1 r2, .int .i64 z1_6, .slice vout_a vout_n vout_e, .int .i64 i, g9, g10, .float .f32 r5, undef, .pointer (some ⟨a, 0, none⟩), .pointer (some ⟨a, 0, none⟩), .pointer (some ⟨a, 1, none⟩), .float .f32 x1, .slice a1 r1 r2, .slice a1 r1 r2, .int .i64 (r1 : Int), .int .i64 z1_20, .slice (some ⟨b1, 0, none⟩) 0 1, g22, g23, g24, g25, g26, g27, g28, g29, g30, g31, g32, g33, g34, g35, g36, g37, g38, g39, g40, g41, g42, g43, g44, g45, g46, g47, g48, .slice vout_a vout_n vout_e, .float .f32 r4, .float .f32 r5, .slice vout_a vout_n vout_e, .int .i64 (vout_n : Int), .int .i64 0, undef, undef, undef, undef, undef, undef, undef, undef, undef, undef, undef, undef, undef, undef, undef, undef, undef, undef] H9 (blockQ 2 (seqQ (exK Try.prog E_spec_l05Of (cr (cr (cr (cr (cr (cr (cr (bodyC Try.f52))))))))) (retK Try.prog Try.f52 K)))) := by kernel_rfl
abbrev spec_l05Of_P2 (a : Nat) (a1 : Option Addr) (b1 : Nat) (count : Int) (g10 : Value) (g22 : Value) (g23 : Value) (g24 : Value) (g25 : Value) (g26 : Value) (g27 : Value) (g28 : Value) (g29 : Value) (g30 : Value) (g31 : Value) (g32 : Value) (g33 : Value) (g34 : Value) (g35 : Value) (g36 : Value) (g37 : Value) (g38 : Value) (g39 : Value) (g40 : Value) (g41 : Value) (g42 : Value) (g43 : Value) (g44 : Value) (g45 : Value) (g46 : Value) (g47 : Value) (g48 : Value) (g9 : Value) (i : Int) (r1 : Nat) (r2 : Nat) (r4 : Nat) (r5 : Nat) (vout_a : Option Addr) (vout_e : Nat) (vout_n : Nat) (x1 : Nat) (z1_20 : Int) (z1_6 : Int) (t54 : Int) (g12 g55 g56 g57 g58 g59 g60 g61 g62 g63 g64 g65 g66 g67 g68 g69 g70 g71 : Value) : List Value := [.int .i64 count, .pointer (some ⟨a, 0, none⟩), undef, undef, .slice none 0 0, .slice a1 r1 r2, .int .i64 z1_6, .slice vout_a vout_n vout_e, .int .i64 i, g9, g10, .float .f32 r5, g12, .pointer (some ⟨a, 0, none⟩), .pointer (some ⟨a, 0, none⟩), .pointer (some ⟨a, 1, none⟩), .float .f32 x1, .slice a1 r1 r2, .slice a1 r1 r2, .int .i64 (r1 : Int), .int .i64 z1_20, .slice (some ⟨b1, 0, none⟩) 0 1, g22, g23, g24, g25, g26, g27, g28, g29, g30, g31, g32, g33, g34, g35, g36, g37, g38, g39, g40, g41, g42, g43, g44, g45, g46, g47, g48, .slice vout_a vout_n vout_e, .float .f32 r4, .float .f32 r5, .slice vout_a vout_n vout_e, .int .i64 (vout_n : Int), .int .i64 t54, g55, g56, g57, g58, g59, g60, g61, g62, g63, g64, g65, g66, g67, g68, g69, g70, g71, undef]
theorem spec_l05Of_r2 (a : Nat) (a1 : Option Addr) (b1 : Nat) (count : Int) (g10 : Value) (g22 : Value) (g23 : Value) (g24 : Value) (g25 : Value) (g26 : Value) (g27 : Value) (g28 : Value) (g29 : Value) (g30 : Value) (g31 : Value) (g32 : Value) (g33 : Value) (g34 : Value) (g35 : Value) (g36 : Value) (g37 : Value) (g38 : Value) (g39 : Value) (g40 : Value) (g41 : Value) (g42 : Value) (g43 : Value) (g44 : Value) (g45 : Value) (g46 : Value) (g47 : Value) (g48 : Value) (g9 : Value) (i : Int) (r1 : Nat) (r2 : Nat) (r4 : Nat) (r5 : Nat) (vout_a : Option Addr) (vout_e : Nat) (vout_n : Nat) (x1 : Nat) (z1_20 : Int) (z1_6 : Int) (t54 : Int) (g12 g55 g56 g57 g58 g59 g60 g61 g62 g63 g64 g65 g66 g67 g68 g69 g70 g71 : Value) (H : AHeap) (R : Post) : exK Try.prog E_spec_l05Of (cl (cl (cr (cl (cr (cr (cr (cr (cr (cr (bodyC Try.f52))))))))))) (spec_l05Of_P2 a a1 b1 count g10 g22 g23 g24 g25 g26 g27 g28 g29 g30 g31 g32 g33 g34 g35 g36 g37 g38 g39 g40 g41 g42 g43 g44 g45 g46 g47 g48 g9 i r1 r2 r4 r5 vout_a vout_e vout_n x1 z1_20 z1_6 t54 g12 g55 g56 g57 g58 g59 g60 g61 g62 g63 g64 g65 g66 g67 g68 g69 g70 g71) H R =
  (Br (decide ((t54 : Int) < (vout_n : Int))) ((0 : Int) ≤ t54 ∧ t54 < (vout_n : Int) ∧ ∃ b7 f2, (vout_a : Option Addr) = some ⟨b7, f2, none⟩ ∧ ∃ x4 : Nat,  rdC H b7 (f2 + (t54 : Int).toNat * 1) = some (.float .f32 x4) ∧ ∃ x5 : Nat,  rdC H a 2 = some (.float .f32 x5) ∧ (0 : Int) ≤ t54 ∧ t54 < (vout_n : Int) ∧ ∃ b8 f3, (vout_a : Option Addr) = some ⟨b8, f3, none⟩ ∧ isOwn H b8 ∧ (∃ l, rdN H b8 (f3 + (t54 : Int).toNat * 1) 1 = some l) ∧ Lt (setC H b8 (f3 + (t54 : Int).toNat * 1) (.float .f32 (fmul .f32 (fdiv .f32 x4 r5) x5))) fun H10 => R .normal [.int .i64 count, .pointer (some ⟨a, 0, none⟩), undef, undef, .slice none 0 0, .slice a1 r1 r2, .int .i64 z1_6, .slice vout_a vout_n vout_e, .int .i64 i, g9, g10, .float .f32 r5, .int .i64 t54, .pointer (some ⟨a, 0, none⟩), .pointer (some ⟨a, 0, none⟩), .pointer (some ⟨a, 1, none⟩), .float .f32 x1, .slice a1 r1 r2, .slice a1 r1 r2, .int .i64 (r1 : Int), .int .i64 z1_20, .slice (some ⟨b1, 0, none⟩) 0 1, g22, g23, g24, g25, g26, g27, g28, g29, g30, g31, g32, g33, g34, g35, g36, g37, g38, g39, g40, g41, g42, g43, g44, g45, g46, g47, g48, .slice vout_a vout_n vout_e, .float .f32 r4, .float .f32 r5, .slice vout_a vout_n vout_e, .int .i64 (vout_n : Int), .int .i64 (IntKind.wrap .i64 (t54 + 1)), .bool (decide ((t54 : Int) < (vout_n : Int))), .int .i64 t54, .slice vout_a vout_n vout_e, .int .i64 t54, .slice vout_a vout_n vout_e, .int .i64 t54, .pointer (some ⟨b7, f2 + (t54 : Int).toNat * 1, none⟩), .float .f32 x4, .float .f32 r5, .float .f32 (fdiv .f32 x4 r5), .pointer (some ⟨a, 0, none⟩), .pointer (some ⟨a, 0, none⟩), .pointer (some ⟨a, 2, none⟩), .float .f32 x5, .float .f32 (fmul .f32 (fdiv .f32 x4 r5) x5), .pointer (some ⟨b8, f3 + (t54 : Int).toNat * 1, none⟩), .int .i64 (IntKind.wrap .i64 (t54 + 1)), undef] H10) (R (.exit 2) [.int .i64 count, .pointer (some ⟨a, 0, none⟩), undef, undef, .slice none 0 0, .slice a1 r1 r2, .int .i64 z1_6, .slice vout_a vout_n vout_e, .int .i64 i, g9, g10, .float .f32 r5, g12, .pointer (some ⟨a, 0, none⟩), .pointer (some ⟨a, 0, none⟩), .pointer (some ⟨a, 1, none⟩), .float .f32 x1, .slice a1 r1 r2, .slice a1 r1 r2, .int .i64 (r1 : Int), .int .i64 z1_20, .slice (some ⟨b1, 0, none⟩) 0 1, g22, g23, g24, g25, g26, g27, g28, g29, g30, g31, g32, g33, g34, g35, g36, g37, g38, g39, g40, g41, g42, g43, g44, g45, g46, g47, g48, .slice vout_a vout_n vout_e, .float .f32 r4, .float .f32 r5, .slice vout_a vout_n vout_e, .int .i64 (vout_n : Int), .int .i64 t54, .bool (decide ((t54 : Int) < (vout_n : Int))), g56, g57, g58, g59, g60, g61, g62, g63, g64, g65, g66, g67, g68, g69, g70, g71, undef] H)) := by kernel_rfl
def spec_l05Of_I2 (a : Nat) (a1 : Option Addr) (b1 : Nat) (count : Int) (g10 : Value) (g22 : Value) (g23 : Value) (g24 : Value) (g25 : Value) (g26 : Value) (g27 : Value) (g28 : Value) (g29 : Value) (g30 : Value) (g31 : Value) (g32 : Value) (g33 : Value) (g34 : Value) (g35 : Value) (g36 : Value) (g37 : Value) (g38 : Value) (g39 : Value) (g40 : Value) (g41 : Value) (g42 : Value) (g43 : Value) (g44 : Value) (g45 : Value) (g46 : Value) (g47 : Value) (g48 : Value) (g9 : Value) (i : Int) (r1 : Nat) (r2 : Nat) (r4 : Nat) (r5 : Nat) (vout_a : Option Addr) (vout_e : Nat) (vout_n : Nat) (x1 : Nat) (z1_20 : Int) (z1_6 : Int) (Inv : Nat → Int → AHeap → Prop) : Nat → List Value → AHeap → Prop := fun μ tm H => ∃ (t54 : Int), ∃ g12 g55 g56 g57 g58 g59 g60 g61 g62 g63 g64 g65 g66 g67 g68 g69 g70 g71, tm = (spec_l05Of_P2 a a1 b1 count g10 g22 g23 g24 g25 g26 g27 g28 g29 g30 g31 g32 g33 g34 g35 g36 g37 g38 g39 g40 g41 g42 g43 g44 g45 g46 g47 g48 g9 i r1 r2 r4 r5 vout_a vout_e vout_n x1 z1_20 z1_6 t54 g12 g55 g56 g57 g58 g59 g60 g61 g62 g63 g64 g65 g66 g67 g68 g69 g70 g71) ∧ Inv μ t54 H
theorem spec_l05Of_L2 (a : Nat) (a1 : Option Addr) (b1 : Nat) (count : Int) (g10 : Value) (g22 : Value) (g23 : Value) (g24 : Value) (g25 : Value) (g26 : Value) (g27 : Value) (g28 : Value) (g29 : Value) (g30 : Value) (g31 : Value) (g32 : Value) (g33 : Value) (g34 : Value) (g35 : Value) (g36 : Value) (g37 : Value) (g38 : Value) (g39 : Value) (g40 : Value) (g41 : Value) (g42 : Value) (g43 : Value) (g44 : Value) (g45 : Value) (g46 : Value) (g47 : Value) (g48 : Value) (g9 : Value) (i : Int) (r1 : Nat) (r2 : Nat) (r4 : Nat) (r5 : Nat) (vout_a : Option Addr) (vout_e : Nat) (vout_n : Nat) (x1 : Nat) (z1_20 : Int) (z1_6 : Int) {Q : Post} (Inv : Nat → Int → AHeap → Prop) (ν : Nat) (t54 : Int) (g12 g55 g56 g57 g58 g59 g60 g61 g62 g63 g64 g65 g66 g67 g68 g69 g70 g71 : Value) (H : AHeap) (h0 : Inv ν t54 H)
    (hs : ∀ (μ : Nat) (t54 : Int) (g12 g55 g56 g57 g58 g59 g60 g61 g62 g63 g64 g65 g66 g67 g68 g69 g70 g71 : Value) (H : AHeap), Inv μ t54 H → exK Try.prog E_spec_l05Of (cl (cl (cr (cl (cr (cr (cr (cr (cr (cr (bodyC Try.f52))))))))))) (spec_l05Of_P2 a a1 b1 count g10 g22 g23 g24 g25 g26 g27 g28 g29 g30 g31 g32 g33 g34 g35 g36 g37 g38 g39 g40 g41 g42 g43 g44 g45 g46 g47 g48 g9 i r1 r2 r4 r5 vout_a vout_e vout_n x1 z1_20 z1_6 t54 g12 g55 g56 g57 g58 g59 g60 g61 g62 g63 g64 g65 g66 g67 g68 g69 g70 g71) H (loopQ (spec_l05Of_I2 a a1 b1 count g10 g22 g23 g24 g25 g26 g27 g28 g29 g30 g31 g32 g33 g34 g35 g36 g37 g38 g39 g40 g41 g42 g43 g44 g45 g46 g47 g48 g9 i r1 r2 r4 r5 vout_a vout_e vout_n x1 z1_20 z1_6 Inv) μ Q)) : loopK (exK Try.prog E_spec_l05Of (cl (cl (cr (cl (cr (cr (cr (cr (cr (cr (bodyC Try.f52)))))))))))) (spec_l05Of_P2 a a1 b1 count g10 g22 g23 g24 g25 g26 g27 g28 g29 g30 g31 g32 g33 g34 g35 g36 g37 g38 g39 g40 g41 g42 g43 g44 g45 g46 g47 g48 g9 i r1 r2 r4 r5 vout_a vout_e vout_n x1 z1_20 z1_6 t54 g12 g55 g56 g57 g58 g59 g60 g61 g62 g63 g64 g65 g66 g67 g68 g69 g70 g71) H Q :=
  ⟨spec_l05Of_I2 a a1 b1 count g10 g22 g23 g24 g25 g26 g27 g28 g29 g30 g31 g32 g33 g34 g35 g36 g37 g38 g39 g40 g41 g42 g43 g44 g45 g46 g47 g48 g9 i r1 r2 r4 r5 vout_a vout_e vout_n x1 z1_20 z1_6 Inv, ν, ⟨t54, g12, g55, g56, g57, g58, g59, g60, g61, g62, g63, g64, g65, g66, g67, g68, g69, g70, g71, rfl, h0⟩, fun μ tm H h => by obtain ⟨t54, g12, g55, g56, g57, g58, g59, g60, g61, g62, g63, g64, g65, g66, g67, g68, g69, g70, g71, rfl, hI⟩ := h; exact hs μ t54 g12 g55 g56 g57 g58 g59 g60 g61 g62 g63 g64 g65 g66 g67 g68 g69 g70 g71 H hI⟩
theorem spec_l05Of_n2 {a : Nat} {a1 : Option Addr} {b1 : Nat} {count : Int} {g10 : Value} {g22 : Value} {g23 : Value} {g24 : Value} {g25 : Value} {g26 : Value} {g27 : Value} {g28 : Value} {g29 : Value} {g30 : Value} {g31 : Value} {g32 : Value} {g33 : Value} {g34 : Value} {g35 : Value} {g36 : Value} {g37 : Value} {g38 : Value} {g39 : Value} {g40 : Value} {g41 : Value} {g42 : Value} {g43 : Value} {g44 : Value} {g45 : Value} {g46 : Value} {g47 : Value} {g48 : Value} {g9 : Value} {i : Int} {r1 : Nat} {r2 : Nat} {r4 : Nat} {r5 : Nat} {vout_a : Option Addr} {vout_e : Nat} {vout_n : Nat} {x1 : Nat} {z1_20 : Int} {z1_6 : Int} {Q : Post} {Inv : Nat → Int → AHeap → Prop} {μ : Nat} (μ' : Nat) {t54 : Int} {g12 g55 g56 g57 g58 g59 g60 g61 g62 g63 g64 g65 g66 g67 g68 g69 g70 g71 : Value} {H : AHeap} (hm : μ' < μ) (hI : Inv μ' t54 H) : loopQ (spec_l05Of_I2 a a1 b1 count g10 g22 g23 g24 g25 g26 g27 g28 g29 g30 g31 g32 g33 g34 g35 g36 g37 g38 g39 g40 g41 g42 g43 g44 g45 g46 g47 g48 g9 i r1 r2 r4 r5 vout_a vout_e vout_n x1 z1_20 z1_6 Inv) μ Q .normal (spec_l05Of_P2 a a1 b1 count g10 g22 g23 g24 g25 g26 g27 g28 g29 g30 g31 g32 g33 g34 g35 g36 g37 g38 g39 g40 g41 g42 g43 g44 g45 g46 g47 g48 g9 i r1 r2 r4 r5 vout_a vout_e vout_n x1 z1_20 z1_6 t54 g12 g55 g56 g57 g58 g59 g60 g61 g62 g63 g64 g65 g66 g67 g68 g69 g70 g71) H := ⟨μ', hm, t54, g12, g55, g56, g57, g58, g59, g60, g61, g62, g63, g64, g65, g66, g67, g68, g69, g70, g71, rfl, hI⟩
theorem spec_l05Of_x2_2 (a : Nat) (a1 : Option Addr) (b1 : Nat) (count : Int) (g10 : Value) (g22 : Value) (g23 : Value) (g24 : Value) (g25 : Value) (g26 : Value) (g27 : Value) (g28 : Value) (g29 : Value) (g30 : Value) (g31 : Value) (g32 : Value) (g33 : Value) (g34 : Value) (g35 : Value) (g36 : Value) (g37 : Value) (g38 : Value) (g39 : Value) (g40 : Value) (g41 : Value) (g42 : Value) (g43 : Value) (g44 : Value) (g45 : Value) (g46 : Value) (g47 : Value) (g48 : Value) (g9 : Value) (i : Int) (r1 : Nat) (r2 : Nat) (r4 : Nat) (r5 : Nat) (vout_a : Option Addr) (vout_e : Nat) (vout_n : Nat) (x1 : Nat) (z1_20 : Int) (z1_6 : Int) (t54 : Int) (g12 g55 g56 g57 g58 g59 g60 g61 g62 g63 g64 g65 g66 g67 g68 g69 g70 g71 : Value) (H : AHeap) (K : Value → AHeap → Prop)  {I : Nat → List Value → AHeap → Prop} {μ : Nat} : loopQ I μ (blockQ 2 (seqQ (exK Try.prog E_spec_l05Of (cr (cr (cr (cr (cr (cr (cr (bodyC Try.f52))))))))) (retK Try.prog Try.f52 K))) (.exit 2) (spec_l05Of_P2 a a1 b1 count g10 g22 g23 g24 g25 g26 g27 g28 g29 g30 g31 g32 g33 g34 g35 g36 g37 g38 g39 g40 g41 g42 g43 g44 g45 g46 g47 g48 g9 i r1 r2 r4 r5 vout_a vout_e vout_n x1 z1_20 z1_6 t54 g12 g55 g56 g57 g58 g59 g60 g61 g62 g63 g64 g65 g66 g67 g68 g69 g70 g71) H =
  (K (.slice vout_a vout_n vout_e) H) := by kernel_rfl
theorem E_spec_l05Of_ok : ∀ g, FnOk Try.prog g (E_spec_l05Of g) := FnOk.envOf (by
  intro x hx
  simp only [List.mem_cons, List.not_mem_nil, or_false] at hx
  rcases hx with rfl | rfl | rfl | rfl
  · exact spec_l03Kernel_ok
  · exact spec_l00In_ok
  · exact spec_l03Energy_ok
  · exact spec_l01Sqrt_ok)
theorem o29 {P : Prop} (h : P := by first | assumption | omega) : P := h
theorem o7 {P : Prop} (h : P := by simp only [List.length_map]; (first | omega | (simp only [List.length_set, List.length_replicate, List.length_append, List.length_cons, List.length_nil, List.length_take, List.length_drop, marks_length]; done) | (simp only [List.length_set, List.length_replicate, List.length_append, List.length_cons, List.length_nil, List.length_take, List.length_drop, marks_length]; omega))) : P := h
set_option maxHeartbeats 1000000 in
theorem spec_l05Of_main (count : Int) (a : Nat) (H : AHeap) (K : Value → AHeap → Prop) (h : T_spec_l05Of count a H fun (r1_a : Option Addr) (r1_n : Nat) (r1_e : Nat) (H' : AHeap) => K (.slice r1_a r1_n r1_e) H') : bodyK Try.prog E_spec_l05Of Try.f52 [.int .i64 count, .pointer (some ⟨a, 0, none⟩)] H K := by
  rw [spec_l05Of_vc]
  obtain ⟨ap_Place, ap_Scale, ap_Size, i_a, pr0, pr1, pr2, pr3, pr4, hk⟩ := h
  have e : (p_spec_l05Of count ap_Place ap_Scale ap_Size) = _ := rfl
  have e := e.trans (p_spec_l05Of_eq count ap_Place ap_Scale ap_Size)
  have g0 := Grow.refl H
  refine ⟨ap_Scale, (rdN_at (rdN_grow g0 i_a) 1 (Nat.le_of_ble_eq_true rfl)).trans rfl, ?_⟩
  refine T_spec_l03Kernel_i ⟨o18, fun a_1 n_2 e_3 H_1 g_6 r_4 => ?_⟩
  have z_5 := spec_l03Kernel_len ap_Scale o29
  have l_7 := g_6.1
  have g_8 := g0.trans g_6
  have l_9 := g_8.1
  obtain rfl := r_4.isL.eqn
  have u_10 := r_4.up
  have u_11 := r_4.lo
  have z_13 := tdiv_nn ((((p_spec_l03Kernel ap_Scale)).length : Int)) 2
  refine ⟨(by first | omega | decide | (simp; done) | (simp; omega)), ?_⟩
  rw [show IntKind.wrap .i64 (Int.tdiv ((((p_spec_l03Kernel ap_Scale)).length : Int)) 2) = (Int.tdiv ((((p_spec_l03Kernel ap_Scale)).length : Int)) 2) from wrap64 o4 o4]
  refine Al.intro (fun b_14 H_2 hb_15 hl_16 g_17 o_18 => ?_)
  have o_18 : Own H_2 b_14 ((([] : List Nat)).map fF) := o_18
  have l_20 := g_17.1
  have g_21 := g_8.trans g_17
  have l_22 := g_21.1
  have r_23 := r_4.grow g_17
  have w_112 := o_18.lt
  refine spec_l05Of_L1 _ _ _ _ _ _ _ _ _ (fun (μ : Nat) (vout_a : Option Addr) (vout_n : Nat) (vout_e : Nat) (i : Int) (H_3 : AHeap) => ∃ (l_vout : List Nat), ∃ (b_24 : Nat), vout_a = some ⟨b_24, 0, none⟩ ∧ vout_n = l_vout.length ∧ vout_e = 1 ∧ Own H_3 b_24 (l_vout.map fF) ∧ OwnS fC H_3 H.length a_1 (((p_spec_l03Kernel ap_Scale)).length) e_3 (p_spec_l03Kernel ap_Scale) ∧ H_1.length ≤ H_3.length ∧ (b_24 < H.length ∨ H_1.length ≤ b_24) ∧ Grow H H_3 ∧ H.length ≤ b_24 ∧ (0 : Int) ≤ i ∧ ((i ≤ count ∨ i ≤ (0 : Int))) ∧ (l_vout.length : Int) ≤ i - (0 : Int) + 0 ∧ (l_vout.length : Int) ≤ i ∧ count - i ≤ (μ : Int) ∧ p_spec_l05Of count ap_Place ap_Scale ap_Size = p_spec_l05Of_l1 count ap_Place ap_Scale ap_Size (μ + 1) l_vout i) (Int.toNat (count - (0 : Int))) _ _ _ _ _ _ _ _ _ _ _ _ _ _ _ _ _ _ _ _ _ _ _ _ _ _ _ _ _ _ _ _ _ H_2 ?_ ?_
  · exact ⟨_, _, rfl, o8, rfl, o_18, r_23, o4, o4, g_21, o4, o5, o5, o5, o5, o4, e⟩
  · intro μ vout_a vout_n vout_e i g9 g10 g22 g23 g24 g25 g26 g27 g28 g29 g30 g31 g32 g33 g34 g35 g36 g37 g38 g39 g40 g41 g42 g43 g44 g45 g46 g47 g48 H_3 hI
    obtain ⟨l_vout, b_24, rfl, rfl, rfl, o_25, r_26, n_27, n_28, g_29, l_30, v_31, v_32, v_33, v_34, hμ, e⟩ := hI
    rw [spec_l05Of_r1]
    have e := e.trans (p_spec_l05Of_l1_s count ap_Place ap_Scale ap_Size μ l_vout i)
    have w_35 := o_25.lt
    have l_36 := g_29.1
    refine Br.intro (fun c_37 => ?_) (fun c_37 => ?_)
    · have e := e.trans (cond_t c_37)
      have c_37' := of_decide_eq_true c_37
      refine ⟨ap_Place, (rdN_at (rdN_grow g_29 i_a) 0 (Nat.le_of_ble_eq_true rfl)).trans rfl, ?_⟩
      rw [show IntKind.wrap .i64 (i - ap_Place) = (i - ap_Place) from wrap64 o4 o4]
      rw [show IntKind.wrap .i64 ((i - ap_Place) + ((Int.tdiv ((((p_spec_l03Kernel ap_Scale)).length : Int)) 2))) = ((i - ap_Place) + ((Int.tdiv ((((p_spec_l03Kernel ap_Scale)).length : Int)) 2))) from wrap64 o4 o4]
      rw [show IntKind.wrap .i64 (((((p_spec_l03Kernel ap_Scale)).length : Int)) - 1) = (((((p_spec_l03Kernel ap_Scale)).length : Int)) - 1) from wrap64 o4 o4]
      refine T_spec_l00In_i ?_
      refine Br.intro (fun c_38 => ?_) (fun c_38 => ?_)
      · have e := e.trans (cond_t c_38)
        have c_38' := spec_l00In_t c_38
        obtain ⟨b_39, f_40, q_41⟩ := (r_26.isL).pos o0
        refine ⟨by omega, by omega, b_39, f_40, q_41, ?_⟩
        refine ⟨((((p_spec_l03Kernel ap_Scale)).getD (((i - ap_Place) + ((Int.tdiv ((((p_spec_l03Kernel ap_Scale)).length : Int)) 2))) : Int).toNat (0, 0))).1, ((((p_spec_l03Kernel ap_Scale)).getD (((i - ap_Place) + ((Int.tdiv ((((p_spec_l03Kernel ap_Scale)).length : Int)) 2))) : Int).toNat (0, 0))).2, (r_26.isL).rd (Grow.refl _) q_41 o4 _, ?_⟩
        refine Al.intro (fun b_42 H_4 hb_43 hl_44 g_45 o_46 => ?_)
        have o_46 : Own H_4 b_42 (([(((((p_spec_l03Kernel ap_Scale)).getD (((i - ap_Place) + ((Int.tdiv ((((p_spec_l03Kernel ap_Scale)).length : Int)) 2))) : Int).toNat (0, 0))).1)]).map fF) := o_46
        have l_48 := g_45.1
        have g_49 := g_29.trans g_45
        have l_50 := g_49.1
        have o_51 := o_25.grow g_45
        have w_52 := o_51.lt
        have r_53 := r_26.grow g_45
        have w_67 := o_46.lt
        refine ⟨_, _, o_51.ownB o9 rfl, (isl_rdS (o_46.isL o8)), (fun h => by cases h), o24, ?_⟩
        refine Ap.app o_51 rfl rfl (fun b_58 H_5 q_65 hl_54 o_55 k_56 => ?_)
        have o_55 := map_snoc o_55
        have l_59 := k_56.1
        have g_60 := g_49.keep (b := b_24) o4 k_56
        have l_61 := g_60.1
        have o_62 := o_46.keep o4 k_56
        have w_63 := o_62.lt
        have r_64 := r_53.keep u_10 o4 k_56
        have w_66 := o_55.lt
        rw [show IntKind.wrap .i64 (i + 1) = (i + 1) from wrap64 o4 o4]
        refine spec_l05Of_n1 (μ - 1) o12 ⟨_, _, rfl, o11, rfl, o_55, r_64, o4, o4, g_60, o4, o1, o1, o1, o1, o12, (by rw [show μ - 1 + 1 = μ from by first | omega]; exact e)⟩
      · have e := e.trans (cond_f c_38)
        refine Al.intro (fun b_68 H_6 hb_69 hl_70 g_71 o_72 => ?_)
        have o_72 : Own H_6 b_68 (([0]).map fF) := o_72
        have l_74 := g_71.1
        have g_75 := g_29.trans g_71
        have l_76 := g_75.1
        have o_77 := o_25.grow g_71
        have w_78 := o_77.lt
        have r_79 := r_26.grow g_71
        have w_93 := o_72.lt
        refine ⟨_, _, o_77.ownB o9 rfl, (isl_rdS (o_72.isL o8)), (fun h => by cases h), o24, ?_⟩
        refine Ap.app o_77 rfl rfl (fun b_84 H_7 q_91 hl_80 o_81 k_82 => ?_)
        have o_81 := map_snoc o_81
        have l_85 := k_82.1
        have g_86 := g_75.keep (b := b_24) o4 k_82
        have l_87 := g_86.1
        have o_88 := o_72.keep o4 k_82
        have w_89 := o_88.lt
        have r_90 := r_79.keep u_10 o4 k_82
        have w_92 := o_81.lt
        rw [show IntKind.wrap .i64 (i + 1) = (i + 1) from wrap64 o4 o4]
        refine spec_l05Of_n1 (μ - 1) o12 ⟨_, _, rfl, o11, rfl, o_81, r_90, o4, o4, g_86, o4, o1, o1, o1, o1, o12, (by rw [show μ - 1 + 1 = μ from by first | omega]; exact e)⟩
    · have e := e.trans (cond_f c_37)
      have c_37' := of_decide_eq_false c_37
      rw [spec_l05Of_x1_0]
      refine T_spec_l03Energy_i ⟨_, (o_25.isL o8), o0, ?_⟩
      refine T_spec_l01Sqrt_i ?_
      refine spec_l05Of_L2 _ _ _ _ _ _ _ _ _ _ _ _ _ _ _ _ _ _ _ _ _ _ _ _ _ _ _ _ _ _ _ _ _ _ _ _ _ _ _ _ _ _ _ _ (fun (μ2 : Nat) (t54 : Int) (H_8 : AHeap) => ∃ (y2_1 : List Nat), Own H_8 b_24 (y2_1.map fF) ∧ y2_1.length = l_vout.length ∧ OwnS fC H_8 H.length a_1 (((p_spec_l03Kernel ap_Scale)).length) e_3 (p_spec_l03Kernel ap_Scale) ∧ H_1.length ≤ H_8.length ∧ Grow H H_8 ∧ (0 : Int) ≤ t54 ∧ t54 ≤ (l_vout.length : Int) ∧ (l_vout.length : Int) - t54 ≤ (μ2 : Int) ∧ p_spec_l05Of count ap_Place ap_Scale ap_Size = p_spec_l05Of_l2 count ap_Place ap_Scale ap_Size l_vout i (fun (t54 : Int) (y2_1 : List Nat) => y2_1) (μ2 + 1) t54 y2_1) (Int.toNat ((l_vout.length : Int) - (0 : Int))) _ _ _ _ _ _ _ _ _ _ _ _ _ _ _ _ _ _ _ H_3 ?_ ?_
      · exact ⟨_, o_25, o20, r_26, o4, g_29, o5, o5, o4, e⟩
      · intro μ2 t54 g12 g55 g56 g57 g58 g59 g60 g61 g62 g63 g64 g65 g66 g67 g68 g69 g70 g71 H_8 hI
        obtain ⟨y2_1, o_94, y_95, r_96, n_97, g_98, v_99, v_100, hμ, e⟩ := hI
        rw [spec_l05Of_r2]
        have e := e.trans (p_spec_l05Of_l2_s count ap_Place ap_Scale ap_Size l_vout i (fun (t54 : Int) (y2_1 : List Nat) => y2_1) μ2 t54 y2_1)
        have w_101 := o_94.lt
        have l_102 := g_98.1
        refine Br.intro (fun c_103 => ?_) (fun c_103 => ?_)
        · have e := e.trans (cond_t c_103)
          have c_103' := of_decide_eq_true c_103
          refine ⟨by omega, o4, _, _, rfl, ?_⟩
          refine ⟨((y2_1).getD (t54 : Int).toNat 0), o_94.rd o0 _, ?_⟩
          refine ⟨ap_Size, (rdN_at (rdN_grow g_98 i_a) 2 (Nat.le_of_ble_eq_true rfl)).trans rfl, ?_⟩
          refine ⟨by omega, o4, _, _, rfl, ?_⟩
          refine Lt.set o_94 o7 (fun H_9 hl_104 o_106 k_105 => ?_)
          have o_106 := map_set o_106
          have l_107 := k_105.1
          have g_108 := g_98.keep (b := b_24) o4 k_105
          have l_109 := g_108.1
          have r_110 := r_96.keep u_10 o4 k_105
          have w_111 := o_106.lt
          rw [show IntKind.wrap .i64 (t54 + 1) = (t54 + 1) from wrap64 o4 o4]
          refine spec_l05Of_n2 (μ2 - 1) o12 ⟨_, o_106, o13, r_110, o4, g_108, o1, o1, o12, (by rw [show μ2 - 1 + 1 = μ2 from by first | omega]; exact e)⟩
        · have e := e.trans (cond_f c_103)
          have c_103' := of_decide_eq_false c_103
          rw [spec_l05Of_x2_2]
          rw [e] at hk
          exact hk _ _ _ H_8 g_98 (o_94.ownS o8 o4)
theorem spec_l05Of_ok : FnOk Try.prog 52 S_spec_l05Of := by
  refine FnOk.body mix_ok E_spec_l05Of_ok Try.func52 rfl (by kernel_rfl) (by kernel_rfl) ?_ ?_ ?_ ?_ ?_
  · intro args H K K' h hk
    simp only [S_spec_l05Of] at *
    unfold F_spec_l05Of at *
    split at hk
    · obtain ⟨ap_Place, ap_Scale, ap_Size, i_a, pr0, pr1, pr2, pr3, pr4, k⟩ := hk
      exact ⟨ap_Place, ap_Scale, ap_Size, i_a, pr0, pr1, pr2, pr3, pr4, (fun r1_a r1_n r1_e H' gg ow0 => h _ _ (k r1_a r1_n r1_e H' gg ow0))⟩
    · exact hk.elim
  · intro hq; cases hq
  · intro args H K hk
    simp only [S_spec_l05Of] at *
    unfold F_spec_l05Of at *
    split at hk
    · obtain ⟨ap_Place, ap_Scale, ap_Size, i_a, pr0, pr1, pr2, pr3, pr4, k⟩ := hk
      exact liveS fun a n e H1 g o => ⟨_, _, k a n e H1 g o⟩
    · exact hk.elim
  · intro _ args H K hk
    simp only [S_spec_l05Of] at *
    unfold F_spec_l05Of at *
    split at hk
    · obtain ⟨ap_Place, ap_Scale, ap_Size, i_a, pr0, pr1, pr2, pr3, pr4, k⟩ := hk
      exact ⟨ap_Place, ap_Scale, ap_Size, i_a, pr0, pr1, pr2, pr3, pr4, (fun r1_a r1_n r1_e H' gg ow0 => ⟨gg, k r1_a r1_n r1_e H' gg ow0⟩)⟩
    · exact hk.elim
  · have mm := @spec_l05Of_main
    revert mm
    generalize bodyK Try.prog E_spec_l05Of Try.f52 = Q
    intro mm args H K hk
    simp only [S_spec_l05Of] at *
    unfold F_spec_l05Of at *
    split at hk
    · exact mm _ _ H K hk
    · exact hk.elim

def p_spec_l02Finite_l1 (l_list : List Nat) : Nat → Bool → Int → Bool
  | 0, _, _ => false
  | μ + 1, t2, i => (bif decide ((i : Int) < (l_list.length : Int)) then (bif !((p_spec_l01Finite (((l_list).getD (i : Int).toNat 0)))) then false else (p_spec_l02Finite_l1 l_list μ t2 (i + 1))) else true)
def p_spec_l02Finite_l1_s := fun l_list μ t2 i => @p_spec_l02Finite_l1.eq_2 l_list t2 i μ
def p_spec_l02Finite (l_list : List Nat) : Bool := (p_spec_l02Finite_l1 l_list (Int.toNat ((l_list.length : Int) - (0 : Int)) + 1) false (0 : Int))
def p_spec_l02Finite_eq := @p_spec_l02Finite.eq_1
def T_spec_l02Finite (list_a : Option Addr) (list_n : Nat) (list_e : Nat) (H : AHeap) (K : Bool → AHeap → Prop) : Prop := ∃ (l_list : List Nat), IsL fF H list_a list_n l_list ∧ l_list.length < 1073741824 ∧ K (p_spec_l02Finite l_list) H
theorem T_spec_l02Finite_i {list_a : Option Addr} {list_n : Nat} {list_e : Nat} {H : AHeap} {K : Bool → AHeap → Prop} (h : ∃ (l_list : List Nat), IsL fF H list_a list_n l_list ∧ l_list.length < 1073741824 ∧ K (p_spec_l02Finite l_list) H) : T_spec_l02Finite list_a list_n list_e H K := h

/-! spec_l02Finite: function 53 -/
def E_spec_l02Finite : Env := envOf [(73, S_spec_l01Finite)]
def F_spec_l02Finite : List Value → AHeap → (Value → AHeap → Prop) → Prop
  | [.slice list_a list_n list_e], H, K => T_spec_l02Finite list_a list_n list_e H fun (r1 : Bool) (H' : AHeap) => K (.bool r1) H'
  | _, _, _ => False
def S_spec_l02Finite : FSpec := { F := F_spec_l02Finite, quiet := true, tame := false }
theorem spec_l02Finite_vc (list_a : Option Addr) (list_n : Nat) (list_e : Nat) (H : AHeap) (K : Value → AHeap → Prop) : bodyK Try.prog E_spec_l02Finite Try.f53 [.slice list_a list_n list_e] H K =
  (loopK (exK Try.prog E_spec_l02Finite (cl (cl (cr (cl (cr (bodyC Try.f53))))))) [.slice list_a list_n list_e, undef, .bool false, .int .i64 0, undef, undef, undef, undef, undef, undef, undef, undef, undef, undef, undef, undef] H (blockQ 0 (seqQ (exK Try.prog E_spec_l02Finite (cr (cr (bodyC Try.f53)))) (retK Try.prog Try.f53 K)))) := by kernel_rfl
abbrev spec_l02Finite_P1 (list_a : Option Addr) (list_e : Nat) (list_n : Nat) (t2 : Bool) (i : Int) (g4 g5 g6 g7 g8 g9 g10 g11 g12 g13 g14 g15 : Value) : List Value := [.slice list_a list_n list_e, undef, .bool t2, .int .i64 i, g4, g5, g6, g7, g8, g9, g10, g11, g12, g13, g14, g15]
theorem spec_l02Finite_r1 (list_a : Option Addr) (list_e : Nat) (list_n : Nat) (t2 : Bool) (i : Int) (g4 g5 g6 g7 g8 g9 g10 g11 g12 g13 g14 g15 : Value) (H : AHeap) (R : Post) : exK Try.prog E_spec_l02Finite (cl (cl (cr (cl (cr (bodyC Try.f53)))))) (spec_l02Finite_P1 list_a list_e list_n t2 i g4 g5 g6 g7 g8 g9 g10 g11 g12 g13 g14 g15) H R =
  (Br (decide ((i : Int) < (list_n : Int))) ((0 : Int) ≤ i ∧ i < (list_n : Int) ∧ ∃ b1 f1, (list_a : Option Addr) = some ⟨b1, f1, none⟩ ∧ ∃ x1 : Nat,  rdC H b1 (f1 + (i : Int).toNat * 1) = some (.float .f32 x1) ∧ T_spec_l01Finite x1 H fun (r1 : Bool) (H1 : AHeap) => Br (!r1) (R .ret [.slice list_a list_n list_e, undef, .bool false, .int .i64 i, .int .i64 i, .slice list_a list_n list_e, .int .i64 (list_n : Int), .bool (decide ((i : Int) < (list_n : Int))), g8, g9, .slice list_a list_n list_e, .int .i64 i, .pointer (some ⟨b1, f1 + (i : Int).toNat * 1, none⟩), .float .f32 x1, .bool r1, .bool (!r1)] H1) (R .normal [.slice list_a list_n list_e, undef, .bool t2, .int .i64 (IntKind.wrap .i64 (i + 1)), .int .i64 i, .slice list_a list_n list_e, .int .i64 (list_n : Int), .bool (decide ((i : Int) < (list_n : Int))), .int .i64 i, .int .i64 (IntKind.wrap .i64 (i + 1)), .slice list_a list_n list_e, .int .i64 i, .pointer (some ⟨b1, f1 + (i : Int).toNat * 1, none⟩), .float .f32 x1, .bool r1, .bool (!r1)] H1)) (R (.exit 0) [.slice list_a list_n list_e, undef, .bool t2, .int .i64 i, .int .i64 i, .slice list_a list_n list_e, .int .i64 (list_n : Int), .bool (decide ((i : Int) < (list_n : Int))), g8, g9, g10, g11, g12, g13, g14, g15] H)) := by kernel_rfl
def spec_l02Finite_I1 (list_a : Option Addr) (list_e : Nat) (list_n : Nat) (Inv : Nat → Bool → Int → AHeap → Prop) : Nat → List Value → AHeap → Prop := fun μ tm H => ∃ (t2 : Bool), ∃ (i : Int), ∃ g4 g5 g6 g7 g8 g9 g10 g11 g12 g13 g14 g15, tm = (spec_l02Finite_P1 list_a list_e list_n t2 i g4 g5 g6 g7 g8 g9 g10 g11 g12 g13 g14 g15) ∧ Inv μ t2 i H
theorem spec_l02Finite_L1 (list_a : Option Addr) (list_e : Nat) (list_n : Nat) {Q : Post} (Inv : Nat → Bool → Int → AHeap → Prop) (ν : Nat) (t2 : Bool) (i : Int) (g4 g5 g6 g7 g8 g9 g10 g11 g12 g13 g14 g15 : Value) (H : AHeap) (h0 : Inv ν t2 i H)
    (hs : ∀ (μ : Nat) (t2 : Bool) (i : Int) (g4 g5 g6 g7 g8 g9 g10 g11 g12 g13 g14 g15 : Value) (H : AHeap), Inv μ t2 i H → exK Try.prog E_spec_l02Finite (cl (cl (cr (cl (cr (bodyC Try.f53)))))) (spec_l02Finite_P1 list_a list_e list_n t2 i g4 g5 g6 g7 g8 g9 g10 g11 g12 g13 g14 g15) H (loopQ (spec_l02Finite_I1 list_a list_e list_n Inv) μ Q)) : loopK (exK Try.prog E_spec_l02Finite (cl (cl (cr (cl (cr (bodyC Try.f53))))))) (spec_l02Finite_P1 list_a list_e list_n t2 i g4 g5 g6 g7 g8 g9 g10 g11 g12 g13 g14 g15) H Q :=
  ⟨spec_l02Finite_I1 list_a list_e list_n Inv, ν, ⟨t2, i, g4, g5, g6, g7, g8, g9, g10, g11, g12, g13, g14, g15, rfl, h0⟩, fun μ tm H h => by obtain ⟨t2, i, g4, g5, g6, g7, g8, g9, g10, g11, g12, g13, g14, g15, rfl, hI⟩ := h; exact hs μ t2 i g4 g5 g6 g7 g8 g9 g10 g11 g12 g13 g14 g15 H hI⟩
theorem spec_l02Finite_n1 {list_a : Option Addr} {list_e : Nat} {list_n : Nat} {Q : Post} {Inv : Nat → Bool → Int → AHeap → Prop} {μ : Nat} (μ' : Nat) {t2 : Bool} {i : Int} {g4 g5 g6 g7 g8 g9 g10 g11 g12 g13 g14 g15 : Value} {H : AHeap} (hm : μ' < μ) (hI : Inv μ' t2 i H) : loopQ (spec_l02Finite_I1 list_a list_e list_n Inv) μ Q .normal (spec_l02Finite_P1 list_a list_e list_n t2 i g4 g5 g6 g7 g8 g9 g10 g11 g12 g13 g14 g15) H := ⟨μ', hm, t2, i, g4, g5, g6, g7, g8, g9, g10, g11, g12, g13, g14, g15, rfl, hI⟩
theorem spec_l02Finite_x1_0 (list_a : Option Addr) (list_e : Nat) (list_n : Nat) (t2 : Bool) (i : Int) (g4 g5 g6 g7 g8 g9 g10 g11 g12 g13 g14 g15 : Value) (H : AHeap) (K : Value → AHeap → Prop)  {I : Nat → List Value → AHeap → Prop} {μ : Nat} : loopQ I μ (blockQ 0 (seqQ (exK Try.prog E_spec_l02Finite (cr (cr (bodyC Try.f53)))) (retK Try.prog Try.f53 K))) (.exit 0) (spec_l02Finite_P1 list_a list_e list_n t2 i g4 g5 g6 g7 g8 g9 g10 g11 g12 g13 g14 g15) H =
  (K (.bool true) H) := by kernel_rfl
theorem spec_l02Finite_x1_ret (list_a : Option Addr) (list_e : Nat) (list_n : Nat) (t2 : Bool) (i : Int) (g4 g5 g6 g7 g8 g9 g10 g11 g12 g13 g14 g15 : Value) (H : AHeap) (K : Value → AHeap → Prop)  {I : Nat → List Value → AHeap → Prop} {μ : Nat} : loopQ I μ (blockQ 0 (seqQ (exK Try.prog E_spec_l02Finite (cr (cr (bodyC Try.f53)))) (retK Try.prog Try.f53 K))) .ret (spec_l02Finite_P1 list_a list_e list_n t2 i g4 g5 g6 g7 g8 g9 g10 g11 g12 g13 g14 g15) H =
  (K (.bool t2) H) := by kernel_rfl
theorem E_spec_l02Finite_ok : ∀ g, FnOk Try.prog g (E_spec_l02Finite g) := FnOk.envOf (by
  intro x hx
  simp only [List.mem_cons, List.not_mem_nil, or_false] at hx
  subst hx; exact spec_l01Finite_ok)
set_option maxHeartbeats 1000000 in
theorem spec_l02Finite_main (list_a : Option Addr) (list_n : Nat) (list_e : Nat) (H : AHeap) (K : Value → AHeap → Prop) (h : T_spec_l02Finite list_a list_n list_e H fun (r1 : Bool) (H' : AHeap) => K (.bool r1) H') : bodyK Try.prog E_spec_l02Finite Try.f53 [.slice list_a list_n list_e] H K := by
  rw [spec_l02Finite_vc]
  obtain ⟨l_list, i_list, bd_9, hk⟩ := h
  obtain rfl := i_list.eqn
  have e : (p_spec_l02Finite l_list) = _ := rfl
  have e := e.trans (p_spec_l02Finite_eq l_list)
  have g0 := Grow.refl H
  refine spec_l02Finite_L1 _ _ _ (fun (μ : Nat) (t2 : Bool) (i : Int) (H_1 : AHeap) => H = H_1 ∧ (0 : Int) ≤ i ∧ i ≤ (l_list.length : Int) ∧ (l_list.length : Int) - i ≤ (μ : Int) ∧ p_spec_l02Finite l_list = p_spec_l02Finite_l1 l_list (μ + 1) t2 i) (Int.toNat ((l_list.length : Int) - (0 : Int))) _ _ _ _ _ _ _ _ _ _ _ _ _ _ H ?_ ?_
  · exact ⟨rfl, o5, o5, o4, e⟩
  · intro μ t2 i g4 g5 g6 g7 g8 g9 g10 g11 g12 g13 g14 g15 H_1 hI
    obtain ⟨rfl, v_1, v_2, hμ, e⟩ := hI
    rw [spec_l02Finite_r1]
    have e := e.trans (p_spec_l02Finite_l1_s l_list μ t2 i)
    have l_3 := g0.1
    refine Br.intro (fun c_4 => ?_) (fun c_4 => ?_)
    · have e := e.trans (cond_t c_4)
      have c_4' := of_decide_eq_true c_4
      obtain ⟨b_5, f_6, q_7⟩ := ((i_list.grow g0)).pos o0
      refine ⟨by omega, by omega, b_5, f_6, q_7, ?_⟩
      refine ⟨((l_list).getD (i : Int).toNat 0), (i_list).rd g0 q_7 o4 _, ?_⟩
      refine T_spec_l01Finite_i ?_
      refine Br.intro (fun c_8 => ?_) (fun c_8 => ?_)
      · have e := e.trans (cond_t c_8)
        have c_8n := nf_of_t c_8
        rw [spec_l02Finite_x1_ret]
        rw [e] at hk
        exact hk
      · have e := e.trans (cond_f c_8)
        have c_8n := nt_of_f c_8
        rw [show IntKind.wrap .i64 (i + 1) = (i + 1) from wrap64 o4 o4]
        refine spec_l02Finite_n1 (μ - 1) o12 ⟨rfl, o1, o1, o12, (by rw [show μ - 1 + 1 = μ from by first | omega]; exact e)⟩
    · have e := e.trans (cond_f c_4)
      have c_4' := of_decide_eq_false c_4
      rw [spec_l02Finite_x1_0]
      rw [e] at hk
      exact hk
theorem spec_l02Finite_ok : FnOk Try.prog 53 S_spec_l02Finite := by
  refine FnOk.body mix_ok E_spec_l02Finite_ok Try.func53 rfl (by kernel_rfl) (by kernel_rfl) ?_ ?_ ?_ ?_ ?_
  · intro args H K K' h hk
    simp only [S_spec_l02Finite] at *
    unfold F_spec_l02Finite at *
    split at hk
    · obtain ⟨l_list, i_list, bd_9, k⟩ := hk
      exact ⟨l_list, i_list, bd_9, h _ _ k⟩
    · exact hk.elim
  · intro _ args H K hk
    simp only [S_spec_l02Finite] at *
    unfold F_spec_l02Finite at *
    split at hk
    · obtain ⟨l_list, i_list, bd_9, k⟩ := hk
      exact ⟨_, k, fun K' k' => ⟨l_list, i_list, bd_9, k'⟩⟩
    · exact hk.elim
  · intro args H K hk
    simp only [S_spec_l02Finite] at *
    unfold F_spec_l02Finite at *
    split at hk
    · obtain ⟨l_list, i_list, bd_9, k⟩ := hk
      exact ⟨_, _, k⟩
    · exact hk.elim
  · intro hq; cases hq
  · have mm := @spec_l02Finite_main
    revert mm
    generalize bodyK Try.prog E_spec_l02Finite Try.f53 = Q
    intro mm args H K hk
    simp only [S_spec_l02Finite] at *
    unfold F_spec_l02Finite at *
    split at hk
    · exact mm _ _ _ H K hk
    · exact hk.elim

def p_spec_AtomList (count : Int) (a_Place : Int) (a_Scale : Nat) (a_Size : Nat) : (List Nat) × Bool := (bif !((p_spec_l00In count (1 : Int) (128 : Int))) then ([], false) else (bif !(p_spec_l05Atom a_Place a_Scale a_Size count) then ([], false) else (bif !((p_spec_l02Finite (p_spec_l05Of count a_Place a_Scale a_Size))) then ([], false) else ((p_spec_l05Of count a_Place a_Scale a_Size), true))))
def p_spec_AtomList_eq := @p_spec_AtomList.eq_1
def T_spec_AtomList (count : Int) (a_Place : Int) (a_Scale : Nat) (a_Size : Nat) (H : AHeap) (K : (Option Addr) → Nat → Nat → Bool → AHeap → Prop) : Prop := ((∀ (r1_a : Option Addr) (r1_n r1_e : Nat), ∀ H' : AHeap, Grow H H' → OwnS fF H' H.length r1_a r1_n r1_e ((p_spec_AtomList count a_Place a_Scale a_Size).1) → K r1_a r1_n r1_e ((p_spec_AtomList count a_Place a_Scale a_Size).2) H'))
theorem T_spec_AtomList_i {count : Int} {a_Place : Int} {a_Scale : Nat} {a_Size : Nat} {H : AHeap} {K : (Option Addr) → Nat → Nat → Bool → AHeap → Prop} (h : ((∀ (r1_a : Option Addr) (r1_n r1_e : Nat), ∀ H' : AHeap, Grow H H' → OwnS fF H' H.length r1_a r1_n r1_e ((p_spec_AtomList count a_Place a_Scale a_Size).1) → K r1_a r1_n r1_e ((p_spec_AtomList count a_Place a_Scale a_Size).2) H'))) : T_spec_AtomList count a_Place a_Scale a_Size H K := h
theorem l00In_t {n a b : Int} (h : p_spec_l00In n a b = true) : a ≤ n ∧ n ≤ b := by
  unfold p_spec_l00In at h
  simp at h; omega
theorem spec_AtomList_len (c p : Int) (s z : Nat) : (p_spec_AtomList c p s z).1.length ≤ 1000 := by
  rw [p_spec_AtomList_eq]
  refine cnb (P := fun r : List Nat × Bool => r.1.length ≤ 1000) (fun h => Nat.zero_le _) (fun hc => ?_)
  have hc := l00In_t (nt_of_f hc)
  refine cnb (P := fun r : List Nat × Bool => r.1.length ≤ 1000) (fun h => Nat.zero_le _) (fun h => ?_)
  refine cnb (P := fun r : List Nat × Bool => r.1.length ≤ 1000) (fun h => Nat.zero_le _) (fun h => ?_)
  exact Nat.le_trans (spec_l05Of_len _ _ _ _) o4
theorem spec_AtomList_full {c p : Int} {s z : Nat} (h : (p_spec_AtomList c p s z).2 = true) : (p_spec_AtomList c p s z).1.length = c.toNat := by
  rw [p_spec_AtomList_eq] at h ⊢
  revert h
  refine cnb (P := fun r : List Nat × Bool => r.2 = true → r.1.length = c.toNat) (fun h => fun h => by cases h) (fun hc => ?_)
  have hc := l00In_t (nt_of_f hc)
  refine cnb (P := fun r : List Nat × Bool => r.2 = true → r.1.length = c.toNat) (fun h => fun h => by cases h) (fun h => ?_)
  refine cnb (P := fun r : List Nat × Bool => r.2 = true → r.1.length = c.toNat) (fun h => fun h => by cases h) (fun h => fun _ => ?_)
  exact spec_l05Of_full _ _ _ _ o4
/-! spec_AtomList: function 11 -/
def E_spec_AtomList : Env := envOf [(50, S_spec_l00In), (51, S_spec_l05Atom), (52, S_spec_l05Of), (53, S_spec_l02Finite)]
def F_spec_AtomList : List Value → AHeap → (Value → AHeap → Prop) → Prop
  | [.int .i64 count, .agg ⟨[.int .i64 a_Place, .float .f32 a_Scale, .float .f32 a_Size]⟩], H, K => T_spec_AtomList count a_Place a_Scale a_Size H fun (r1_a : Option Addr) (r1_n : Nat) (r1_e : Nat) (r2 : Bool) (H' : AHeap) => K (.tuple #[.slice r1_a r1_n r1_e, .bool r2]) H'
  | _, _, _ => False
def S_spec_AtomList : FSpec := { F := F_spec_AtomList, quiet := false, tame := true }
theorem spec_AtomList_vc (count : Int) (a_Place : Int) (a_Scale : Nat) (a_Size : Nat) (H : AHeap) (K : Value → AHeap → Prop) : bodyK Try.prog E_spec_AtomList Try.f11 [.int .i64 count, .agg #[.int .i64 a_Place, .float .f32 a_Scale, .float .f32 a_Size]] H K =
  (Al [.int .i64 a_Place, .float .f32 a_Scale, .float .f32 a_Size] H fun b1 H1 => T_spec_l00In count 1 128 H1 fun (r1 : Bool) (H2 : AHeap) => Br (!r1) (K (.tuple #[.slice none 0 0, .bool false]) H2) (T_spec_l05Atom b1 count H2 fun (r2 : Bool) (H3 : AHeap) => Br (!r2) (K (.tuple #[.slice none 0 0, .bool false]) H3) (T_spec_l05Of count b1 H3 fun (a1 : Option Addr) (r3 : Nat) (r4 : Nat) (H4 : AHeap) => T_spec_l02Finite a1 r3 r4 H4 fun (r5 : Bool) (H5 : AHeap) => Br (!r5) (K (.tuple #[.slice none 0 0, .bool false]) H5) (K (.tuple #[.slice a1 r3 r4, .bool true]) H5)))) := by kernel_rfl
theorem E_spec_AtomList_ok : ∀ g, FnOk Try.prog g (E_spec_AtomList g) := FnOk.envOf (by
  intro x hx
  simp only [List.mem_cons, List.not_mem_nil, or_false] at hx
  rcases hx with rfl | rfl | rfl | rfl
  · exact spec_l00In_ok
  · exact spec_l05Atom_ok
  · exact spec_l05Of_ok
  · exact spec_l02Finite_ok)
theorem o14 {P : Prop} (h : P := by first | exact OwnS.nil _ _ _ _ | exact OwnT.nil _ _ _) : P := h
theorem o17 {P : Prop} (h : P := by first | assumption | omega | (simp; omega) | (first | exact (atom_in (by assumption)).2.1 | (have := atom_in (by assumption); omega))) : P := h
set_option maxHeartbeats 1000000 in
theorem spec_AtomList_main (count : Int) (a_Place : Int) (a_Scale : Nat) (a_Size : Nat) (H : AHeap) (K : Value → AHeap → Prop) (h : T_spec_AtomList count a_Place a_Scale a_Size H fun (r1_a : Option Addr) (r1_n : Nat) (r1_e : Nat) (r2 : Bool) (H' : AHeap) => K (.tuple #[.slice r1_a r1_n r1_e, .bool r2]) H') : bodyK Try.prog E_spec_AtomList Try.f11 [.int .i64 count, .agg #[.int .i64 a_Place, .float .f32 a_Scale, .float .f32 a_Size]] H K := by
  rw [spec_AtomList_vc]
  have hk := h
  unfold T_spec_AtomList at hk
  have e : (p_spec_AtomList count a_Place a_Scale a_Size) = _ := rfl
  have e := e.trans (p_spec_AtomList_eq count a_Place a_Scale a_Size)
  have g0 := Grow.refl H
  refine Al.intro (fun b_1 H_1 hb_2 hl_3 g_4 o_5 => ?_)
  have l_7 := g_4.1
  have g_8 := g0.trans g_4
  have l_9 := g_8.1
  have w_27 := o_5.lt
  refine T_spec_l00In_i ?_
  refine Br.intro (fun c_10 => ?_) (fun c_10 => ?_)
  · have e := e.trans (cond_t c_10)
    have c_10n := nf_of_t c_10
    rw [e] at hk
    exact hk _ _ _ H_1 g_8 o14
  · have e := e.trans (cond_f c_10)
    have c_10n := nt_of_f c_10
    have c_10n' := spec_l00In_t c_10n
    refine T_spec_l05Atom_i ⟨a_Place, a_Scale, a_Size, ((o_5.rdN (Nat.le_of_ble_eq_true rfl)).trans rfl), o18, o18, ?_⟩
    refine Br.intro (fun c_11 => ?_) (fun c_11 => ?_)
    · have e := e.trans (cond_t c_11)
      have c_11n := nf_of_t c_11
      rw [e] at hk
      exact hk _ _ _ H_1 g_8 o14
    · have e := e.trans (cond_f c_11)
      have c_11n := nt_of_f c_11
      refine T_spec_l05Of_i ⟨a_Place, a_Scale, a_Size, ((o_5.rdN (Nat.le_of_ble_eq_true rfl)).trans rfl), o17, o17, o17, o17, o17, fun a_12 n_13 e_14 H_2 g_17 r_15 => ?_⟩
      have z_16 := spec_l05Of_full count a_Place a_Scale a_Size o29
      have l_18 := g_17.1
      have g_19 := g_8.trans g_17
      have l_20 := g_19.1
      have o_21 := o_5.grow g_17
      have w_22 := o_21.lt
      obtain rfl := r_15.isL.eqn
      have u_23 := r_15.up
      have u_24 := r_15.lo
      refine T_spec_l02Finite_i ⟨_, r_15.isL, o0, ?_⟩
      refine Br.intro (fun c_26 => ?_) (fun c_26 => ?_)
      · have e := e.trans (cond_t c_26)
        have c_26n := nf_of_t c_26
        rw [e] at hk
        exact hk _ _ _ H_2 g_19 o14
      · have e := e.trans (cond_f c_26)
        have c_26n := nt_of_f c_26
        rw [e] at hk
        exact hk _ _ _ H_2 g_19 (r_15.weak o4)
theorem spec_AtomList_ok : FnOk Try.prog 11 S_spec_AtomList := by
  refine FnOk.body mix_ok E_spec_AtomList_ok Try.func11 rfl (by kernel_rfl) (by kernel_rfl) ?_ ?_ ?_ ?_ ?_
  · intro args H K K' h hk
    simp only [S_spec_AtomList] at *
    unfold F_spec_AtomList at *
    split at hk
    · have k := hk
      exact fun r1_a r1_n r1_e H' gg ow0 => h _ _ (k r1_a r1_n r1_e H' gg ow0)
    · exact hk.elim
  · intro hq; cases hq
  · intro args H K hk
    simp only [S_spec_AtomList] at *
    unfold F_spec_AtomList at *
    split at hk
    · have k := hk
      exact liveS fun a n e H1 g o => ⟨_, _, k a n e H1 g o⟩
    · exact hk.elim
  · intro _ args H K hk
    simp only [S_spec_AtomList] at *
    unfold F_spec_AtomList at *
    split at hk
    · have k := hk
      exact fun r1_a r1_n r1_e H' gg ow0 => ⟨gg, k r1_a r1_n r1_e H' gg ow0⟩
    · exact hk.elim
  · have mm := @spec_AtomList_main
    revert mm
    generalize bodyK Try.prog E_spec_AtomList Try.f11 = Q
    intro mm args H K hk
    simp only [S_spec_AtomList] at *
    unfold F_spec_AtomList at *
    split at hk
    · exact mm _ _ _ _ H K hk
    · exact hk.elim

def p_spec_FromAtoms_l2 (count : Int) (l_atoms : List (Int × Nat × Nat)) (t5 : Bool) (t23 : Int) (y1_1 : List Nat) (k2_2 : Int → (List Nat) → ((List Nat) × Bool)) : Nat → Int → (List Nat) → (List Nat) × Bool
  | 0, _, _ => ([], false)
  | μ2 + 1, t39, y2_1 => (bif decide ((t39 : Int) < ((count).toNat : Int)) then (p_spec_FromAtoms_l2 count l_atoms t5 t23 y1_1 k2_2 μ2 (t39 + 1) (((y2_1).set (t39 : Int).toNat ((fadd .f32 (((y2_1).getD (t39 : Int).toNat 0)) ((((p_spec_AtomList count ((((l_atoms).getD (t23 : Int).toNat (0, 0, 0))).1) ((((l_atoms).getD (t23 : Int).toNat (0, 0, 0))).2.1) ((((l_atoms).getD (t23 : Int).toNat (0, 0, 0))).2.2)).1).getD (t39 : Int).toNat 0))))))) else (k2_2 t39 y2_1))
def p_spec_FromAtoms_l2_s := fun count l_atoms t5 t23 y1_1 k2_2 μ2 t39 y2_1 => @p_spec_FromAtoms_l2.eq_2 count l_atoms t5 t23 y1_1 k2_2 t39 y2_1 μ2
def p_spec_FromAtoms_l1 (count : Int) (l_atoms : List (Int × Nat × Nat)) : Nat → Bool → Int → (List Nat) → (List Nat) × Bool
  | 0, _, _, _ => ([], false)
  | μ + 1, t5, t23, y1_1 => (bif decide ((t23 : Int) < (l_atoms.length : Int)) then (bif !((p_spec_AtomList count ((((l_atoms).getD (t23 : Int).toNat (0, 0, 0))).1) ((((l_atoms).getD (t23 : Int).toNat (0, 0, 0))).2.1) ((((l_atoms).getD (t23 : Int).toNat (0, 0, 0))).2.2)).2) then ([], false) else (p_spec_FromAtoms_l2 count l_atoms t5 t23 y1_1 (fun (t39 : Int) (y2_1 : List Nat) => (p_spec_FromAtoms_l1 count l_atoms μ t5 (t23 + 1) y2_1)) (Int.toNat (((count).toNat : Int) - (0 : Int)) + 1) (0 : Int) y1_1)) else (bif !(p_spec_l02Finite y1_1) then ([], false) else (y1_1, true)))
def p_spec_FromAtoms_l1_s := fun count l_atoms μ t5 t23 y1_1 => @p_spec_FromAtoms_l1.eq_2 count l_atoms t5 t23 y1_1 μ
def p_spec_FromAtoms (count : Int) (l_atoms : List (Int × Nat × Nat)) : (List Nat) × Bool := (bif !((p_spec_l00In count (1 : Int) (128 : Int))) then ([], false) else (bif decide ((16 : Int) < (l_atoms.length : Int)) then ([], false) else (p_spec_FromAtoms_l1 count l_atoms (Int.toNat ((l_atoms.length : Int) - (0 : Int)) + 1) false (0 : Int) (List.replicate ((count).toNat) 0))))
def p_spec_FromAtoms_eq := @p_spec_FromAtoms.eq_1
def T_spec_FromAtoms (count : Int) (atoms_a : Option Addr) (atoms_n : Nat) (atoms_e : Nat) (H : AHeap) (K : (Option Addr) → Nat → Nat → Bool → AHeap → Prop) : Prop := ∃ (l_atoms : List (Int × Nat × Nat)), IsT fA H atoms_a atoms_n l_atoms ∧ l_atoms.length < 1073741824 ∧ ((∀ (r1_a : Option Addr) (r1_n r1_e : Nat), ∀ H' : AHeap, Grow H H' → OwnS fF H' H.length r1_a r1_n r1_e ((p_spec_FromAtoms count l_atoms).1) → K r1_a r1_n r1_e ((p_spec_FromAtoms count l_atoms).2) H'))
theorem T_spec_FromAtoms_i {count : Int} {atoms_a : Option Addr} {atoms_n : Nat} {atoms_e : Nat} {H : AHeap} {K : (Option Addr) → Nat → Nat → Bool → AHeap → Prop} (h : ∃ (l_atoms : List (Int × Nat × Nat)), IsT fA H atoms_a atoms_n l_atoms ∧ l_atoms.length < 1073741824 ∧ ((∀ (r1_a : Option Addr) (r1_n r1_e : Nat), ∀ H' : AHeap, Grow H H' → OwnS fF H' H.length r1_a r1_n r1_e ((p_spec_FromAtoms count l_atoms).1) → K r1_a r1_n r1_e ((p_spec_FromAtoms count l_atoms).2) H'))) : T_spec_FromAtoms count atoms_a atoms_n atoms_e H K := h
theorem spec_FromAtoms_l2_len (c : Int) (l : List (Int × Nat × Nat)) (N : Nat) (t : Bool) (i : Int) (y : List Nat) (K : Int → List Nat → (List Nat × Bool)) (hK : ∀ j z, z.length ≤ N → (K j z).1.length ≤ N) : ∀ (μ : Nat) (j : Int) (z : List Nat), z.length ≤ N → (p_spec_FromAtoms_l2 c l t i y K μ j z).1.length ≤ N := by
  intro μ
  induction μ with
  | zero => intro j z h; exact Nat.zero_le _
  | succ μ ih =>
    intro j z h
    rw [p_spec_FromAtoms_l2_s]
    exact cnb (P := fun r : List Nat × Bool => r.1.length ≤ N) (fun _ => ih _ _ (by rw [List.length_set]; exact h)) (fun _ => hK _ _ h)
theorem spec_FromAtoms_l1_len (c : Int) (l : List (Int × Nat × Nat)) (N : Nat) : ∀ (μ : Nat) (t : Bool) (i : Int) (y : List Nat), y.length ≤ N → (p_spec_FromAtoms_l1 c l μ t i y).1.length ≤ N := by
  intro μ
  induction μ with
  | zero => intro t i y h; exact Nat.zero_le _
  | succ μ ih =>
    intro t i y h
    rw [p_spec_FromAtoms_l1_s]
    refine cnb (P := fun r : List Nat × Bool => r.1.length ≤ N) (fun _ => ?_) (fun _ => ?_)
    · refine cnb (P := fun r : List Nat × Bool => r.1.length ≤ N) (fun _ => Nat.zero_le _) (fun _ => ?_)
      exact spec_FromAtoms_l2_len c l N _ _ _ _ (fun j z hz => ih _ _ _ hz) _ _ _ h
    · exact cnb (P := fun r : List Nat × Bool => r.1.length ≤ N) (fun _ => Nat.zero_le _) (fun _ => h)
theorem spec_FromAtoms_len (c : Int) (l : List (Int × Nat × Nat)) : (p_spec_FromAtoms c l).1.length ≤ 1000 := by
  rw [p_spec_FromAtoms_eq]
  refine cnb (P := fun r : List Nat × Bool => r.1.length ≤ 1000) (fun _ => Nat.zero_le _) (fun hc => ?_)
  have hc := l00In_t (nt_of_f hc)
  refine cnb (P := fun r : List Nat × Bool => r.1.length ≤ 1000) (fun _ => Nat.zero_le _) (fun _ => ?_)
  exact spec_FromAtoms_l1_len c l 1000 _ _ _ _ (by rw [List.length_replicate]; omega)
/-! spec_FromAtoms: function 39 -/
def E_spec_FromAtoms : Env := envOf [(50, S_spec_l00In), (11, S_spec_AtomList), (53, S_spec_l02Finite)]
def F_spec_FromAtoms : List Value → AHeap → (Value → AHeap → Prop) → Prop
  | [.int .i64 count, .slice atoms_a atoms_n atoms_e], H, K => T_spec_FromAtoms count atoms_a atoms_n atoms_e H fun (r1_a : Option Addr) (r1_n : Nat) (r1_e : Nat) (r2 : Bool) (H' : AHeap) => K (.tuple #[.slice r1_a r1_n r1_e, .bool r2]) H'
  | _, _, _ => False
def S_spec_FromAtoms : FSpec := { F := F_spec_FromAtoms, quiet := false, tame := true }
theorem spec_FromAtoms_vc (count : Int) (atoms_a : Option Addr) (atoms_n : Nat) (atoms_e : Nat) (H : AHeap) (K : Value → AHeap → Prop) : bodyK Try.prog E_spec_FromAtoms Try.f39 [.int .i64 count, .slice atoms_a atoms_n atoms_e] H K =
  (T_spec_l00In count 1 128 H fun (r1 : Bool) (H1 : AHeap) => Br (!r1) (K (.tuple #[.slice none 0 0, .bool false]) H1) (Br (decide ((16 : Int) < (atoms_n : Int))) (K (.tuple #[.slice none 0 0, .bool false]) H1) ((0 : Int) ≤ count ∧ count = count ∧ count < (most : Int) ∧ Al (zerosOf (.float .f32 0) (count).toNat) H1 fun b1 H2 => loopK (exK Try.prog E_spec_FromAtoms (cl (cl (cr (cl (cr (cr (cr (bodyC Try.f39))))))))) [.int .i64 count, .slice atoms_a atoms_n atoms_e, undef, undef, .slice none 0 0, .bool false, .slice (some ⟨b1, 0, none⟩) ((count).toNat) 1, undef, undef, undef, undef, .int .i64 count, .bool r1, .bool (!r1), .bool false, .slice atoms_a atoms_n atoms_e, .int .i64 (atoms_n : Int), .bool (decide ((16 : Int) < (atoms_n : Int))), .bool (decide ((16 : Int) < (atoms_n : Int))), .int .i64 count, .slice (some ⟨b1, 0, none⟩) ((count).toNat) 1, .slice atoms_a atoms_n atoms_e, .int .i64 (atoms_n : Int), .int .i64 0, undef, undef, undef, undef, undef, undef, undef, undef, undef, undef, undef, undef, undef, undef, undef, undef, undef, undef, undef, undef, undef, undef, undef, undef, undef, undef, undef, undef, undef, undef, undef, undef, undef, undef, undef, undef] H2 (blockQ 0 (seqQ (exK Try.prog E_spec_FromAtoms (cr (cr (cr (cr (bodyC Try.f39)))))) (retK Try.prog Try.f39 K)))))) := by kernel_rfl
abbrev spec_FromAtoms_P1 (atoms_a : Option Addr) (atoms_e : Nat) (atoms_n : Nat) (b1 : Nat) (count : Int) (r1 : Bool) (t4_a : Option Addr) (t4_n : Nat) (t4_e : Nat) (t5 : Bool) (t23 : Int) (g7 g8 g9 g10 g24 g25 g26 g27 g28 g29 g30 g31 g32 g33 g34 g35 g36 g37 g38 g39 g40 g41 g42 g43 g44 g45 g46 g47 g48 g49 g50 g51 g52 g53 g54 g55 : Value) : List Value := [.int .i64 count, .slice atoms_a atoms_n atoms_e, undef, undef, .slice t4_a t4_n t4_e, .bool t5, .slice (some ⟨b1, 0, none⟩) ((count).toNat) 1, g7, g8, g9, g10, .int .i64 count, .bool r1, .bool (!r1), .bool false, .slice atoms_a atoms_n atoms_e, .int .i64 (atoms_n : Int), .bool (decide ((16 : Int) < (atoms_n : Int))), .bool (decide ((16 : Int) < (atoms_n : Int))), .int .i64 count, .slice (some ⟨b1, 0, none⟩) ((count).toNat) 1, .slice atoms_a atoms_n atoms_e, .int .i64 (atoms_n : Int), .int .i64 t23, g24, g25, g26, g27, g28, g29, g30, g31, g32, g33, g34, g35, g36, g37, g38, g39, g40, g41, g42, g43, g44, g45, g46, g47, g48, g49, g50, g51, g52, g53, g54, g55, undef, undef, undef, undef]
theorem spec_FromAtoms_r1 (atoms_a : Option Addr) (atoms_e : Nat) (atoms_n : Nat) (b1 : Nat) (count : Int) (r1 : Bool) (t4_a : Option Addr) (t4_n : Nat) (t4_e : Nat) (t5 : Bool) (t23 : Int) (g7 g8 g9 g10 g24 g25 g26 g27 g28 g29 g30 g31 g32 g33 g34 g35 g36 g37 g38 g39 g40 g41 g42 g43 g44 g45 g46 g47 g48 g49 g50 g51 g52 g53 g54 g55 : Value) (H : AHeap) (R : Post) : exK Try.prog E_spec_FromAtoms (cl (cl (cr (cl (cr (cr (cr (bodyC Try.f39)))))))) (spec_FromAtoms_P1 atoms_a atoms_e atoms_n b1 count r1 t4_a t4_n t4_e t5 t23 g7 g8 g9 g10 g24 g25 g26 g27 g28 g29 g30 g31 g32 g33 g34 g35 g36 g37 g38 g39 g40 g41 g42 g43 g44 g45 g46 g47 g48 g49 g50 g51 g52 g53 g54 g55) H R =
  (Br (decide ((t23 : Int) < (atoms_n : Int))) ((0 : Int) ≤ t23 ∧ t23 < (atoms_n : Int) ∧ ∃ b2 f1, (atoms_a : Option Addr) = some ⟨b2, f1, none⟩ ∧ ∃ c1 : Int, ∃ c2 : Nat, ∃ c3 : Nat,  rdN H b2 (f1 + (t23 : Int).toNat * 3) 3 = some [.int .i64 c1, .float .f32 c2, .float .f32 c3] ∧ T_spec_AtomList count c1 c2 c3 H fun (a1 : Option Addr) (r2 : Nat) (r3 : Nat) (r4 : Bool) (H3 : AHeap) => Br (!r4) (R .ret [.int .i64 count, .slice atoms_a atoms_n atoms_e, undef, undef, .slice none 0 0, .bool false, .slice (some ⟨b1, 0, none⟩) ((count).toNat) 1, .int .i64 t23, .slice a1 r2 r3, .bool r4, g10, .int .i64 count, .bool r1, .bool (!r1), .bool false, .slice atoms_a atoms_n atoms_e, .int .i64 (atoms_n : Int), .bool (decide ((16 : Int) < (atoms_n : Int))), .bool (decide ((16 : Int) < (atoms_n : Int))), .int .i64 count, .slice (some ⟨b1, 0, none⟩) ((count).toNat) 1, .slice atoms_a atoms_n atoms_e, .int .i64 (atoms_n : Int), .int .i64 t23, .bool (decide ((t23 : Int) < (atoms_n : Int))), .int .i64 t23, .tuple #[.slice a1 r2 r3, .bool r4], .int .i64 count, .slice atoms_a atoms_n atoms_e, .int .i64 t23, .pointer (some ⟨b2, f1 + (t23 : Int).toNat * 3, none⟩), .agg #[.int .i64 c1, .float .f32 c2, .float .f32 c3], .tuple #[.slice a1 r2 r3, .bool r4], .slice a1 r2 r3, .bool r4, .bool r4, .bool (!r4), g37, g38, g39, g40, g41, g42, g43, g44, g45, g46, g47, g48, g49, g50, g51, g52, g53, g54, g55, undef, undef, undef, undef] H3) (loopK (exK Try.prog E_spec_FromAtoms (cl (cl (cr (cr (cr (cr (cl (cl (cr (cr (cl (cl (cr (cl (cr (cr (cr (bodyC Try.f39))))))))))))))))))) [.int .i64 count, .slice atoms_a atoms_n atoms_e, undef, undef, .slice t4_a t4_n t4_e, .bool t5, .slice (some ⟨b1, 0, none⟩) ((count).toNat) 1, .int .i64 t23, .slice a1 r2 r3, .bool r4, g10, .int .i64 count, .bool r1, .bool (!r1), .bool false, .slice atoms_a atoms_n atoms_e, .int .i64 (atoms_n : Int), .bool (decide ((16 : Int) < (atoms_n : Int))), .bool (decide ((16 : Int) < (atoms_n : Int))), .int .i64 count, .slice (some ⟨b1, 0, none⟩) ((count).toNat) 1, .slice atoms_a atoms_n atoms_e, .int .i64 (atoms_n : Int), .int .i64 t23, .bool (decide ((t23 : Int) < (atoms_n : Int))), .int .i64 t23, .tuple #[.slice a1 r2 r3, .bool r4], .int .i64 count, .slice atoms_a atoms_n atoms_e, .int .i64 t23, .pointer (some ⟨b2, f1 + (t23 : Int).toNat * 3, none⟩), .agg #[.int .i64 c1, .float .f32 c2, .float .f32 c3], .tuple #[.slice a1 r2 r3, .bool r4], .slice a1 r2 r3, .bool r4, .bool r4, .bool (!r4), .slice (some ⟨b1, 0, none⟩) ((count).toNat) 1, .int .i64 (((count).toNat : Int)), .int .i64 0, g40, g41, g42, g43, g44, g45, g46, g47, g48, g49, g50, g51, g52, g53, g54, g55, undef, undef, undef, undef] H3 (blockQ 2 (blockQ 1 (seqQ (exK Try.prog E_spec_FromAtoms (cr (cr (cr (cl (cl (cr (cl (cr (cr (cr (bodyC Try.f39)))))))))))) (R)))))) (R (.exit 0) [.int .i64 count, .slice atoms_a atoms_n atoms_e, undef, undef, .slice t4_a t4_n t4_e, .bool t5, .slice (some ⟨b1, 0, none⟩) ((count).toNat) 1, g7, g8, g9, g10, .int .i64 count, .bool r1, .bool (!r1), .bool false, .slice atoms_a atoms_n atoms_e, .int .i64 (atoms_n : Int), .bool (decide ((16 : Int) < (atoms_n : Int))), .bool (decide ((16 : Int) < (atoms_n : Int))), .int .i64 count, .slice (some ⟨b1, 0, none⟩) ((count).toNat) 1, .slice atoms_a atoms_n atoms_e, .int .i64 (atoms_n : Int), .int .i64 t23, .bool (decide ((t23 : Int) < (atoms_n : Int))), g25, g26, g27, g28, g29, g30, g31, g32, g33, g34, g35, g36, g37, g38, g39, g40, g41, g42, g43, g44, g45, g46, g47, g48, g49, g50, g51, g52, g53, g54, g55, undef, undef, undef, undef] H)) := by kernel_rfl
def spec_FromAtoms_I1 (atoms_a : Option Addr) (atoms_e : Nat) (atoms_n : Nat) (b1 : Nat) (count : Int) (r1 : Bool) (Inv : Nat → (Option Addr) → Nat → Nat → Bool → Int → AHeap → Prop) : Nat → List Value → AHeap → Prop := fun μ tm H => ∃ (t4_a : Option Addr), ∃ (t4_n : Nat), ∃ (t4_e : Nat), ∃ (t5 : Bool), ∃ (t23 : Int), ∃ g7 g8 g9 g10 g24 g25 g26 g27 g28 g29 g30 g31 g32 g33 g34 g35 g36 g37 g38 g39 g40 g41 g42 g43 g44 g45 g46 g47 g48 g49 g50 g51 g52 g53 g54 g55, tm = (spec_FromAtoms_P1 atoms_a atoms_e atoms_n b1 count r1 t4_a t4_n t4_e t5 t23 g7 g8 g9 g10 g24 g25 g26 g27 g28 g29 g30 g31 g32 g33 g34 g35 g36 g37 g38 g39 g40 g41 g42 g43 g44 g45 g46 g47 g48 g49 g50 g51 g52 g53 g54 g55) ∧ Inv μ t4_a t4_n t4_e t5 t23 H
theorem spec_FromAtoms_L1 (atoms_a : Option Addr) (atoms_e : Nat) (atoms_n : Nat) (b1 : Nat) (count : Int) (r1 : Bool) {Q : Post} (Inv : Nat → (Option Addr) → Nat → Nat → Bool → Int → AHeap → Prop) (ν : Nat) (t4_a : Option Addr) (t4_n : Nat) (t4_e : Nat) (t5 : Bool) (t23 : Int) (g7 g8 g9 g10 g24 g25 g26 g27 g28 g29 g30 g31 g32 g33 g34 g35 g36 g37 g38 g39 g40 g41 g42 g43 g44 g45 g46 g47 g48 g49 g50 g51 g52 g53 g54 g55 : Value) (H : AHeap) (h0 : Inv ν t4_a t4_n t4_e t5 t23 H)
    (hs : ∀ (μ : Nat) (t4_a : Option Addr) (t4_n : Nat) (t4_e : Nat) (t5 : Bool) (t23 : Int) (g7 g8 g9 g10 g24 g25 g26 g27 g28 g29 g30 g31 g32 g33 g34 g35 g36 g37 g38 g39 g40 g41 g42 g43 g44 g45 g46 g47 g48 g49 g50 g51 g52 g53 g54 g55 : Value) (H : AHeap), Inv μ t4_a t4_n t4_e t5 t23 H → exK Try.prog E_spec_FromAtoms (cl (cl (cr (cl (cr (cr (cr (bodyC Try.f39)))))))) (spec_FromAtoms_P1 atoms_a atoms_e atoms_n b1 count r1 t4_a t4_n t4_e t5 t23 g7 g8 g9 g10 g24 g25 g26 g27 g28 g29 g30 g31 g32 g33 g34 g35 g36 g37 g38 g39 g40 g41 g42 g43 g44 g45 g46 g47 g48 g49 g50 g51 g52 g53 g54 g55) H (loopQ (spec_FromAtoms_I1 atoms_a atoms_e atoms_n b1 count r1 Inv) μ Q)) : loopK (exK Try.prog E_spec_FromAtoms (cl (cl (cr (cl (cr (cr (cr (bodyC Try.f39))))))))) (spec_FromAtoms_P1 atoms_a atoms_e atoms_n b1 count r1 t4_a t4_n t4_e t5 t23 g7 g8 g9 g10 g24 g25 g26 g27 g28 g29 g30 g31 g32 g33 g34 g35 g36 g37 g38 g39 g40 g41 g42 g43 g44 g45 g46 g47 g48 g49 g50 g51 g52 g53 g54 g55) H Q :=
  ⟨spec_FromAtoms_I1 atoms_a atoms_e atoms_n b1 count r1 Inv, ν, ⟨t4_a, t4_n, t4_e, t5, t23, g7, g8, g9, g10, g24, g25, g26, g27, g28, g29, g30, g31, g32, g33, g34, g35, g36, g37, g38, g39, g40, g41, g42, g43, g44, g45, g46, g47, g48, g49, g50, g51, g52, g53, g54, g55, rfl, h0⟩, fun μ tm H h => by obtain ⟨t4_a, t4_n, t4_e, t5, t23, g7, g8, g9, g10, g24, g25, g26, g27, g28, g29, g30, g31, g32, g33, g34, g35, g36, g37, g38, g39, g40, g41, g42, g43, g44, g45, g46, g47, g48, g49, g50, g51, g52, g53, g54, g55, rfl, hI⟩ := h; exact hs μ t4_a t4_n t4_e t5 t23 g7 g8 g9 g10 g24 g25 g26 g27 g28 g29 g30 g31 g32 g33 g34 g35 g36 g37 g38 g39 g40 g41 g42 g43 g44 g45 g46 g47 g48 g49 g50 g51 g52 g53 g54 g55 H hI⟩
theorem spec_FromAtoms_n1 {atoms_a : Option Addr} {atoms_e : Nat} {atoms_n : Nat} {b1 : Nat} {count : Int} {r1 : Bool} {Q : Post} {Inv : Nat → (Option Addr) → Nat → Nat → Bool → Int → AHeap → Prop} {μ : Nat} (μ' : Nat) {t4_a : Option Addr} {t4_n : Nat} {t4_e : Nat} {t5 : Bool} {t23 : Int} {g7 g8 g9 g10 g24 g25 g26 g27 g28 g29 g30 g31 g32 g33 g34 g35 g36 g37 g38 g39 g40 g41 g42 g43 g44 g45 g46 g47 g48 g49 g50 g51 g52 g53 g54 g55 : Value} {H : AHeap} (hm : μ' < μ) (hI : Inv μ' t4_a t4_n t4_e t5 t23 H) : loopQ (spec_FromAtoms_I1 atoms_a atoms_e atoms_n b1 count r1 Inv) μ Q .normal (spec_FromAtoms_P1 atoms_a atoms_e atoms_n b1 count r1 t4_a t4_n t4_e t5 t23 g7 g8 g9 g10 g24 g25 g26 g27 g28 g29 g30 g31 g32 g33 g34 g35 g36 g37 g38 g39 g40 g41 g42 g43 g44 g45 g46 g47 g48 g49 g50 g51 g52 g53 g54 g55) H := ⟨μ', hm, t4_a, t4_n, t4_e, t5, t23, g7, g8, g9, g10, g24, g25, g26, g27, g28, g29, g30, g31, g32, g33, g34, g35, g36, g37, g38, g39, g40, g41, g42, g43, g44, g45, g46, g47, g48, g49, g50, g51, g52, g53, g54, g55, rfl, hI⟩
theorem spec_FromAtoms_x1_0 (atoms_a : Option Addr) (atoms_e : Nat) (atoms_n : Nat) (b1 : Nat) (count : Int) (r1 : Bool) (t4_a : Option Addr) (t4_n : Nat) (t4_e : Nat) (t5 : Bool) (t23 : Int) (g7 g8 g9 g10 g24 g25 g26 g27 g28 g29 g30 g31 g32 g33 g34 g35 g36 g37 g38 g39 g40 g41 g42 g43 g44 g45 g46 g47 g48 g49 g50 g51 g52 g53 g54 g55 : Value) (H : AHeap) (K : Value → AHeap → Prop)  {I : Nat → List Value → AHeap → Prop} {μ : Nat} : loopQ I μ (blockQ 0 (seqQ (exK Try.prog E_spec_FromAtoms (cr (cr (cr (cr (bodyC Try.f39)))))) (retK Try.prog Try.f39 K))) (.exit 0) (spec_FromAtoms_P1 atoms_a atoms_e atoms_n b1 count r1 t4_a t4_n t4_e t5 t23 g7 g8 g9 g10 g24 g25 g26 g27 g28 g29 g30 g31 g32 g33 g34 g35 g36 g37 g38 g39 g40 g41 g42 g43 g44 g45 g46 g47 g48 g49 g50 g51 g52 g53 g54 g55) H =
  (T_spec_l02Finite (some ⟨b1, 0, none⟩) ((count).toNat) 1 H fun (r5 : Bool) (H5 : AHeap) => Br (!r5) (K (.tuple #[.slice none 0 0, .bool false]) H5) (K (.tuple #[.slice (some ⟨b1, 0, none⟩) ((count).toNat) 1, .bool true]) H5)) := by kernel_rfl
theorem spec_FromAtoms_x1_ret (atoms_a : Option Addr) (atoms_e : Nat) (atoms_n : Nat) (b1 : Nat) (count : Int) (r1 : Bool) (t4_a : Option Addr) (t4_n : Nat) (t4_e : Nat) (t5 : Bool) (t23 : Int) (g7 g8 g9 g10 g24 g25 g26 g27 g28 g29 g30 g31 g32 g33 g34 g35 g36 g37 g38 g39 g40 g41 g42 g43 g44 g45 g46 g47 g48 g49 g50 g51 g52 g53 g54 g55 : Value) (H : AHeap) (K : Value → AHeap → Prop)  {I : Nat → List Value → AHeap → Prop} {μ : Nat} : loopQ I μ (blockQ 0 (seqQ (exK Try.prog E_spec_FromAtoms (cr (cr (cr (cr (bodyC Try.f39)))))) (retK Try.prog Try.f39 K))) .ret (spec_FromAtoms_P1 atoms_a atoms_e atoms_n b1 count r1 t4_a t4_n t4_e t5 t23 g7 g8 g9 g10 g24 g25 g26 g27 g28 g29 g30 g31 g32 g33 g34 g35 g36 g37 g38 g39 g40 g41 g42 g43 g44 g45 g46 g47 g48 g49 g50 g51 g52 g53 g54 g55) H =
  (K (.tuple #[.slice t4_a t4_n t4_e, .bool t5]) H) := by kernel_rfl
abbrev spec_FromAtoms_P2 (a1 : Option Addr) (atoms_a : Option Addr) (atoms_e : Nat) (atoms_n : Nat) (b1 : Nat) (b2 : Nat) (c1 : Int) (c2 : Nat) (c3 : Nat) (count : Int) (f1 : Nat) (g55 : Value) (r1 : Bool) (r2 : Nat) (r3 : Nat) (r4 : Bool) (t23 : Int) (t4_a : Option Addr) (t4_e : Nat) (t4_n : Nat) (t5 : Bool) (t39 : Int) (g10 g40 g41 g42 g43 g44 g45 g46 g47 g48 g49 g50 g51 g52 g53 g54 : Value) : List Value := [.int .i64 count, .slice atoms_a atoms_n atoms_e, undef, undef, .slice t4_a t4_n t4_e, .bool t5, .slice (some ⟨b1, 0, none⟩) ((count).toNat) 1, .int .i64 t23, .slice a1 r2 r3, .bool r4, g10, .int .i64 count, .bool r1, .bool (!r1), .bool false, .slice atoms_a atoms_n atoms_e, .int .i64 (atoms_n : Int), .bool (decide ((16 : Int) < (atoms_n : Int))), .bool (decide ((16 : Int) < (atoms_n : Int))), .int .i64 count, .slice (some ⟨b1, 0, none⟩) ((count).toNat) 1, .slice atoms_a atoms_n atoms_e, .int .i64 (atoms_n : Int), .int .i64 t23, .bool (decide ((t23 : Int) < (atoms_n : Int))), .int .i64 t23, .tuple #[.slice a1 r2 r3, .bool r4], .int .i64 count, .slice atoms_a atoms_n atoms_e, .int .i64 t23, .pointer (some ⟨b2, f1 + (t23 : Int).toNat * 3, none⟩), .agg #[.int .i64 c1, .float .f32 c2, .float .f32 c3], .tuple #[.slice a1 r2 r3, .bool r4], .slice a1 r2 r3, .bool r4, .bool r4, .bool (!r4), .slice (some ⟨b1, 0, none⟩) ((count).toNat) 1, .int .i64 (((count).toNat : Int)), .int .i64 t39, g40, g41, g42, g43, g44, g45, g46, g47, g48, g49, g50, g51, g52, g53, g54, g55, undef, undef, undef, undef]
theorem spec_FromAtoms_r2 (a1 : Option Addr) (atoms_a : Option Addr) (atoms_e : Nat) (atoms_n : Nat) (b1 : Nat) (b2 : Nat) (c1 : Int) (c2 : Nat) (c3 : Nat) (count : Int) (f1 : Nat) (g55 : Value) (r1 : Bool) (r2 : Nat) (r3 : Nat) (r4 : Bool) (t23 : Int) (t4_a : Option Addr) (t4_e : Nat) (t4_n : Nat) (t5 : Bool) (t39 : Int) (g10 g40 g41 g42 g43 g44 g45 g46 g47 g48 g49 g50 g51 g52 g53 g54 : Value) (H : AHeap) (R : Post) : exK Try.prog E_spec_FromAtoms (cl (cl (cr (cr (cr (cr (cl (cl (cr (cr (cl (cl (cr (cl (cr (cr (cr (bodyC Try.f39)))))))))))))))))) (spec_FromAtoms_P2 a1 atoms_a atoms_e atoms_n b1 b2 c1 c2 c3 count f1 g55 r1 r2 r3 r4 t23 t4_a t4_e t4_n t5 t39 g10 g40 g41 g42 g43 g44 g45 g46 g47 g48 g49 g50 g51 g52 g53 g54) H R =
  (Br (decide ((t39 : Int) < ((count).toNat : Int))) ((0 : Int) ≤ t39 ∧ t39 < ((count).toNat : Int) ∧ ∃ b3 f2, (some ⟨b1, 0, none⟩ : Option Addr) = some ⟨b3, f2, none⟩ ∧ ∃ x1 : Nat,  rdC H b3 (f2 + (t39 : Int).toNat * 1) = some (.float .f32 x1) ∧ (0 : Int) ≤ t39 ∧ t39 < (r2 : Int) ∧ ∃ b4 f3, (a1 : Option Addr) = some ⟨b4, f3, none⟩ ∧ ∃ x2 : Nat,  rdC H b4 (f3 + (t39 : Int).toNat * 1) = some (.float .f32 x2) ∧ (0 : Int) ≤ t39 ∧ t39 < ((count).toNat : Int) ∧ ∃ b5 f4, (some ⟨b1, 0, none⟩ : Option Addr) = some ⟨b5, f4, none⟩ ∧ isOwn H b5 ∧ (∃ l, rdN H b5 (f4 + (t39 : Int).toNat * 1) 1 = some l) ∧ Lt (setC H b5 (f4 + (t39 : Int).toNat * 1) (.float .f32 (fadd .f32 x1 x2))) fun H4 => R .normal [.int .i64 count, .slice atoms_a atoms_n atoms_e, undef, undef, .slice t4_a t4_n t4_e, .bool t5, .slice (some ⟨b1, 0, none⟩) ((count).toNat) 1, .int .i64 t23, .slice a1 r2 r3, .bool r4, .int .i64 t39, .int .i64 count, .bool r1, .bool (!r1), .bool false, .slice atoms_a atoms_n atoms_e, .int .i64 (atoms_n : Int), .bool (decide ((16 : Int) < (atoms_n : Int))), .bool (decide ((16 : Int) < (atoms_n : Int))), .int .i64 count, .slice (some ⟨b1, 0, none⟩) ((count).toNat) 1, .slice atoms_a atoms_n atoms_e, .int .i64 (atoms_n : Int), .int .i64 t23, .bool (decide ((t23 : Int) < (atoms_n : Int))), .int .i64 t23, .tuple #[.slice a1 r2 r3, .bool r4], .int .i64 count, .slice atoms_a atoms_n atoms_e, .int .i64 t23, .pointer (some ⟨b2, f1 + (t23 : Int).toNat * 3, none⟩), .agg #[.int .i64 c1, .float .f32 c2, .float .f32 c3], .tuple #[.slice a1 r2 r3, .bool r4], .slice a1 r2 r3, .bool r4, .bool r4, .bool (!r4), .slice (some ⟨b1, 0, none⟩) ((count).toNat) 1, .int .i64 (((count).toNat : Int)), .int .i64 (IntKind.wrap .i64 (t39 + 1)), .bool (decide ((t39 : Int) < ((count).toNat : Int))), .int .i64 t39, .slice (some ⟨b1, 0, none⟩) ((count).toNat) 1, .int .i64 t39, .slice (some ⟨b1, 0, none⟩) ((count).toNat) 1, .int .i64 t39, .pointer (some ⟨b3, f2 + (t39 : Int).toNat * 1, none⟩), .float .f32 x1, .slice a1 r2 r3, .int .i64 t39, .pointer (some ⟨b4, f3 + (t39 : Int).toNat * 1, none⟩), .float .f32 x2, .float .f32 (fadd .f32 x1 x2), .pointer (some ⟨b5, f4 + (t39 : Int).toNat * 1, none⟩), .int .i64 (IntKind.wrap .i64 (t39 + 1)), g55, undef, undef, undef, undef] H4) (R (.exit 2) [.int .i64 count, .slice atoms_a atoms_n atoms_e, undef, undef, .slice t4_a t4_n t4_e, .bool t5, .slice (some ⟨b1, 0, none⟩) ((count).toNat) 1, .int .i64 t23, .slice a1 r2 r3, .bool r4, g10, .int .i64 count, .bool r1, .bool (!r1), .bool false, .slice atoms_a atoms_n atoms_e, .int .i64 (atoms_n : Int), .bool (decide ((16 : Int) < (atoms_n : Int))), .bool (decide ((16 : Int) < (atoms_n : Int))), .int .i64 count, .slice (some ⟨b1, 0, none⟩) ((count).toNat) 1, .slice atoms_a atoms_n atoms_e, .int .i64 (atoms_n : Int), .int .i64 t23, .bool (decide ((t23 : Int) < (atoms_n : Int))), .int .i64 t23, .tuple #[.slice a1 r2 r3, .bool r4], .int .i64 count, .slice atoms_a atoms_n atoms_e, .int .i64 t23, .pointer (some ⟨b2, f1 + (t23 : Int).toNat * 3, none⟩), .agg #[.int .i64 c1, .float .f32 c2, .float .f32 c3], .tuple #[.slice a1 r2 r3, .bool r4], .slice a1 r2 r3, .bool r4, .bool r4, .bool (!r4), .slice (some ⟨b1, 0, none⟩) ((count).toNat) 1, .int .i64 (((count).toNat : Int)), .int .i64 t39, .bool (decide ((t39 : Int) < ((count).toNat : Int))), g41, g42, g43, g44, g45, g46, g47, g48, g49, g50, g51, g52, g53, g54, g55, undef, undef, undef, undef] H)) := by kernel_rfl
def spec_FromAtoms_I2 (a1 : Option Addr) (atoms_a : Option Addr) (atoms_e : Nat) (atoms_n : Nat) (b1 : Nat) (b2 : Nat) (c1 : Int) (c2 : Nat) (c3 : Nat) (count : Int) (f1 : Nat) (g55 : Value) (r1 : Bool) (r2 : Nat) (r3 : Nat) (r4 : Bool) (t23 : Int) (t4_a : Option Addr) (t4_e : Nat) (t4_n : Nat) (t5 : Bool) (Inv : Nat → Int → AHeap → Prop) : Nat → List Value → AHeap → Prop := fun μ tm H => ∃ (t39 : Int), ∃ g10 g40 g41 g42 g43 g44 g45 g46 g47 g48 g49 g50 g51 g52 g53 g54, tm = (spec_FromAtoms_P2 a1 atoms_a atoms_e atoms_n b1 b2 c1 c2 c3 count f1 g55 r1 r2 r3 r4 t23 t4_a t4_e t4_n t5 t39 g10 g40 g41 g42 g43 g44 g45 g46 g47 g48 g49 g50 g51 g52 g53 g54) ∧ Inv μ t39 H
theorem spec_FromAtoms_L2 (a1 : Option Addr) (atoms_a : Option Addr) (atoms_e : Nat) (atoms_n : Nat) (b1 : Nat) (b2 : Nat) (c1 : Int) (c2 : Nat) (c3 : Nat) (count : Int) (f1 : Nat) (g55 : Value) (r1 : Bool) (r2 : Nat) (r3 : Nat) (r4 : Bool) (t23 : Int) (t4_a : Option Addr) (t4_e : Nat) (t4_n : Nat) (t5 : Bool) {Q : Post} (Inv : Nat → Int → AHeap → Prop) (ν : Nat) (t39 : Int) (g10 g40 g41 g42 g43 g44 g45 g46 g47 g48 g49 g50 g51 g52 g53 g54 : Value) (H : AHeap) (h0 : Inv ν t39 H)
    (hs : ∀ (μ : Nat) (t39 : Int) (g10 g40 g41 g42 g43 g44 g45 g46 g47 g48 g49 g50 g51 g52 g53 g54 : Value) (H : AHeap), Inv μ t39 H → exK Try.prog E_spec_FromAtoms (cl (cl (cr (cr (cr (cr (cl (cl (cr (cr (cl (cl (cr (cl (cr (cr (cr (bodyC Try.f39)))))))))))))))))) (spec_FromAtoms_P2 a1 atoms_a atoms_e atoms_n b1 b2 c1 c2 c3 count f1 g55 r1 r2 r3 r4 t23 t4_a t4_e t4_n t5 t39 g10 g40 g41 g42 g43 g44 g45 g46 g47 g48 g49 g50 g51 g52 g53 g54) H (loopQ (spec_FromAtoms_I2 a1 atoms_a atoms_e atoms_n b1 b2 c1 c2 c3 count f1 g55 r1 r2 r3 r4 t23 t4_a t4_e t4_n t5 Inv) μ Q)) : loopK (exK Try.prog E_spec_FromAtoms (cl (cl (cr (cr (cr (cr (cl (cl (cr (cr (cl (cl (cr (cl (cr (cr (cr (bodyC Try.f39))))))))))))))))))) (spec_FromAtoms_P2 a1 atoms_a atoms_e atoms_n b1 b2 c1 c2 c3 count f1 g55 r1 r2 r3 r4 t23 t4_a t4_e t4_n t5 t39 g10 g40 g41 g42 g43 g44 g45 g46 g47 g48 g49 g50 g51 g52 g53 g54) H Q :=
  ⟨spec_FromAtoms_I2 a1 atoms_a atoms_e atoms_n b1 b2 c1 c2 c3 count f1 g55 r1 r2 r3 r4 t23 t4_a t4_e t4_n t5 Inv, ν, ⟨t39, g10, g40, g41, g42, g43, g44, g45, g46, g47, g48, g49, g50, g51, g52, g53, g54, rfl, h0⟩, fun μ tm H h => by obtain ⟨t39, g10, g40, g41, g42, g43, g44, g45, g46, g47, g48, g49, g50, g51, g52, g53, g54, rfl, hI⟩ := h; exact hs μ t39 g10 g40 g41 g42 g43 g44 g45 g46 g47 g48 g49 g50 g51 g52 g53 g54 H hI⟩
theorem spec_FromAtoms_n2 {a1 : Option Addr} {atoms_a : Option Addr} {atoms_e : Nat} {atoms_n : Nat} {b1 : Nat} {b2 : Nat} {c1 : Int} {c2 : Nat} {c3 : Nat} {count : Int} {f1 : Nat} {g55 : Value} {r1 : Bool} {r2 : Nat} {r3 : Nat} {r4 : Bool} {t23 : Int} {t4_a : Option Addr} {t4_e : Nat} {t4_n : Nat} {t5 : Bool} {Q : Post} {Inv : Nat → Int → AHeap → Prop} {μ : Nat} (μ' : Nat) {t39 : Int} {g10 g40 g41 g42 g43 g44 g45 g46 g47 g48 g49 g50 g51 g52 g53 g54 : Value} {H : AHeap} (hm : μ' < μ) (hI : Inv μ' t39 H) : loopQ (spec_FromAtoms_I2 a1 atoms_a atoms_e atoms_n b1 b2 c1 c2 c3 count f1 g55 r1 r2 r3 r4 t23 t4_a t4_e t4_n t5 Inv) μ Q .normal (spec_FromAtoms_P2 a1 atoms_a atoms_e atoms_n b1 b2 c1 c2 c3 count f1 g55 r1 r2 r3 r4 t23 t4_a t4_e t4_n t5 t39 g10 g40 g41 g42 g43 g44 g45 g46 g47 g48 g49 g50 g51 g52 g53 g54) H := ⟨μ', hm, t39, g10, g40, g41, g42, g43, g44, g45, g46, g47, g48, g49, g50, g51, g52, g53, g54, rfl, hI⟩
theorem spec_FromAtoms_x2_2 (a1 : Option Addr) (atoms_a : Option Addr) (atoms_e : Nat) (atoms_n : Nat) (b1 : Nat) (b2 : Nat) (c1 : Int) (c2 : Nat) (c3 : Nat) (count : Int) (f1 : Nat) (g55 : Value) (r1 : Bool) (r2 : Nat) (r3 : Nat) (r4 : Bool) (t23 : Int) (t4_a : Option Addr) (t4_e : Nat) (t4_n : Nat) (t5 : Bool) (t39 : Int) (g10 g40 g41 g42 g43 g44 g45 g46 g47 g48 g49 g50 g51 g52 g53 g54 : Value) (H : AHeap)  (R : Post) {I : Nat → List Value → AHeap → Prop} {μ : Nat} : loopQ I μ (blockQ 2 (blockQ 1 (seqQ (exK Try.prog E_spec_FromAtoms (cr (cr (cr (cl (cl (cr (cl (cr (cr (cr (bodyC Try.f39)))))))))))) (R)))) (.exit 2) (spec_FromAtoms_P2 a1 atoms_a atoms_e atoms_n b1 b2 c1 c2 c3 count f1 g55 r1 r2 r3 r4 t23 t4_a t4_e t4_n t5 t39 g10 g40 g41 g42 g43 g44 g45 g46 g47 g48 g49 g50 g51 g52 g53 g54) H =
  (R .normal [.int .i64 count, .slice atoms_a atoms_n atoms_e, undef, undef, .slice t4_a t4_n t4_e, .bool t5, .slice (some ⟨b1, 0, none⟩) ((count).toNat) 1, .int .i64 t23, .slice a1 r2 r3, .bool r4, g10, .int .i64 count, .bool r1, .bool (!r1), .bool false, .slice atoms_a atoms_n atoms_e, .int .i64 (atoms_n : Int), .bool (decide ((16 : Int) < (atoms_n : Int))), .bool (decide ((16 : Int) < (atoms_n : Int))), .int .i64 count, .slice (some ⟨b1, 0, none⟩) ((count).toNat) 1, .slice atoms_a atoms_n atoms_e, .int .i64 (atoms_n : Int), .int .i64 (IntKind.wrap .i64 (t23 + 1)), .bool (decide ((t23 : Int) < (atoms_n : Int))), .int .i64 t23, .tuple #[.slice a1 r2 r3, .bool r4], .int .i64 count, .slice atoms_a atoms_n atoms_e, .int .i64 t23, .pointer (some ⟨b2, f1 + (t23 : Int).toNat * 3, none⟩), .agg #[.int .i64 c1, .float .f32 c2, .float .f32 c3], .tuple #[.slice a1 r2 r3, .bool r4], .slice a1 r2 r3, .bool r4, .bool r4, .bool (!r4), .slice (some ⟨b1, 0, none⟩) ((count).toNat) 1, .int .i64 (((count).toNat : Int)), .int .i64 t39, g40, g41, g42, g43, g44, g45, g46, g47, g48, g49, g50, g51, g52, g53, g54, .int .i64 (IntKind.wrap .i64 (t23 + 1)), undef, undef, undef, undef] H) := by kernel_rfl
theorem E_spec_FromAtoms_ok : ∀ g, FnOk Try.prog g (E_spec_FromAtoms g) := FnOk.envOf (by
  intro x hx
  simp only [List.mem_cons, List.not_mem_nil, or_false] at hx
  rcases hx with rfl | rfl | rfl
  · exact spec_l00In_ok
  · exact spec_AtomList_ok
  · exact spec_l02Finite_ok)
set_option maxHeartbeats 1000000 in
theorem spec_FromAtoms_main (count : Int) (atoms_a : Option Addr) (atoms_n : Nat) (atoms_e : Nat) (H : AHeap) (K : Value → AHeap → Prop) (h : T_spec_FromAtoms count atoms_a atoms_n atoms_e H fun (r1_a : Option Addr) (r1_n : Nat) (r1_e : Nat) (r2 : Bool) (H' : AHeap) => K (.tuple #[.slice r1_a r1_n r1_e, .bool r2]) H') : bodyK Try.prog E_spec_FromAtoms Try.f39 [.int .i64 count, .slice atoms_a atoms_n atoms_e] H K := by
  rw [spec_FromAtoms_vc]
  obtain ⟨l_atoms, i_atoms, bd_61, hk⟩ := h
  obtain rfl := i_atoms.eqn
  have e : (p_spec_FromAtoms count l_atoms) = _ := rfl
  have e := e.trans (p_spec_FromAtoms_eq count l_atoms)
  have g0 := Grow.refl H
  refine T_spec_l00In_i ?_
  refine Br.intro (fun c_1 => ?_) (fun c_1 => ?_)
  · have e := e.trans (cond_t c_1)
    have c_1n := nf_of_t c_1
    rw [e] at hk
    exact hk _ _ _ H g0 o14
  · have e := e.trans (cond_f c_1)
    have c_1n := nt_of_f c_1
    have c_1n' := spec_l00In_t c_1n
    refine Br.intro (fun c_2 => ?_) (fun c_2 => ?_)
    · have e := e.trans (cond_t c_2)
      have c_2' := of_decide_eq_true c_2
      rw [e] at hk
      exact hk _ _ _ H g0 o14
    · have e := e.trans (cond_f c_2)
      have c_2' := of_decide_eq_false c_2
      refine ⟨by omega, rfl, o24, ?_⟩
      refine Al.intro (fun b_3 H_1 hb_4 hl_5 g_6 o_7 => ?_)
      rw [zeros_map fF 0 _ rfl] at o_7
      have l_9 := g_6.1
      have g_10 := g0.trans g_6
      have l_11 := g_10.1
      have w_60 := o_7.lt
      refine spec_FromAtoms_L1 _ _ _ _ _ _ (fun (μ : Nat) (t4_a : Option Addr) (t4_n : Nat) (t4_e : Nat) (t5 : Bool) (t23 : Int) (H_2 : AHeap) => ∃ (y1_1 : List Nat), t4_a = none ∧ t4_n = 0 ∧ t4_e = 0 ∧ Own H_2 b_3 (y1_1.map fF) ∧ y1_1.length = (count).toNat ∧ Grow H H_2 ∧ (0 : Int) ≤ t23 ∧ t23 ≤ (l_atoms.length : Int) ∧ (l_atoms.length : Int) - t23 ≤ (μ : Int) ∧ p_spec_FromAtoms count l_atoms = p_spec_FromAtoms_l1 count l_atoms (μ + 1) t5 t23 y1_1) (Int.toNat ((l_atoms.length : Int) - (0 : Int))) _ _ _ _ _ _ _ _ _ _ _ _ _ _ _ _ _ _ _ _ _ _ _ _ _ _ _ _ _ _ _ _ _ _ _ _ _ _ _ _ _ H_1 ?_ ?_
      · exact ⟨_, rfl, rfl, rfl, o_7, o20, g_10, o5, o5, o4, e⟩
      · intro μ t4_a t4_n t4_e t5 t23 g7 g8 g9 g10 g24 g25 g26 g27 g28 g29 g30 g31 g32 g33 g34 g35 g36 g37 g38 g39 g40 g41 g42 g43 g44 g45 g46 g47 g48 g49 g50 g51 g52 g53 g54 g55 H_2 hI
        obtain ⟨y1_1, rfl, rfl, rfl, o_12, y_13, g_14, v_15, v_16, hμ, e⟩ := hI
        rw [spec_FromAtoms_r1]
        have e := e.trans (p_spec_FromAtoms_l1_s count l_atoms μ t5 t23 y1_1)
        have w_17 := o_12.lt
        have l_18 := g_14.1
        refine Br.intro (fun c_19 => ?_) (fun c_19 => ?_)
        · have e := e.trans (cond_t c_19)
          have c_19' := of_decide_eq_true c_19
          obtain ⟨b_20, f_21, q_22⟩ := ((i_atoms.grow g_14)).pos o0
          refine ⟨by omega, by omega, b_20, f_21, q_22, ?_⟩
          refine ⟨(((l_atoms).getD (t23 : Int).toNat (0, 0, 0))).1, (((l_atoms).getD (t23 : Int).toNat (0, 0, 0))).2.1, (((l_atoms).getD (t23 : Int).toNat (0, 0, 0))).2.2, (i_atoms).rdN g_14 q_22 o4 _, ?_⟩
          refine T_spec_AtomList_i (fun a_23 n_24 e_25 H_3 g_28 r_26 => ?_)
          have z_27 := spec_AtomList_len count ((((l_atoms).getD (t23 : Int).toNat (0, 0, 0))).1) ((((l_atoms).getD (t23 : Int).toNat (0, 0, 0))).2.1) ((((l_atoms).getD (t23 : Int).toNat (0, 0, 0))).2.2)
          have l_29 := g_28.1
          have g_30 := g_14.trans g_28
          have l_31 := g_30.1
          have o_32 := o_12.grow g_28
          have w_33 := o_32.lt
          obtain rfl := r_26.isL.eqn
          have u_34 := r_26.up
          have u_35 := r_26.lo
          refine Br.intro (fun c_37 => ?_) (fun c_37 => ?_)
          · have e := e.trans (cond_t c_37)
            have c_37n := nf_of_t c_37
            rw [spec_FromAtoms_x1_ret]
            rw [e] at hk
            exact hk _ _ _ H_3 g_30 o14
          · have e := e.trans (cond_f c_37)
            have c_37n := nt_of_f c_37
            refine spec_FromAtoms_L2 _ _ _ _ _ _ _ _ _ _ _ _ _ _ _ _ _ _ _ _ _ (fun (μ2 : Nat) (t39 : Int) (H_4 : AHeap) => ∃ (y2_1 : List Nat), Own H_4 b_3 (y2_1.map fF) ∧ y2_1.length = (count).toNat ∧ OwnS fF H_4 H_2.length a_23 (((p_spec_AtomList count ((((l_atoms).getD (t23 : Int).toNat (0, 0, 0))).1) ((((l_atoms).getD (t23 : Int).toNat (0, 0, 0))).2.1) ((((l_atoms).getD (t23 : Int).toNat (0, 0, 0))).2.2)).1).length) e_25 ((p_spec_AtomList count ((((l_atoms).getD (t23 : Int).toNat (0, 0, 0))).1) ((((l_atoms).getD (t23 : Int).toNat (0, 0, 0))).2.1) ((((l_atoms).getD (t23 : Int).toNat (0, 0, 0))).2.2)).1) ∧ H_3.length ≤ H_4.length ∧ Grow H H_4 ∧ (0 : Int) ≤ t39 ∧ ((t39 ≤ ((count).toNat : Int) ∨ t39 ≤ (0 : Int))) ∧ ((count).toNat : Int) - t39 ≤ (μ2 : Int) ∧ p_spec_FromAtoms count l_atoms = p_spec_FromAtoms_l2 count l_atoms t5 t23 y1_1 (fun (t39 : Int) (y2_1 : List Nat) => (p_spec_FromAtoms_l1 count l_atoms μ t5 (t23 + 1) y2_1)) (μ2 + 1) t39 y2_1) (Int.toNat (((count).toNat : Int) - (0 : Int))) _ _ _ _ _ _ _ _ _ _ _ _ _ _ _ _ _ H_3 ?_ ?_
            · exact ⟨_, o_32, o20, r_26, o4, g_30, o5, o5, o4, e⟩
            · intro μ2 t39 g10 g40 g41 g42 g43 g44 g45 g46 g47 g48 g49 g50 g51 g52 g53 g54 H_4 hI
              obtain ⟨y2_1, o_38, y_39, r_40, n_41, g_42, v_43, v_44, hμ, e⟩ := hI
              rw [spec_FromAtoms_r2]
              have e := e.trans (p_spec_FromAtoms_l2_s count l_atoms t5 t23 y1_1 (fun (t39 : Int) (y2_1 : List Nat) => (p_spec_FromAtoms_l1 count l_atoms μ t5 (t23 + 1) y2_1)) μ2 t39 y2_1)
              have hz := spec_AtomList_full (by assumption)
              have w_45 := o_38.lt
              have l_46 := g_42.1
              refine Br.intro (fun c_47 => ?_) (fun c_47 => ?_)
              · have e := e.trans (cond_t c_47)
                have c_47' := of_decide_eq_true c_47
                refine ⟨by omega, o4, _, _, rfl, ?_⟩
                refine ⟨((y2_1).getD (t39 : Int).toNat 0), o_38.rd o0 _, ?_⟩
                obtain ⟨b_48, f_49, q_50⟩ := (r_40.isL).pos o0
                refine ⟨by omega, by omega, b_48, f_49, q_50, ?_⟩
                refine ⟨(((p_spec_AtomList count ((((l_atoms).getD (t23 : Int).toNat (0, 0, 0))).1) ((((l_atoms).getD (t23 : Int).toNat (0, 0, 0))).2.1) ((((l_atoms).getD (t23 : Int).toNat (0, 0, 0))).2.2)).1).getD (t39 : Int).toNat 0), (r_40.isL).rd (Grow.refl _) q_50 o4 _, ?_⟩
                refine ⟨by omega, o4, _, _, rfl, ?_⟩
                refine Lt.set o_38 o7 (fun H_5 hl_51 o_53 k_52 => ?_)
                have o_53 := map_set o_53
                have l_54 := k_52.1
                have g_55 := g_42.keep (b := b_3) o4 k_52
                have l_56 := g_55.1
                have r_57 := r_40.keep u_34 o4 k_52
                have w_58 := o_53.lt
                rw [show IntKind.wrap .i64 (t39 + 1) = (t39 + 1) from wrap64 o4 o4]
                refine spec_FromAtoms_n2 (μ2 - 1) o12 ⟨_, o_53, o13, r_57, o4, g_55, o1, o1, o12, (by rw [show μ2 - 1 + 1 = μ2 from by first | omega]; exact e)⟩
              · have e := e.trans (cond_f c_47)
                have c_47' := of_decide_eq_false c_47
                rw [spec_FromAtoms_x2_2]
                rw [show IntKind.wrap .i64 (t23 + 1) = (t23 + 1) from wrap64 o4 o4]
                refine spec_FromAtoms_n1 (μ - 1) o12 ⟨_, rfl, rfl, rfl, o_38, o13, g_42, o1, o1, o12, (by rw [show μ - 1 + 1 = μ from by first | omega]; exact e)⟩
        · have e := e.trans (cond_f c_19)
          have c_19' := of_decide_eq_false c_19
          rw [spec_FromAtoms_x1_0]
          refine T_spec_l02Finite_i ⟨_, (o_12.isL o19), o0, ?_⟩
          refine Br.intro (fun c_59 => ?_) (fun c_59 => ?_)
          · have e := e.trans (cond_t c_59)
            have c_59n := nf_of_t c_59
            rw [e] at hk
            exact hk _ _ _ H_2 g_14 o14
          · have e := e.trans (cond_f c_59)
            have c_59n := nt_of_f c_59
            rw [e] at hk
            exact hk _ _ _ H_2 g_14 (o_12.ownS o19 o4)
theorem spec_FromAtoms_ok : FnOk Try.prog 39 S_spec_FromAtoms := by
  refine FnOk.body mix_ok E_spec_FromAtoms_ok Try.func39 rfl (by kernel_rfl) (by kernel_rfl) ?_ ?_ ?_ ?_ ?_
  · intro args H K K' h hk
    simp only [S_spec_FromAtoms] at *
    unfold F_spec_FromAtoms at *
    split at hk
    · obtain ⟨l_atoms, i_atoms, bd_61, k⟩ := hk
      exact ⟨l_atoms, i_atoms, bd_61, (fun r1_a r1_n r1_e H' gg ow0 => h _ _ (k r1_a r1_n r1_e H' gg ow0))⟩
    · exact hk.elim
  · intro hq; cases hq
  · intro args H K hk
    simp only [S_spec_FromAtoms] at *
    unfold F_spec_FromAtoms at *
    split at hk
    · obtain ⟨l_atoms, i_atoms, bd_61, k⟩ := hk
      exact liveS fun a n e H1 g o => ⟨_, _, k a n e H1 g o⟩
    · exact hk.elim
  · intro _ args H K hk
    simp only [S_spec_FromAtoms] at *
    unfold F_spec_FromAtoms at *
    split at hk
    · obtain ⟨l_atoms, i_atoms, bd_61, k⟩ := hk
      exact ⟨l_atoms, i_atoms, bd_61, (fun r1_a r1_n r1_e H' gg ow0 => ⟨gg, k r1_a r1_n r1_e H' gg ow0⟩)⟩
    · exact hk.elim
  · have mm := @spec_FromAtoms_main
    revert mm
    generalize bodyK Try.prog E_spec_FromAtoms Try.f39 = Q
    intro mm args H K hk
    simp only [S_spec_FromAtoms] at *
    unfold F_spec_FromAtoms at *
    split at hk
    · exact mm _ _ _ _ H K hk
    · exact hk.elim
def p_impl_within (n : Int) (low : Int) (high : Int) : Bool := (bif decide ((low : Int) ≤ n) then decide ((n : Int) ≤ high) else false)
def p_impl_within_eq := @p_impl_within.eq_1
def T_impl_within (n : Int) (low : Int) (high : Int) (H : AHeap) (K : Bool → AHeap → Prop) : Prop := K (p_impl_within n low high) H
theorem impl_within_t {n a b : Int} (h : p_impl_within n a b = true) : a ≤ n ∧ n ≤ b := by
  unfold p_impl_within at h
  by_cases h1 : a ≤ n
  · rw [decide_eq_true h1, cond_true] at h; exact ⟨h1, of_decide_eq_true h⟩
  · rw [decide_eq_false h1] at h; cases h
theorem T_impl_within_i {n : Int} {low : Int} {high : Int} {H : AHeap} {K : Bool → AHeap → Prop} (h : K (p_impl_within n low high) H) : T_impl_within n low high H K := h
/-! impl_within: function 54 -/
def E_impl_within : Env := envOf []
def F_impl_within : List Value → AHeap → (Value → AHeap → Prop) → Prop
  | [.int .i64 n, .int .i64 low, .int .i64 high], H, K => T_impl_within n low high H fun (r1 : Bool) (H' : AHeap) => K (.bool r1) H'
  | _, _, _ => False
def S_impl_within : FSpec := { F := F_impl_within, quiet := true, tame := false }
theorem impl_within_vc (n : Int) (low : Int) (high : Int) (H : AHeap) (K : Value → AHeap → Prop) : bodyK Try.prog E_impl_within Try.f54 [.int .i64 n, .int .i64 low, .int .i64 high] H K =
  (Br (decide ((low : Int) ≤ n)) (K (.bool (decide ((n : Int) ≤ high))) H) (K (.bool false) H)) := by kernel_rfl
theorem E_impl_within_ok : ∀ g, FnOk Try.prog g (E_impl_within g) := FnOk.envOf (by
  intro x hx; cases hx)
set_option maxHeartbeats 1000000 in
theorem impl_within_main (n : Int) (low : Int) (high : Int) (H : AHeap) (K : Value → AHeap → Prop) (h : T_impl_within n low high H fun (r1 : Bool) (H' : AHeap) => K (.bool r1) H') : bodyK Try.prog E_impl_within Try.f54 [.int .i64 n, .int .i64 low, .int .i64 high] H K := by
  rw [impl_within_vc]
  unfold T_impl_within p_impl_within at h
  repeat' (first | exact h | (exfalso; simp_all; done) | (refine ⟨by decide, ?_⟩) | (refine Br.intro (fun hb => ?_) (fun hb => ?_) <;> (try simp only [hb, cond_true, cond_false, Bool.not_true, Bool.not_false] at h)))
theorem impl_within_ok : FnOk Try.prog 54 S_impl_within := by
  refine FnOk.body mix_ok E_impl_within_ok Try.func54 rfl (by kernel_rfl) (by kernel_rfl) ?_ ?_ ?_ ?_ ?_
  · intro args H K K' h hk
    simp only [S_impl_within] at *
    unfold F_impl_within at *
    split at hk
    · have k := hk
      exact h _ _ k
    · exact hk.elim
  · intro _ args H K hk
    simp only [S_impl_within] at *
    unfold F_impl_within at *
    split at hk
    · have k := hk
      exact ⟨_, k, fun K' k' => k'⟩
    · exact hk.elim
  · intro args H K hk
    simp only [S_impl_within] at *
    unfold F_impl_within at *
    split at hk
    · have k := hk
      exact ⟨_, _, k⟩
    · exact hk.elim
  · intro hq; cases hq
  · have mm := @impl_within_main
    revert mm
    generalize bodyK Try.prog E_impl_within Try.f54 = Q
    intro mm args H K hk
    simp only [S_impl_within] at *
    unfold F_impl_within at *
    split at hk
    · exact mm _ _ _ H K hk
    · exact hk.elim
def p_impl_isScale (x : Nat) : Bool := (bif fle .f32 1056964608 x then fle .f32 x 1098907648 else false)
def p_impl_isScale_eq := @p_impl_isScale.eq_1
def T_impl_isScale (x : Nat) (H : AHeap) (K : Bool → AHeap → Prop) : Prop := K (p_impl_isScale x) H

theorem T_impl_isScale_i {x : Nat} {H : AHeap} {K : Bool → AHeap → Prop} (h : K (p_impl_isScale x) H) : T_impl_isScale x H K := h
/-! impl_isScale: function 55 -/
def E_impl_isScale : Env := envOf []
def F_impl_isScale : List Value → AHeap → (Value → AHeap → Prop) → Prop
  | [.float .f32 x], H, K => T_impl_isScale x H fun (r1 : Bool) (H' : AHeap) => K (.bool r1) H'
  | _, _, _ => False
def S_impl_isScale : FSpec := { F := F_impl_isScale, quiet := true, tame := false }
theorem impl_isScale_vc (x : Nat) (H : AHeap) (K : Value → AHeap → Prop) : bodyK Try.prog E_impl_isScale Try.f55 [.float .f32 x] H K =
  (Br (fle .f32 1056964608 x) (K (.bool (fle .f32 x 1098907648)) H) (K (.bool false) H)) := by kernel_rfl
theorem E_impl_isScale_ok : ∀ g, FnOk Try.prog g (E_impl_isScale g) := FnOk.envOf (by
  intro x hx; cases hx)
set_option maxHeartbeats 1000000 in
theorem impl_isScale_main (x : Nat) (H : AHeap) (K : Value → AHeap → Prop) (h : T_impl_isScale x H fun (r1 : Bool) (H' : AHeap) => K (.bool r1) H') : bodyK Try.prog E_impl_isScale Try.f55 [.float .f32 x] H K := by
  rw [impl_isScale_vc]
  unfold T_impl_isScale p_impl_isScale at h
  repeat' (first | exact h | (exfalso; simp_all; done) | (refine ⟨by decide, ?_⟩) | (refine Br.intro (fun hb => ?_) (fun hb => ?_) <;> (try simp only [hb, cond_true, cond_false, Bool.not_true, Bool.not_false] at h)))
theorem impl_isScale_ok : FnOk Try.prog 55 S_impl_isScale := by
  refine FnOk.body mix_ok E_impl_isScale_ok Try.func55 rfl (by kernel_rfl) (by kernel_rfl) ?_ ?_ ?_ ?_ ?_
  · intro args H K K' h hk
    simp only [S_impl_isScale] at *
    unfold F_impl_isScale at *
    split at hk
    · have k := hk
      exact h _ _ k
    · exact hk.elim
  · intro _ args H K hk
    simp only [S_impl_isScale] at *
    unfold F_impl_isScale at *
    split at hk
    · have k := hk
      exact ⟨_, k, fun K' k' => k'⟩
    · exact hk.elim
  · intro args H K hk
    simp only [S_impl_isScale] at *
    unfold F_impl_isScale at *
    split at hk
    · have k := hk
      exact ⟨_, _, k⟩
    · exact hk.elim
  · intro hq; cases hq
  · have mm := @impl_isScale_main
    revert mm
    generalize bodyK Try.prog E_impl_isScale Try.f55 = Q
    intro mm args H K hk
    simp only [S_impl_isScale] at *
    unfold F_impl_isScale at *
    split at hk
    · exact mm _ H K hk
    · exact hk.elim
def p_impl_IsFinite (x : Nat) : Bool := feq .f32 (fsub .f32 x x) 0
def p_impl_IsFinite_eq := @p_impl_IsFinite.eq_1
def T_impl_IsFinite (x : Nat) (H : AHeap) (K : Bool → AHeap → Prop) : Prop := K (p_impl_IsFinite x) H

theorem T_impl_IsFinite_i {x : Nat} {H : AHeap} {K : Bool → AHeap → Prop} (h : K (p_impl_IsFinite x) H) : T_impl_IsFinite x H K := h
/-! impl_IsFinite: function 56 -/
def E_impl_IsFinite : Env := envOf []
def F_impl_IsFinite : List Value → AHeap → (Value → AHeap → Prop) → Prop
  | [.float .f32 x], H, K => T_impl_IsFinite x H fun (r1 : Bool) (H' : AHeap) => K (.bool r1) H'
  | _, _, _ => False
def S_impl_IsFinite : FSpec := { F := F_impl_IsFinite, quiet := true, tame := false }
theorem impl_IsFinite_vc (x : Nat) (H : AHeap) (K : Value → AHeap → Prop) : bodyK Try.prog E_impl_IsFinite Try.f56 [.float .f32 x] H K =
  (K (.bool (feq .f32 (fsub .f32 x x) 0)) H) := by kernel_rfl
theorem E_impl_IsFinite_ok : ∀ g, FnOk Try.prog g (E_impl_IsFinite g) := FnOk.envOf (by
  intro x hx; cases hx)
set_option maxHeartbeats 1000000 in
theorem impl_IsFinite_main (x : Nat) (H : AHeap) (K : Value → AHeap → Prop) (h : T_impl_IsFinite x H fun (r1 : Bool) (H' : AHeap) => K (.bool r1) H') : bodyK Try.prog E_impl_IsFinite Try.f56 [.float .f32 x] H K := by
  rw [impl_IsFinite_vc]
  unfold T_impl_IsFinite p_impl_IsFinite at h
  repeat' (first | exact h | (exfalso; simp_all; done) | (refine ⟨by decide, ?_⟩) | (refine Br.intro (fun hb => ?_) (fun hb => ?_) <;> (try simp only [hb, cond_true, cond_false, Bool.not_true, Bool.not_false] at h)))
theorem impl_IsFinite_ok : FnOk Try.prog 56 S_impl_IsFinite := by
  refine FnOk.body mix_ok E_impl_IsFinite_ok Try.func56 rfl (by kernel_rfl) (by kernel_rfl) ?_ ?_ ?_ ?_ ?_
  · intro args H K K' h hk
    simp only [S_impl_IsFinite] at *
    unfold F_impl_IsFinite at *
    split at hk
    · have k := hk
      exact h _ _ k
    · exact hk.elim
  · intro _ args H K hk
    simp only [S_impl_IsFinite] at *
    unfold F_impl_IsFinite at *
    split at hk
    · have k := hk
      exact ⟨_, k, fun K' k' => k'⟩
    · exact hk.elim
  · intro args H K hk
    simp only [S_impl_IsFinite] at *
    unfold F_impl_IsFinite at *
    split at hk
    · have k := hk
      exact ⟨_, _, k⟩
    · exact hk.elim
  · intro hq; cases hq
  · have mm := @impl_IsFinite_main
    revert mm
    generalize bodyK Try.prog E_impl_IsFinite Try.f56 = Q
    intro mm args H K hk
    simp only [S_impl_IsFinite] at *
    unfold F_impl_IsFinite at *
    split at hk
    · exact mm _ H K hk
    · exact hk.elim

def p_impl_expWide_l2 (x : Nat) (p : Nat) (k : Nat) (k2_3 : Nat → Int → Nat) : Nat → Nat → Int → Nat
  | 0, _, _ => 0
  | μ2 + 1, p_4, t25 => (bif decide ((t25 : Int) < 8) then (p_impl_expWide_l2 x p k k2_3 μ2 (fmul .f64 p_4 p_4) (t25 + 1)) else (k2_3 p_4 t25))
def p_impl_expWide_l2_s := fun x p k k2_3 μ2 p_4 t25 => @p_impl_expWide_l2.eq_2 x p k k2_3 p_4 t25 μ2
def p_impl_expWide_l1 (x : Nat) : Nat → Nat → Nat → Nat
  | 0, _, _ => 0
  | μ + 1, p, k => (bif fle .f64 4607182418800017408 k then (p_impl_expWide_l1 x μ (fadd .f64 4607182418800017408 (fdiv .f64 (fmul .f64 (fdiv .f64 x 4643211215818981376) p) k)) (fsub .f64 k 4607182418800017408)) else (p_impl_expWide_l2 x p k (fun (p_4 : Nat) (t25 : Int) => p_4) (Int.toNat (8 - (0 : Int)) + 1) p (0 : Int)))
def p_impl_expWide_l1_s := fun x μ p k => @p_impl_expWide_l1.eq_2 x p k μ
def p_impl_expWide (x : Nat) : Nat := (bif flt .f64 4641240890982006784 x then (p_math_Inf (1 : Int)) else (bif flt .f64 x 13864612927836782592 then 0 else (p_impl_expWide_l1 x (Int.toNat (cnt 4622945017495814144) + 1) 4607182418800017408 4622945017495814144)))
def p_impl_expWide_eq := @p_impl_expWide.eq_1
def T_impl_expWide (x : Nat) (H : AHeap) (K : Nat → AHeap → Prop) : Prop := K (p_impl_expWide x) H
theorem T_impl_expWide_i {x : Nat} {H : AHeap} {K : Nat → AHeap → Prop} (h : K (p_impl_expWide x) H) : T_impl_expWide x H K := h
theorem impl_expWide_sq {y P K : Nat} {k : Int} : ∀ (μ p : Nat) (i : Int), Bd .f64 1074 p → (FloatKind.f64.format.read p).neg = false → Bd .f64 1074 (p_impl_expWide_l2 y P K (fun (p : Nat) (t : Int) => p) μ p i) ∧ (FloatKind.f64.format.read (p_impl_expWide_l2 y P K (fun (p : Nat) (t : Int) => p) μ p i)).neg = false := by
  intro μ
  induction μ with
  | zero => intro p i _ _; exact ⟨⟨fin_zero _, by show (sv .f64 0).natAbs ≤ _; rw [sv_zero]; exact Nat.zero_le _⟩, by show (FloatKind.f64.format.read 0).neg = false; rw [read_zero]; rfl⟩
  | succ μ ih =>
    intro p i hp hs
    rw [p_impl_expWide_l2_s]
    cases decide (i < (8 : Int))
    · exact ⟨hp, hs⟩
    · have := Bd.mul (T := 1022) hp hp (top64 o22) o28
      rw [fb64, hs] at this
      exact ih _ _ this.1 this.2
theorem impl_expWide_ser {y : Nat} (hy : Bd .f64 (8 + 1074) y) (hn : (FloatKind.f64.format.read y).neg = true) : ∀ (μ p : Nat) (n : Int), n ≤ 12 → -1 ≤ n → Bd .f64 1074 p → (FloatKind.f64.format.read p).neg = false → Bd .f64 1074 (p_impl_expWide_l1 y μ p (FloatKind.nearest .f64 n)) := by
  intro μ
  induction μ with
  | zero => intro p n _ _ _ _; exact ⟨fin_zero _, by show (sv .f64 0).natAbs ≤ _; rw [sv_zero]; exact Nat.zero_le _⟩
  | succ μ ih =>
    intro p n h1 h0 hp hs
    rw [p_impl_expWide_l1_s]
    rw [(cnt_at (n := n) o4 o4).2.1]
    by_cases hc : (1 : Int) ≤ n
    · rw [decide_eq_true hc, cond_true]
      have t1 := Bd.div (T := 1022) (B := 1082) hy (y := 4643211215818981376) o27 o27 (top64 o22) o28
      rw [fb64, hn, show (FloatKind.f64.format.read 4643211215818981376).neg = false from by decide +kernel] at t1
      have t2 := Bd.mul (T := 1022) t1.1 hp (top64 o22) o28
      rw [fb64, t1.2, hs] at t2
      have c := cnt_sv hc o4
      have t3 := Bd.div (T := 1022) (B := 1074) t2.1 c.1 c.2.1 (top64 o22) o28
      rw [fb64, t2.2, c.2.2, show 52 + 1022 = 1074 from rfl] at t3
      have hz := sv_le_zero t3.2
      have hone : sv .f64 4607182418800017408 = 2 ^ 1074 := by decide +kernel
      have habs := t3.1.2
      generalize hq : fdiv .f64 (fmul .f64 (fdiv .f64 y 4643211215818981376) p) (FloatKind.nearest .f64 n) = q at *
      have hpow := pow_cast 1074
      have hsum : (sv .f64 4607182418800017408 + sv .f64 q).natAbs ≤ 2 ^ (FloatKind.f64.format.fractionBits + 1022) := by
        rw [hone, fb64, ← hpow, show 52 + 1022 = 1074 from rfl]
        obtain ⟨W, hW⟩ : ∃ W : Nat, W = 2 ^ 1074 := ⟨_, rfl⟩
        rw [← hW] at habs ⊢
        clear hpow hW
        omega
      have t4 := Bd.add (T := 1022) (x := 4607182418800017408) (y := q) o27 t3.1.1 (top64 o22) hsum
      rw [fb64] at t4
      have hneg : (FloatKind.f64.format.read (fadd .f64 4607182418800017408 q)).neg = false := by
        rw [t4.2]
        split
        · rw [show (FloatKind.f64.format.read 4607182418800017408).neg = false from by decide +kernel]; rfl
        · refine decide_eq_false ?_
          rw [hone, ← hpow]
          generalize (2 ^ 1074 : Nat) = W at *
          omega
      rw [(cnt_at (n := n) o4 o4).2.2.1]; exact ih _ (n - 1) o4 o4 t4.1 hneg
    · rw [decide_eq_false hc, cond_false]
      exact (impl_expWide_sq (k := 0) _ _ _ hp hs).1
theorem impl_expWide_nar {x : Nat} (hx : (FloatKind.f32.format.read x).isNaN = true ∨ (FloatKind.f32.format.read x).neg = true) : fnarrow (p_impl_expWide (fwide x)) ≠ none := by
  cases hr : FloatKind.f32.format.read x with
  | nan s t =>
    have e : fwide x = qnan .f64 := by
      unfold fwide
      rw [show FloatKind.f32.decode x = FloatKind.f32.format.read x from rfl, hr]
    rw [e]; decide +kernel
  | infinity s =>
    have hs : s = true := by
      rw [hr] at hx
      rcases hx with h | h
      · cases h
      · exact h
    have e : fwide x = FloatKind.f64.encode (.infinity true) := by
      unfold fwide
      rw [show FloatKind.f32.decode x = FloatKind.f32.format.read x from rfl, hr, hs]
    rw [e]; decide +kernel
  | number s m i =>
    have hf : fin .f32 x = true := by unfold fin; rw [hr]
    have hs : (FloatKind.f32.format.read x).neg = true := by
      rcases hx with h | h
      · rw [hr] at h; cases h
      · exact h
    have wf := wide_fin hf
    have wn := wide_neg (x := x) (fin_nn hf)
    rw [hs] at wn
    have z := sv_le_zero wn
    rw [p_impl_expWide_eq]
    
    rw [flt_fin o27 wf, flt_fin wf o27]
    have e1 : sv .f64 4641240890982006784 = 200 * 2 ^ 1074 := by decide +kernel
    have e2 : sv .f64 13864612927836782592 = -200 * 2 ^ 1074 := by decide +kernel
    have hpow := pow_cast 1074
    rw [e1, e2, ← hpow]
    have hp := Nat.two_pow_pos 1074
    rw [decide_eq_false (by generalize (2 ^ 1074 : Nat) = W at *; omega), cond_false]
    by_cases hc : sv .f64 (fwide x) < -200 * ((2 ^ 1074 : Nat) : Int)
    · rw [decide_eq_true hc, cond_true]; decide +kernel
    · rw [decide_eq_false hc, cond_false]
      have hy : Bd .f64 (8 + 1074) (fwide x) := by
        refine ⟨wf, ?_⟩
        have e3 : (2 : Nat) ^ (8 + 1074) = 2 ^ 8 * 2 ^ 1074 := Nat.pow_add 2 8 1074
        rw [e3]
        generalize (2 ^ 1074 : Nat) = W at *
        omega
      have one : Bd .f64 1074 4607182418800017408 := ⟨by decide +kernel, by decide +kernel⟩
      have e5 : (4622945017495814144 : Nat) = FloatKind.nearest .f64 12 := by decide +kernel
      have b := impl_expWide_ser hy wn (Int.toNat (cnt 4622945017495814144) + 1) 4607182418800017408 12 o22 o22 one o27
      rw [← e5] at b
      exact narrow_ok (b.mono o22)
/-! impl_expWide: function 184 -/
def E_impl_expWide : Env := envOf [(182, S_math_Inf)]
def F_impl_expWide : List Value → AHeap → (Value → AHeap → Prop) → Prop
  | [.float .f64 x], H, K => T_impl_expWide x H fun (r1 : Nat) (H' : AHeap) => K (.float .f64 r1) H'
  | _, _, _ => False
def S_impl_expWide : FSpec := { F := F_impl_expWide, quiet := true, tame := false }
theorem impl_expWide_vc (x : Nat) (H : AHeap) (K : Value → AHeap → Prop) : bodyK Try.prog E_impl_expWide Try.f184 [.float .f64 x] H K =
  (Br (flt .f64 4641240890982006784 x) (T_math_Inf 1 H fun (r1 : Nat) (H1 : AHeap) => K (.float .f64 r1) H1) (Br (flt .f64 x 13864612927836782592) (K (.float .f64 0) H) (loopK (exK Try.prog E_impl_expWide (cl (cl (cr (cl (cr (cr (cr (cr (bodyC Try.f184)))))))))) [.float .f64 x, undef, .float .f64 0, .float .f64 (fdiv .f64 x 4643211215818981376), .float .f64 4607182418800017408, .float .f64 4622945017495814144, .bool (flt .f64 4641240890982006784 x), .float .f64 x, .bool (flt .f64 4641240890982006784 x), undef, .bool (flt .f64 x 13864612927836782592), .float .f64 x, .bool (flt .f64 x 13864612927836782592), .float .f64 x, .float .f64 (fdiv .f64 x 4643211215818981376), undef, undef, undef, undef, undef, undef, undef, undef, undef, undef, undef, undef, undef, undef, undef, undef, undef] H (blockQ 1 (seqQ (exK Try.prog E_impl_expWide (cr (cr (cr (cr (cr (bodyC Try.f184))))))) (retK Try.prog Try.f184 K)))))) := by kernel_rfl
abbrev impl_expWide_P1 (x : Nat) (p : Nat) (k : Nat) (g15 g16 g17 g18 g19 g20 g21 g22 g23 g24 : Value) : List Value := [.float .f64 x, undef, .float .f64 0, .float .f64 (fdiv .f64 x 4643211215818981376), .float .f64 p, .float .f64 k, .bool (flt .f64 4641240890982006784 x), .float .f64 x, .bool (flt .f64 4641240890982006784 x), undef, .bool (flt .f64 x 13864612927836782592), .float .f64 x, .bool (flt .f64 x 13864612927836782592), .float .f64 x, .float .f64 (fdiv .f64 x 4643211215818981376), g15, g16, g17, g18, g19, g20, g21, g22, g23, g24, undef, undef, undef, undef, undef, undef, undef]
theorem impl_expWide_r1 (x : Nat) (p : Nat) (k : Nat) (g15 g16 g17 g18 g19 g20 g21 g22 g23 g24 : Value) (H : AHeap) (R : Post) : exK Try.prog E_impl_expWide (cl (cl (cr (cl (cr (cr (cr (cr (bodyC Try.f184))))))))) (impl_expWide_P1 x p k g15 g16 g17 g18 g19 g20 g21 g22 g23 g24) H R =
  (Br (fle .f64 4607182418800017408 k) (R .normal [.float .f64 x, undef, .float .f64 0, .float .f64 (fdiv .f64 x 4643211215818981376), .float .f64 (fadd .f64 4607182418800017408 (fdiv .f64 (fmul .f64 (fdiv .f64 x 4643211215818981376) p) k)), .float .f64 (fsub .f64 k 4607182418800017408), .bool (flt .f64 4641240890982006784 x), .float .f64 x, .bool (flt .f64 4641240890982006784 x), undef, .bool (flt .f64 x 13864612927836782592), .float .f64 x, .bool (flt .f64 x 13864612927836782592), .float .f64 x, .float .f64 (fdiv .f64 x 4643211215818981376), .float .f64 k, .bool (fle .f64 4607182418800017408 k), .float .f64 k, .float .f64 (fsub .f64 k 4607182418800017408), .float .f64 (fdiv .f64 x 4643211215818981376), .float .f64 p, .float .f64 (fmul .f64 (fdiv .f64 x 4643211215818981376) p), .float .f64 k, .float .f64 (fdiv .f64 (fmul .f64 (fdiv .f64 x 4643211215818981376) p) k), .float .f64 (fadd .f64 4607182418800017408 (fdiv .f64 (fmul .f64 (fdiv .f64 x 4643211215818981376) p) k)), undef, undef, undef, undef, undef, undef, undef] H) (R (.exit 1) [.float .f64 x, undef, .float .f64 0, .float .f64 (fdiv .f64 x 4643211215818981376), .float .f64 p, .float .f64 k, .bool (flt .f64 4641240890982006784 x), .float .f64 x, .bool (flt .f64 4641240890982006784 x), undef, .bool (flt .f64 x 13864612927836782592), .float .f64 x, .bool (flt .f64 x 13864612927836782592), .float .f64 x, .float .f64 (fdiv .f64 x 4643211215818981376), .float .f64 k, .bool (fle .f64 4607182418800017408 k), g17, g18, g19, g20, g21, g22, g23, g24, undef, undef, undef, undef, undef, undef, undef] H)) := by kernel_rfl
def impl_expWide_I1 (x : Nat) (Inv : Nat → Nat → Nat → AHeap → Prop) : Nat → List Value → AHeap → Prop := fun μ tm H => ∃ (p : Nat), ∃ (k : Nat), ∃ g15 g16 g17 g18 g19 g20 g21 g22 g23 g24, tm = (impl_expWide_P1 x p k g15 g16 g17 g18 g19 g20 g21 g22 g23 g24) ∧ Inv μ p k H
theorem impl_expWide_L1 (x : Nat) {Q : Post} (Inv : Nat → Nat → Nat → AHeap → Prop) (ν : Nat) (p : Nat) (k : Nat) (g15 g16 g17 g18 g19 g20 g21 g22 g23 g24 : Value) (H : AHeap) (h0 : Inv ν p k H)
    (hs : ∀ (μ : Nat) (p : Nat) (k : Nat) (g15 g16 g17 g18 g19 g20 g21 g22 g23 g24 : Value) (H : AHeap), Inv μ p k H → exK Try.prog E_impl_expWide (cl (cl (cr (cl (cr (cr (cr (cr (bodyC Try.f184))))))))) (impl_expWide_P1 x p k g15 g16 g17 g18 g19 g20 g21 g22 g23 g24) H (loopQ (impl_expWide_I1 x Inv) μ Q)) : loopK (exK Try.prog E_impl_expWide (cl (cl (cr (cl (cr (cr (cr (cr (bodyC Try.f184)))))))))) (impl_expWide_P1 x p k g15 g16 g17 g18 g19 g20 g21 g22 g23 g24) H Q :=
  ⟨impl_expWide_I1 x Inv, ν, ⟨p, k, g15, g16, g17, g18, g19, g20, g21, g22, g23, g24, rfl, h0⟩, fun μ tm H h => by obtain ⟨p, k, g15, g16, g17, g18, g19, g20, g21, g22, g23, g24, rfl, hI⟩ := h; exact hs μ p k g15 g16 g17 g18 g19 g20 g21 g22 g23 g24 H hI⟩
theorem impl_expWide_n1 {x : Nat} {Q : Post} {Inv : Nat → Nat → Nat → AHeap → Prop} {μ : Nat} (μ' : Nat) {p : Nat} {k : Nat} {g15 g16 g17 g18 g19 g20 g21 g22 g23 g24 : Value} {H : AHeap} (hm : μ' < μ) (hI : Inv μ' p k H) : loopQ (impl_expWide_I1 x Inv) μ Q .normal (impl_expWide_P1 x p k g15 g16 g17 g18 g19 g20 g21 g22 g23 g24) H := ⟨μ', hm, p, k, g15, g16, g17, g18, g19, g20, g21, g22, g23, g24, rfl, hI⟩
theorem impl_expWide_x1_1 (x : Nat) (p : Nat) (k : Nat) (g15 g16 g17 g18 g19 g20 g21 g22 g23 g24 : Value) (H : AHeap) (K : Value → AHeap → Prop)  {I : Nat → List Value → AHeap → Prop} {μ : Nat} : loopQ I μ (blockQ 1 (seqQ (exK Try.prog E_impl_expWide (cr (cr (cr (cr (cr (bodyC Try.f184))))))) (retK Try.prog Try.f184 K))) (.exit 1) (impl_expWide_P1 x p k g15 g16 g17 g18 g19 g20 g21 g22 g23 g24) H =
  (loopK (exK Try.prog E_impl_expWide (cl (cl (cr (cl (cr (cr (cr (cr (cr (bodyC Try.f184))))))))))) [.float .f64 x, undef, .float .f64 0, .float .f64 (fdiv .f64 x 4643211215818981376), .float .f64 p, .float .f64 k, .bool (flt .f64 4641240890982006784 x), .float .f64 x, .bool (flt .f64 4641240890982006784 x), undef, .bool (flt .f64 x 13864612927836782592), .float .f64 x, .bool (flt .f64 x 13864612927836782592), .float .f64 x, .float .f64 (fdiv .f64 x 4643211215818981376), g15, g16, g17, g18, g19, g20, g21, g22, g23, g24, .int .i64 0, undef, undef, undef, undef, undef, undef] H (blockQ 3 (seqQ (exK Try.prog E_impl_expWide (cr (cr (cr (cr (cr (cr (bodyC Try.f184)))))))) (retK Try.prog Try.f184 K)))) := by kernel_rfl
abbrev impl_expWide_P2 (g15 : Value) (g16 : Value) (g17 : Value) (g18 : Value) (g19 : Value) (g20 : Value) (g21 : Value) (g22 : Value) (g23 : Value) (g24 : Value) (k : Nat) (x : Nat) (p_4 : Nat) (t25 : Int) (g26 g27 g28 g29 g30 : Value) : List Value := [.float .f64 x, undef, .float .f64 0, .float .f64 (fdiv .f64 x 4643211215818981376), .float .f64 p_4, .float .f64 k, .bool (flt .f64 4641240890982006784 x), .float .f64 x, .bool (flt .f64 4641240890982006784 x), undef, .bool (flt .f64 x 13864612927836782592), .float .f64 x, .bool (flt .f64 x 13864612927836782592), .float .f64 x, .float .f64 (fdiv .f64 x 4643211215818981376), g15, g16, g17, g18, g19, g20, g21, g22, g23, g24, .int .i64 t25, g26, g27, g28, g29, g30, undef]
theorem impl_expWide_r2 (g15 : Value) (g16 : Value) (g17 : Value) (g18 : Value) (g19 : Value) (g20 : Value) (g21 : Value) (g22 : Value) (g23 : Value) (g24 : Value) (k : Nat) (x : Nat) (p_4 : Nat) (t25 : Int) (g26 g27 g28 g29 g30 : Value) (H : AHeap) (R : Post) : exK Try.prog E_impl_expWide (cl (cl (cr (cl (cr (cr (cr (cr (cr (bodyC Try.f184)))))))))) (impl_expWide_P2 g15 g16 g17 g18 g19 g20 g21 g22 g23 g24 k x p_4 t25 g26 g27 g28 g29 g30) H R =
  (Br (decide ((t25 : Int) < 8)) (R .normal [.float .f64 x, undef, .float .f64 0, .float .f64 (fdiv .f64 x 4643211215818981376), .float .f64 (fmul .f64 p_4 p_4), .float .f64 k, .bool (flt .f64 4641240890982006784 x), .float .f64 x, .bool (flt .f64 4641240890982006784 x), undef, .bool (flt .f64 x 13864612927836782592), .float .f64 x, .bool (flt .f64 x 13864612927836782592), .float .f64 x, .float .f64 (fdiv .f64 x 4643211215818981376), g15, g16, g17, g18, g19, g20, g21, g22, g23, g24, .int .i64 (IntKind.wrap .i64 (t25 + 1)), .bool (decide ((t25 : Int) < 8)), .float .f64 p_4, .float .f64 p_4, .float .f64 (fmul .f64 p_4 p_4), .int .i64 (IntKind.wrap .i64 (t25 + 1)), undef] H) (R (.exit 3) [.float .f64 x, undef, .float .f64 0, .float .f64 (fdiv .f64 x 4643211215818981376), .float .f64 p_4, .float .f64 k, .bool (flt .f64 4641240890982006784 x), .float .f64 x, .bool (flt .f64 4641240890982006784 x), undef, .bool (flt .f64 x 13864612927836782592), .float .f64 x, .bool (flt .f64 x 13864612927836782592), .float .f64 x, .float .f64 (fdiv .f64 x 4643211215818981376), g15, g16, g17, g18, g19, g20, g21, g22, g23, g24, .int .i64 t25, .bool (decide ((t25 : Int) < 8)), g27, g28, g29, g30, undef] H)) := by kernel_rfl
def impl_expWide_I2 (g15 : Value) (g16 : Value) (g17 : Value) (g18 : Value) (g19 : Value) (g20 : Value) (g21 : Value) (g22 : Value) (g23 : Value) (g24 : Value) (k : Nat) (x : Nat) (Inv : Nat → Nat → Int → AHeap → Prop) : Nat → List Value → AHeap → Prop := fun μ tm H => ∃ (p_4 : Nat), ∃ (t25 : Int), ∃ g26 g27 g28 g29 g30, tm = (impl_expWide_P2 g15 g16 g17 g18 g19 g20 g21 g22 g23 g24 k x p_4 t25 g26 g27 g28 g29 g30) ∧ Inv μ p_4 t25 H
theorem impl_expWide_L2 (g15 : Value) (g16 : Value) (g17 : Value) (g18 : Value) (g19 : Value) (g20 : Value) (g21 : Value) (g22 : Value) (g23 : Value) (g24 : Value) (k : Nat) (x : Nat) {Q : Post} (Inv : Nat → Nat → Int → AHeap → Prop) (ν : Nat) (p_4 : Nat) (t25 : Int) (g26 g27 g28 g29 g30 : Value) (H : AHeap) (h0 : Inv ν p_4 t25 H)
    (hs : ∀ (μ : Nat) (p_4 : Nat) (t25 : Int) (g26 g27 g28 g29 g30 : Value) (H : AHeap), Inv μ p_4 t25 H → exK Try.prog E_impl_expWide (cl (cl (cr (cl (cr (cr (cr (cr (cr (bodyC Try.f184)))))))))) (impl_expWide_P2 g15 g16 g17 g18 g19 g20 g21 g22 g23 g24 k x p_4 t25 g26 g27 g28 g29 g30) H (loopQ (impl_expWide_I2 g15 g16 g17 g18 g19 g20 g21 g22 g23 g24 k x Inv) μ Q)) : loopK (exK Try.prog E_impl_expWide (cl (cl (cr (cl (cr (cr (cr (cr (cr (bodyC Try.f184))))))))))) (impl_expWide_P2 g15 g16 g17 g18 g19 g20 g21 g22 g23 g24 k x p_4 t25 g26 g27 g28 g29 g30) H Q :=
  ⟨impl_expWide_I2 g15 g16 g17 g18 g19 g20 g21 g22 g23 g24 k x Inv, ν, ⟨p_4, t25, g26, g27, g28, g29, g30, rfl, h0⟩, fun μ tm H h => by obtain ⟨p_4, t25, g26, g27, g28, g29, g30, rfl, hI⟩ := h; exact hs μ p_4 t25 g26 g27 g28 g29 g30 H hI⟩
theorem impl_expWide_n2 {g15 : Value} {g16 : Value} {g17 : Value} {g18 : Value} {g19 : Value} {g20 : Value} {g21 : Value} {g22 : Value} {g23 : Value} {g24 : Value} {k : Nat} {x : Nat} {Q : Post} {Inv : Nat → Nat → Int → AHeap → Prop} {μ : Nat} (μ' : Nat) {p_4 : Nat} {t25 : Int} {g26 g27 g28 g29 g30 : Value} {H : AHeap} (hm : μ' < μ) (hI : Inv μ' p_4 t25 H) : loopQ (impl_expWide_I2 g15 g16 g17 g18 g19 g20 g21 g22 g23 g24 k x Inv) μ Q .normal (impl_expWide_P2 g15 g16 g17 g18 g19 g20 g21 g22 g23 g24 k x p_4 t25 g26 g27 g28 g29 g30) H := ⟨μ', hm, p_4, t25, g26, g27, g28, g29, g30, rfl, hI⟩
theorem impl_expWide_x2_3 (g15 : Value) (g16 : Value) (g17 : Value) (g18 : Value) (g19 : Value) (g20 : Value) (g21 : Value) (g22 : Value) (g23 : Value) (g24 : Value) (k : Nat) (x : Nat) (p_4 : Nat) (t25 : Int) (g26 g27 g28 g29 g30 : Value) (H : AHeap) (K : Value → AHeap → Prop)  {I : Nat → List Value → AHeap → Prop} {μ : Nat} : loopQ I μ (blockQ 3 (seqQ (exK Try.prog E_impl_expWide (cr (cr (cr (cr (cr (cr (bodyC Try.f184)))))))) (retK Try.prog Try.f184 K))) (.exit 3) (impl_expWide_P2 g15 g16 g17 g18 g19 g20 g21 g22 g23 g24 k x p_4 t25 g26 g27 g28 g29 g30) H =
  (K (.float .f64 p_4) H) := by kernel_rfl
theorem E_impl_expWide_ok : ∀ g, FnOk Try.prog g (E_impl_expWide g) := FnOk.envOf (by
  intro x hx
  simp only [List.mem_cons, List.not_mem_nil, or_false] at hx
  subst hx; exact math_Inf_ok)
theorem o16 {P : Prop} (h : P := by first | omega | (have := down1 (by assumption) (by assumption); omega)) : P := h
set_option maxHeartbeats 1000000 in
theorem impl_expWide_main (x : Nat) (H : AHeap) (K : Value → AHeap → Prop) (h : T_impl_expWide x H fun (r1 : Nat) (H' : AHeap) => K (.float .f64 r1) H') : bodyK Try.prog E_impl_expWide Try.f184 [.float .f64 x] H K := by
  rw [impl_expWide_vc]
  have hk := h
  unfold T_impl_expWide at hk
  have e : (p_impl_expWide x) = _ := rfl
  have e := e.trans (p_impl_expWide_eq x)
  have g0 := Grow.refl H
  refine Br.intro (fun c_1 => ?_) (fun c_1 => ?_)
  · have e := e.trans (cond_t c_1)
    refine T_math_Inf_i ?_
    rw [e] at hk
    exact hk
  · have e := e.trans (cond_f c_1)
    refine Br.intro (fun c_2 => ?_) (fun c_2 => ?_)
    · have e := e.trans (cond_t c_2)
      rw [e] at hk
      exact hk
    · have e := e.trans (cond_f c_2)
      refine impl_expWide_L1 _ (fun (μ : Nat) (p : Nat) (k : Nat) (H_1 : AHeap) => H = H_1 ∧ isCnt k ∧ cnt k ≤ (μ : Int) ∧ p_impl_expWide x = p_impl_expWide_l1 x (μ + 1) p k) (Int.toNat (cnt 4622945017495814144)) _ _ _ _ _ _ _ _ _ _ _ _ H ?_ ?_
      · exact ⟨rfl, (by first | omega | (simp; done) | (simp; omega) | (first | exact isCnt.of (n := 12) (by decide) (by decide) | exact (down1 (by assumption) (by assumption)).1)), o4, e⟩
      · intro μ p k g15 g16 g17 g18 g19 g20 g21 g22 g23 g24 H_1 hI
        obtain ⟨rfl, v_3, hμ, e⟩ := hI
        rw [impl_expWide_r1]
        have e := e.trans (p_impl_expWide_l1_s x μ p k)
        have l_4 := g0.1
        refine Br.intro (fun c_5 => ?_) (fun c_5 => ?_)
        · have e := e.trans (cond_t c_5)
          refine impl_expWide_n1 (μ - 1) o16 ⟨rfl, (by first | omega | (first | exact isCnt.of (n := 12) (by decide) (by decide) | exact (down1 (by assumption) (by assumption)).1) | (simp only [List.length_append, List.length_cons, List.length_nil, List.length_set]; done) | (simp only [List.length_append, List.length_cons, List.length_nil, List.length_set]; omega)), o16, (by rw [show μ - 1 + 1 = μ from by first | omega | (have := down1 (by assumption) (by assumption); omega)]; exact e)⟩
        · have e := e.trans (cond_f c_5)
          rw [impl_expWide_x1_1]
          refine impl_expWide_L2 _ _ _ _ _ _ _ _ _ _ _ _ (fun (μ2 : Nat) (p_4 : Nat) (t25 : Int) (H_2 : AHeap) => H = H_2 ∧ (0 : Int) ≤ t25 ∧ ((t25 ≤ 8 ∨ t25 ≤ (0 : Int))) ∧ 8 - t25 ≤ (μ2 : Int) ∧ p_impl_expWide x = p_impl_expWide_l2 x p k (fun (p_4 : Nat) (t25 : Int) => p_4) (μ2 + 1) p_4 t25) (Int.toNat (8 - (0 : Int))) _ _ _ _ _ _ _ H ?_ ?_
          · exact ⟨rfl, o5, o5, o4, e⟩
          · intro μ2 p_4 t25 g26 g27 g28 g29 g30 H_2 hI
            obtain ⟨rfl, v_6, v_7, hμ, e⟩ := hI
            rw [impl_expWide_r2]
            have e := e.trans (p_impl_expWide_l2_s x p k (fun (p_4 : Nat) (t25 : Int) => p_4) μ2 p_4 t25)
            have l_8 := g0.1
            refine Br.intro (fun c_9 => ?_) (fun c_9 => ?_)
            · have e := e.trans (cond_t c_9)
              have c_9' := of_decide_eq_true c_9
              rw [show IntKind.wrap .i64 (t25 + 1) = (t25 + 1) from wrap64 o4 o4]
              refine impl_expWide_n2 (μ2 - 1) o12 ⟨rfl, o1, o1, o12, (by rw [show μ2 - 1 + 1 = μ2 from by first | omega]; exact e)⟩
            · have e := e.trans (cond_f c_9)
              have c_9' := of_decide_eq_false c_9
              rw [impl_expWide_x2_3]
              rw [e] at hk
              exact hk
theorem impl_expWide_ok : FnOk Try.prog 184 S_impl_expWide := by
  refine FnOk.body mix_ok E_impl_expWide_ok Try.func184 rfl (by kernel_rfl) (by kernel_rfl) ?_ ?_ ?_ ?_ ?_
  · intro args H K K' h hk
    simp only [S_impl_expWide] at *
    unfold F_impl_expWide at *
    split at hk
    · have k := hk
      exact h _ _ k
    · exact hk.elim
  · intro _ args H K hk
    simp only [S_impl_expWide] at *
    unfold F_impl_expWide at *
    split at hk
    · have k := hk
      exact ⟨_, k, fun K' k' => k'⟩
    · exact hk.elim
  · intro args H K hk
    simp only [S_impl_expWide] at *
    unfold F_impl_expWide at *
    split at hk
    · have k := hk
      exact ⟨_, _, k⟩
    · exact hk.elim
  · intro hq; cases hq
  · have mm := @impl_expWide_main
    revert mm
    generalize bodyK Try.prog E_impl_expWide Try.f184 = Q
    intro mm args H K hk
    simp only [S_impl_expWide] at *
    unfold F_impl_expWide at *
    split at hk
    · exact mm _ H K hk
    · exact hk.elim

def p_impl_expOf (x : Nat) : Nat := (p_impl_expWide (fwide x))
def p_impl_expOf_eq := @p_impl_expOf.eq_1
def T_impl_expOf (x : Nat) (H : AHeap) (K : Nat → AHeap → Prop) : Prop := K (p_impl_expOf x) H
theorem T_impl_expOf_i {x : Nat} {H : AHeap} {K : Nat → AHeap → Prop} (h : K (p_impl_expOf x) H) : T_impl_expOf x H K := h

/-! impl_expOf: function 157 -/
def E_impl_expOf : Env := envOf [(184, S_impl_expWide)]
def F_impl_expOf : List Value → AHeap → (Value → AHeap → Prop) → Prop
  | [.float .f32 x], H, K => T_impl_expOf x H fun (r1 : Nat) (H' : AHeap) => K (.float .f64 r1) H'
  | _, _, _ => False
def S_impl_expOf : FSpec := { F := F_impl_expOf, quiet := true, tame := false }
theorem impl_expOf_vc (x : Nat) (H : AHeap) (K : Value → AHeap → Prop) : bodyK Try.prog E_impl_expOf Try.f157 [.float .f32 x] H K =
  (T_impl_expWide (fwide x) H fun (r1 : Nat) (H1 : AHeap) => K (.float .f64 r1) H1) := by kernel_rfl
theorem E_impl_expOf_ok : ∀ g, FnOk Try.prog g (E_impl_expOf g) := FnOk.envOf (by
  intro x hx
  simp only [List.mem_cons, List.not_mem_nil, or_false] at hx
  subst hx; exact impl_expWide_ok)
set_option maxHeartbeats 1000000 in
theorem impl_expOf_main (x : Nat) (H : AHeap) (K : Value → AHeap → Prop) (h : T_impl_expOf x H fun (r1 : Nat) (H' : AHeap) => K (.float .f64 r1) H') : bodyK Try.prog E_impl_expOf Try.f157 [.float .f32 x] H K := by
  rw [impl_expOf_vc]
  have hk := h
  unfold T_impl_expOf at hk
  have e : (p_impl_expOf x) = _ := rfl
  have e := e.trans (p_impl_expOf_eq x)
  have g0 := Grow.refl H
  refine T_impl_expWide_i ?_
  rw [e] at hk
  exact hk
theorem impl_expOf_ok : FnOk Try.prog 157 S_impl_expOf := by
  refine FnOk.body mix_ok E_impl_expOf_ok Try.func157 rfl (by kernel_rfl) (by kernel_rfl) ?_ ?_ ?_ ?_ ?_
  · intro args H K K' h hk
    simp only [S_impl_expOf] at *
    unfold F_impl_expOf at *
    split at hk
    · have k := hk
      exact h _ _ k
    · exact hk.elim
  · intro _ args H K hk
    simp only [S_impl_expOf] at *
    unfold F_impl_expOf at *
    split at hk
    · have k := hk
      exact ⟨_, k, fun K' k' => k'⟩
    · exact hk.elim
  · intro args H K hk
    simp only [S_impl_expOf] at *
    unfold F_impl_expOf at *
    split at hk
    · have k := hk
      exact ⟨_, _, k⟩
    · exact hk.elim
  · intro hq; cases hq
  · have mm := @impl_expOf_main
    revert mm
    generalize bodyK Try.prog E_impl_expOf Try.f157 = Q
    intro mm args H K hk
    simp only [S_impl_expOf] at *
    unfold F_impl_expOf at *
    split at hk
    · exact mm _ H K hk
    · exact hk.elim

def p_impl_ExpNumber (x : Nat) : Nat := ((fnarrow (p_impl_expOf x)).getD 0)
def p_impl_ExpNumber_eq := @p_impl_ExpNumber.eq_1
def T_impl_ExpNumber (x : Nat) (H : AHeap) (K : Nat → AHeap → Prop) : Prop := fnarrow (p_impl_expOf x) ≠ none ∧ K (p_impl_ExpNumber x) H
theorem T_impl_ExpNumber_i {x : Nat} {H : AHeap} {K : Nat → AHeap → Prop} (h : fnarrow (p_impl_expOf x) ≠ none ∧ K (p_impl_ExpNumber x) H) : T_impl_ExpNumber x H K := h

/-! impl_ExpNumber: function 114 -/
def E_impl_ExpNumber : Env := envOf [(157, S_impl_expOf)]
def F_impl_ExpNumber : List Value → AHeap → (Value → AHeap → Prop) → Prop
  | [.float .f32 x], H, K => T_impl_ExpNumber x H fun (r1 : Nat) (H' : AHeap) => K (.float .f32 r1) H'
  | _, _, _ => False
def S_impl_ExpNumber : FSpec := { F := F_impl_ExpNumber, quiet := true, tame := false }
theorem impl_ExpNumber_vc (x : Nat) (H : AHeap) (K : Value → AHeap → Prop) : bodyK Try.prog E_impl_ExpNumber Try.f114 [.float .f32 x] H K =
  (T_impl_expOf x H fun (r1 : Nat) (H1 : AHeap) => ∃ x1 : Nat, fnarrow r1 = some x1 ∧ K (.float .f32 x1) H1) := by kernel_rfl
theorem E_impl_ExpNumber_ok : ∀ g, FnOk Try.prog g (E_impl_ExpNumber g) := FnOk.envOf (by
  intro x hx
  simp only [List.mem_cons, List.not_mem_nil, or_false] at hx
  subst hx; exact impl_expOf_ok)
set_option maxHeartbeats 1000000 in
theorem impl_ExpNumber_main (x : Nat) (H : AHeap) (K : Value → AHeap → Prop) (h : T_impl_ExpNumber x H fun (r1 : Nat) (H' : AHeap) => K (.float .f32 r1) H') : bodyK Try.prog E_impl_ExpNumber Try.f114 [.float .f32 x] H K := by
  rw [impl_ExpNumber_vc]
  obtain ⟨pr0, hk⟩ := h
  have e : (p_impl_ExpNumber x) = _ := rfl
  have e := e.trans (p_impl_ExpNumber_eq x)
  have g0 := Grow.refl H
  refine T_impl_expOf_i ?_
  refine ⟨_, opt_get (d := 0) (by assumption), ?_⟩
  rw [e] at hk
  exact hk
theorem impl_ExpNumber_ok : FnOk Try.prog 114 S_impl_ExpNumber := by
  refine FnOk.body mix_ok E_impl_ExpNumber_ok Try.func114 rfl (by kernel_rfl) (by kernel_rfl) ?_ ?_ ?_ ?_ ?_
  · intro args H K K' h hk
    simp only [S_impl_ExpNumber] at *
    unfold F_impl_ExpNumber at *
    split at hk
    · obtain ⟨pr0, k⟩ := hk
      exact ⟨pr0, h _ _ k⟩
    · exact hk.elim
  · intro _ args H K hk
    simp only [S_impl_ExpNumber] at *
    unfold F_impl_ExpNumber at *
    split at hk
    · obtain ⟨pr0, k⟩ := hk
      exact ⟨_, k, fun K' k' => ⟨pr0, k'⟩⟩
    · exact hk.elim
  · intro args H K hk
    simp only [S_impl_ExpNumber] at *
    unfold F_impl_ExpNumber at *
    split at hk
    · obtain ⟨pr0, k⟩ := hk
      exact ⟨_, _, k⟩
    · exact hk.elim
  · intro hq; cases hq
  · have mm := @impl_ExpNumber_main
    revert mm
    generalize bodyK Try.prog E_impl_ExpNumber Try.f114 = Q
    intro mm args H K hk
    simp only [S_impl_ExpNumber] at *
    unfold F_impl_ExpNumber at *
    split at hk
    · exact mm _ H K hk
    · exact hk.elim
def p_impl_isFinite64 (x : Nat) : Bool := feq .f64 (fsub .f64 x x) 0
def p_impl_isFinite64_eq := @p_impl_isFinite64.eq_1
def T_impl_isFinite64 (x : Nat) (H : AHeap) (K : Bool → AHeap → Prop) : Prop := K (p_impl_isFinite64 x) H

theorem T_impl_isFinite64_i {x : Nat} {H : AHeap} {K : Bool → AHeap → Prop} (h : K (p_impl_isFinite64 x) H) : T_impl_isFinite64 x H K := h
/-! impl_isFinite64: function 158 -/
def E_impl_isFinite64 : Env := envOf []
def F_impl_isFinite64 : List Value → AHeap → (Value → AHeap → Prop) → Prop
  | [.float .f64 x], H, K => T_impl_isFinite64 x H fun (r1 : Bool) (H' : AHeap) => K (.bool r1) H'
  | _, _, _ => False
def S_impl_isFinite64 : FSpec := { F := F_impl_isFinite64, quiet := true, tame := false }
theorem impl_isFinite64_vc (x : Nat) (H : AHeap) (K : Value → AHeap → Prop) : bodyK Try.prog E_impl_isFinite64 Try.f158 [.float .f64 x] H K =
  (K (.bool (feq .f64 (fsub .f64 x x) 0)) H) := by kernel_rfl
theorem E_impl_isFinite64_ok : ∀ g, FnOk Try.prog g (E_impl_isFinite64 g) := FnOk.envOf (by
  intro x hx; cases hx)
set_option maxHeartbeats 1000000 in
theorem impl_isFinite64_main (x : Nat) (H : AHeap) (K : Value → AHeap → Prop) (h : T_impl_isFinite64 x H fun (r1 : Bool) (H' : AHeap) => K (.bool r1) H') : bodyK Try.prog E_impl_isFinite64 Try.f158 [.float .f64 x] H K := by
  rw [impl_isFinite64_vc]
  unfold T_impl_isFinite64 p_impl_isFinite64 at h
  repeat' (first | exact h | (exfalso; simp_all; done) | (refine ⟨by decide, ?_⟩) | (refine Br.intro (fun hb => ?_) (fun hb => ?_) <;> (try simp only [hb, cond_true, cond_false, Bool.not_true, Bool.not_false] at h)))
theorem impl_isFinite64_ok : FnOk Try.prog 158 S_impl_isFinite64 := by
  refine FnOk.body mix_ok E_impl_isFinite64_ok Try.func158 rfl (by kernel_rfl) (by kernel_rfl) ?_ ?_ ?_ ?_ ?_
  · intro args H K K' h hk
    simp only [S_impl_isFinite64] at *
    unfold F_impl_isFinite64 at *
    split at hk
    · have k := hk
      exact h _ _ k
    · exact hk.elim
  · intro _ args H K hk
    simp only [S_impl_isFinite64] at *
    unfold F_impl_isFinite64 at *
    split at hk
    · have k := hk
      exact ⟨_, k, fun K' k' => k'⟩
    · exact hk.elim
  · intro args H K hk
    simp only [S_impl_isFinite64] at *
    unfold F_impl_isFinite64 at *
    split at hk
    · have k := hk
      exact ⟨_, _, k⟩
    · exact hk.elim
  · intro hq; cases hq
  · have mm := @impl_isFinite64_main
    revert mm
    generalize bodyK Try.prog E_impl_isFinite64 Try.f158 = Q
    intro mm args H K hk
    simp only [S_impl_isFinite64] at *
    unfold F_impl_isFinite64 at *
    split at hk
    · exact mm _ H K hk
    · exact hk.elim
def T_math_Float64bits (x : Nat) (H : AHeap) (K : Int → AHeap → Prop) : Prop := ∀ b : Nat, cn .f64 b = cn .f64 x → K (b : Int) H
def F_math_Float64bits : List Value → AHeap → (Value → AHeap → Prop) → Prop
  | [.float .f64 x], H, K => T_math_Float64bits x H fun r1 H' => K (.int .u64 r1) H'
  | _, _, _ => False
def S_math_Float64bits : FSpec := { F := F_math_Float64bits, quiet := false }
theorem F_math_Float64bits_o {args : List Value} {H : AHeap} {K : Value → AHeap → Prop} (h : S_math_Float64bits.F args H K) : ∃ x, args = [.float .f64 x] ∧ ∀ b : Nat, cn .f64 b = cn .f64 x → K (.int .u64 (b : Int)) H := by
  simp only [S_math_Float64bits] at h
  unfold F_math_Float64bits at h
  split at h
  · exact ⟨_, rfl, h⟩
  · exact h.elim
theorem math_Float64bits_ok : FnOk Try.prog 186 S_math_Float64bits := by
  refine FnOk.ext rfl ?_ ?_ ?_ ?_
  · intro args H K K' h hk
    obtain ⟨x, rfl, k⟩ := F_math_Float64bits_o hk
    exact fun b hb => h _ _ (k b hb)
  · intro h; cases h
  · intro args H K hk
    obtain ⟨x, rfl, k⟩ := F_math_Float64bits_o hk
    exact ⟨_, _, k x rfl⟩
  · intro ρ w args args' H K ha hk
    obtain ⟨x, rfl, k⟩ := F_math_Float64bits_o hk
    obtain ⟨y, ys, rfl, h3, h4⟩ := ha.uncons
    obtain rfl := h4.unnil
    cases h3 with
    | float k0 a b hab =>
      refine ⟨_, .int .u64 b, w, ?_, .refl w, .int .u64 _, k b (by rw [hab, cn_cn])⟩
      have := run_callFunc_extern (e := Extern.MathFloatBits.float64bits) Try.func186 (by kernel_rfl) (by kernel_rfl) (by kernel_rfl) (by kernel_rfl) #[.float .f64 b] w
      rw [this]; rfl

def p_math_Abs (x : Nat) : Nat := cn .f64 (cn .f64 x % 9223372036854775808)
def T_math_Abs (x : Nat) (H : AHeap) (K : Nat → AHeap → Prop) : Prop := K (p_math_Abs x) H
theorem T_math_Abs_i {x : Nat} {H : AHeap} {K : Nat → AHeap → Prop} (h : K (p_math_Abs x) H) : T_math_Abs x H K := h
/-! math_Abs: function 160 -/
def E_math_Abs : Env := envOf [(186, S_math_Float64bits), (185, S_math_Float64frombits)]
def F_math_Abs : List Value → AHeap → (Value → AHeap → Prop) → Prop
  | [.float .f64 x], H, K => T_math_Abs x H fun (r1 : Nat) (H' : AHeap) => K (.float .f64 r1) H'
  | _, _, _ => False
def S_math_Abs : FSpec := { F := F_math_Abs, quiet := true, tame := false }
theorem math_Abs_vc (x : Nat) (H : AHeap) (K : Value → AHeap → Prop) : bodyK Try.prog E_math_Abs Try.f160 [.float .f64 x] H K =
  (T_math_Float64bits x H fun (r1 : Int) (H1 : AHeap) => T_math_Float64frombits (IntKind.wrap .u64 (((BitVec.ofInt (IntKind.bits .u64) r1 &&& ~~~(BitVec.ofInt (IntKind.bits .u64) 9223372036854775808)).toNat : Int))) H1 fun (r2 : Nat) (H2 : AHeap) => K (.float .f64 r2) H2) := by kernel_rfl
theorem E_math_Abs_ok : ∀ g, FnOk Try.prog g (E_math_Abs g) := FnOk.envOf (by
  intro x hx
  simp only [List.mem_cons, List.not_mem_nil, or_false] at hx
  rcases hx with rfl | rfl
  · exact math_Float64bits_ok
  · exact math_Float64frombits_ok)
theorem abs_bits (b : Nat) : (IntKind.wrap .u64 (((BitVec.ofInt (IntKind.bits .u64) (b : Int) &&& ~~~(BitVec.ofInt (IntKind.bits .u64) 9223372036854775808)).toNat : Int))).toNat = b % 9223372036854775808 := by
  have e : (BitVec.ofInt (IntKind.bits .u64) (b : Int) &&& ~~~(BitVec.ofInt (IntKind.bits .u64) 9223372036854775808)).toNat = b % 9223372036854775808 := by
    show (BitVec.ofInt 64 (b : Int) &&& ~~~(BitVec.ofInt 64 9223372036854775808)).toNat = _
    have h1 : (~~~(BitVec.ofInt 64 9223372036854775808)).toNat = 2 ^ 63 - 1 := by decide
    have h2 : (BitVec.ofInt 64 (b : Int)).toNat = b % 2 ^ 64 := by simp
    rw [BitVec.toNat_and, h1, h2, Nat.and_two_pow_sub_one_eq_mod]
    omega
  rw [e, wrapu_id o4 o4]
  omega
theorem abs_cn {b x : Nat} (h : cn .f64 b = cn .f64 x) : cn .f64 (b % 9223372036854775808) = cn .f64 (cn .f64 x % 9223372036854775808) := by
  rw [← h]
  cases hn : (FloatKind.f64.decode b).isNaN
  · rw [cn_of_not_nan hn]
  · rw [cn_of_nan hn]
    have : (FloatKind.f64.decode (b % 9223372036854775808)).isNaN = true := by
      rw [nan_iff] at hn ⊢
      have e1 : FloatKind.f64.format.signWeight = 9223372036854775808 := by decide
      rw [e1] at hn ⊢
      rw [Nat.mod_mod]; exact hn
    rw [cn_of_nan this]
    decide +kernel
set_option maxHeartbeats 1000000 in
theorem math_Abs_main (x : Nat) (H : AHeap) (K : Value → AHeap → Prop) (h : T_math_Abs x H fun (r1 : Nat) (H' : AHeap) => K (.float .f64 r1) H') : bodyK Try.prog E_math_Abs Try.f160 [.float .f64 x] H K := by
  rw [math_Abs_vc]
  intro b hb
  show K (.float .f64 (cn .f64 (IntKind.wrap .u64 (((BitVec.ofInt (IntKind.bits .u64) (b : Int) &&& ~~~(BitVec.ofInt (IntKind.bits .u64) 9223372036854775808)).toNat : Int))).toNat)) H
  rw [abs_bits, abs_cn hb]
  exact h
theorem math_Abs_ok : FnOk Try.prog 160 S_math_Abs := by
  refine FnOk.body mix_ok E_math_Abs_ok Try.func160 rfl (by kernel_rfl) (by kernel_rfl) ?_ ?_ ?_ ?_ ?_
  · intro args H K K' h hk
    simp only [S_math_Abs] at *
    unfold F_math_Abs at *
    split at hk
    · have k := hk
      exact h _ _ k
    · exact hk.elim
  · intro _ args H K hk
    simp only [S_math_Abs] at *
    unfold F_math_Abs at *
    split at hk
    · have k := hk
      exact ⟨_, k, fun K' k' => k'⟩
    · exact hk.elim
  · intro args H K hk
    simp only [S_math_Abs] at *
    unfold F_math_Abs at *
    split at hk
    · have k := hk
      exact ⟨_, _, k⟩
    · exact hk.elim
  · intro hq; cases hq
  · have mm := @math_Abs_main
    revert mm
    generalize bodyK Try.prog E_math_Abs Try.f160 = Q
    intro mm args H K hk
    simp only [S_math_Abs] at *
    unfold F_math_Abs at *
    split at hk
    · exact mm _ H K hk
    · exact hk.elim

def p_impl_fraction (x : Nat) : Nat := (bif flt .f64 (fsub .f64 x (FloatKind.nearest .f64 (((ftoi .f64 x .i64).getD 0)))) 0 then fadd .f64 (fsub .f64 x (FloatKind.nearest .f64 (((ftoi .f64 x .i64).getD 0)))) 4607182418800017408 else fsub .f64 x (FloatKind.nearest .f64 (((ftoi .f64 x .i64).getD 0))))
def p_impl_fraction_eq := @p_impl_fraction.eq_1
def T_impl_fraction (x : Nat) (H : AHeap) (K : Nat → AHeap → Prop) : Prop := Bd .f64 (52 + lp .f64) x ∧ K (p_impl_fraction x) H
theorem T_impl_fraction_i {x : Nat} {H : AHeap} {K : Nat → AHeap → Prop} (h : Bd .f64 (52 + lp .f64) x ∧ K (p_impl_fraction x) H) : T_impl_fraction x H K := h
theorem impl_fraction_bd (x : Nat) (h : Bd .f64 (52 + lp .f64) x) : Bd .f64 (lp .f64) (p_impl_fraction x) := by
  rw [p_impl_fraction_eq]
  obtain ⟨n, hn, h1, h2⟩ := fract h
  rw [hn]
  show Bd .f64 (lp .f64) (bif flt .f64 (fsub .f64 x (FloatKind.nearest .f64 n)) 0 then _ else _)
  cases hc : flt .f64 (fsub .f64 x (FloatKind.nearest .f64 n)) 0
  · exact h1
  · exact h2 hc
/-! impl_fraction: function 161 -/
def E_impl_fraction : Env := envOf []
def F_impl_fraction : List Value → AHeap → (Value → AHeap → Prop) → Prop
  | [.float .f64 x], H, K => T_impl_fraction x H fun (r1 : Nat) (H' : AHeap) => K (.float .f64 r1) H'
  | _, _, _ => False
def S_impl_fraction : FSpec := { F := F_impl_fraction, quiet := true, tame := false }
theorem impl_fraction_vc (x : Nat) (H : AHeap) (K : Value → AHeap → Prop) : bodyK Try.prog E_impl_fraction Try.f161 [.float .f64 x] H K =
  (∃ n1 : Int, ftoi .f64 x .i64 = some n1 ∧ Br (flt .f64 (fsub .f64 x (FloatKind.nearest .f64 n1)) 0) (K (.float .f64 (fadd .f64 (fsub .f64 x (FloatKind.nearest .f64 n1)) 4607182418800017408)) H) (K (.float .f64 (fsub .f64 x (FloatKind.nearest .f64 n1))) H)) := by kernel_rfl
theorem E_impl_fraction_ok : ∀ g, FnOk Try.prog g (E_impl_fraction g) := FnOk.envOf (by
  intro x hx; cases hx)
set_option maxHeartbeats 1000000 in
theorem impl_fraction_main (x : Nat) (H : AHeap) (K : Value → AHeap → Prop) (h : T_impl_fraction x H fun (r1 : Nat) (H' : AHeap) => K (.float .f64 r1) H') : bodyK Try.prog E_impl_fraction Try.f161 [.float .f64 x] H K := by
  rw [impl_fraction_vc]
  obtain ⟨pr0, hk⟩ := h
  have e : (p_impl_fraction x) = _ := rfl
  have e := e.trans (p_impl_fraction_eq x)
  have g0 := Grow.refl H
  refine ⟨_, opt_get (d := 0) (by exact fract_ne (by assumption)), ?_⟩
  refine Br.intro (fun c_1 => ?_) (fun c_1 => ?_)
  · have e := e.trans (cond_t c_1)
    rw [e] at hk
    exact hk
  · have e := e.trans (cond_f c_1)
    rw [e] at hk
    exact hk
theorem impl_fraction_ok : FnOk Try.prog 161 S_impl_fraction := by
  refine FnOk.body mix_ok E_impl_fraction_ok Try.func161 rfl (by kernel_rfl) (by kernel_rfl) ?_ ?_ ?_ ?_ ?_
  · intro args H K K' h hk
    simp only [S_impl_fraction] at *
    unfold F_impl_fraction at *
    split at hk
    · obtain ⟨pr0, k⟩ := hk
      exact ⟨pr0, h _ _ k⟩
    · exact hk.elim
  · intro _ args H K hk
    simp only [S_impl_fraction] at *
    unfold F_impl_fraction at *
    split at hk
    · obtain ⟨pr0, k⟩ := hk
      exact ⟨_, k, fun K' k' => ⟨pr0, k'⟩⟩
    · exact hk.elim
  · intro args H K hk
    simp only [S_impl_fraction] at *
    unfold F_impl_fraction at *
    split at hk
    · obtain ⟨pr0, k⟩ := hk
      exact ⟨_, _, k⟩
    · exact hk.elim
  · intro hq; cases hq
  · have mm := @impl_fraction_main
    revert mm
    generalize bodyK Try.prog E_impl_fraction Try.f161 = Q
    intro mm args H K hk
    simp only [S_impl_fraction] at *
    unfold F_impl_fraction at *
    split at hk
    · exact mm _ H K hk
    · exact hk.elim

def p_impl_sine_l1 (x : Nat) : Nat → Nat → Nat → Nat
  | 0, _, _ => 0
  | μ + 1, p, k => (bif fle .f64 4607182418800017408 k then (p_impl_sine_l1 x μ (fsub .f64 4607182418800017408 (fdiv .f64 (fmul .f64 (fmul .f64 (fmul .f64 (fsub .f64 4602678819172646912 (fsub .f64 (p_impl_fraction x) 4602678819172646912)) 4618760256179416344) (fmul .f64 (fsub .f64 4602678819172646912 (fsub .f64 (p_impl_fraction x) 4602678819172646912)) 4618760256179416344)) p) (fmul .f64 (fmul .f64 4611686018427387904 k) (fadd .f64 (fmul .f64 4611686018427387904 k) 4607182418800017408)))) (fsub .f64 k 4607182418800017408)) else (bif fle .f64 4602678819172646912 (p_impl_fraction x) then fneg .f64 (fmul .f64 (fmul .f64 (fsub .f64 4602678819172646912 (fsub .f64 (p_impl_fraction x) 4602678819172646912)) 4618760256179416344) p) else fmul .f64 (fmul .f64 (fsub .f64 4602678819172646912 (fsub .f64 (p_impl_fraction x) 4602678819172646912)) 4618760256179416344) p))
def p_impl_sine_l1_s := fun x μ p k => @p_impl_sine_l1.eq_2 x p k μ
def p_impl_sine_l1b (x : Nat) : Nat → Nat → Nat → Nat
  | 0, _, _ => 0
  | μ + 1, p, k => (bif fle .f64 4607182418800017408 k then (p_impl_sine_l1b x μ (fsub .f64 4607182418800017408 (fdiv .f64 (fmul .f64 (fmul .f64 (fmul .f64 (fsub .f64 (p_impl_fraction x) 4602678819172646912) 4618760256179416344) (fmul .f64 (fsub .f64 (p_impl_fraction x) 4602678819172646912) 4618760256179416344)) p) (fmul .f64 (fmul .f64 4611686018427387904 k) (fadd .f64 (fmul .f64 4611686018427387904 k) 4607182418800017408)))) (fsub .f64 k 4607182418800017408)) else (bif fle .f64 4602678819172646912 (p_impl_fraction x) then fneg .f64 (fmul .f64 (fmul .f64 (fsub .f64 (p_impl_fraction x) 4602678819172646912) 4618760256179416344) p) else fmul .f64 (fmul .f64 (fsub .f64 (p_impl_fraction x) 4602678819172646912) 4618760256179416344) p))
def p_impl_sine_l1b_s := fun x μ p k => @p_impl_sine_l1b.eq_2 x p k μ
def p_impl_sine_l1c (x : Nat) : Nat → Nat → Nat → Nat
  | 0, _, _ => 0
  | μ + 1, p, k => (bif fle .f64 4607182418800017408 k then (p_impl_sine_l1c x μ (fsub .f64 4607182418800017408 (fdiv .f64 (fmul .f64 (fmul .f64 (fmul .f64 (fsub .f64 4602678819172646912 (p_impl_fraction x)) 4618760256179416344) (fmul .f64 (fsub .f64 4602678819172646912 (p_impl_fraction x)) 4618760256179416344)) p) (fmul .f64 (fmul .f64 4611686018427387904 k) (fadd .f64 (fmul .f64 4611686018427387904 k) 4607182418800017408)))) (fsub .f64 k 4607182418800017408)) else (bif fle .f64 4602678819172646912 (p_impl_fraction x) then fneg .f64 (fmul .f64 (fmul .f64 (fsub .f64 4602678819172646912 (p_impl_fraction x)) 4618760256179416344) p) else fmul .f64 (fmul .f64 (fsub .f64 4602678819172646912 (p_impl_fraction x)) 4618760256179416344) p))
def p_impl_sine_l1c_s := fun x μ p k => @p_impl_sine_l1c.eq_2 x p k μ
def p_impl_sine_l1d (x : Nat) : Nat → Nat → Nat → Nat
  | 0, _, _ => 0
  | μ + 1, p, k => (bif fle .f64 4607182418800017408 k then (p_impl_sine_l1d x μ (fsub .f64 4607182418800017408 (fdiv .f64 (fmul .f64 (fmul .f64 (fmul .f64 (p_impl_fraction x) 4618760256179416344) (fmul .f64 (p_impl_fraction x) 4618760256179416344)) p) (fmul .f64 (fmul .f64 4611686018427387904 k) (fadd .f64 (fmul .f64 4611686018427387904 k) 4607182418800017408)))) (fsub .f64 k 4607182418800017408)) else (bif fle .f64 4602678819172646912 (p_impl_fraction x) then fneg .f64 (fmul .f64 (fmul .f64 (p_impl_fraction x) 4618760256179416344) p) else fmul .f64 (fmul .f64 (p_impl_fraction x) 4618760256179416344) p))
def p_impl_sine_l1d_s := fun x μ p k => @p_impl_sine_l1d.eq_2 x p k μ
def p_impl_sine (x : Nat) : Nat := (bif fle .f64 4602678819172646912 (p_impl_fraction x) then (bif flt .f64 4598175219545276416 (fsub .f64 (p_impl_fraction x) 4602678819172646912) then (p_impl_sine_l1 x (Int.toNat (cnt 4620693217682128896) + 1) 4607182418800017408 4620693217682128896) else (p_impl_sine_l1b x (Int.toNat (cnt 4620693217682128896) + 1) 4607182418800017408 4620693217682128896)) else (bif flt .f64 4598175219545276416 (p_impl_fraction x) then (p_impl_sine_l1c x (Int.toNat (cnt 4620693217682128896) + 1) 4607182418800017408 4620693217682128896) else (p_impl_sine_l1d x (Int.toNat (cnt 4620693217682128896) + 1) 4607182418800017408 4620693217682128896)))
def p_impl_sine_eq := @p_impl_sine.eq_1
def T_impl_sine (x : Nat) (H : AHeap) (K : Nat → AHeap → Prop) : Prop := Bd .f64 (52 + lp .f64) x ∧ K (p_impl_sine x) H
theorem T_impl_sine_i {x : Nat} {H : AHeap} {K : Nat → AHeap → Prop} (h : Bd .f64 (52 + lp .f64) x ∧ K (p_impl_sine x) H) : T_impl_sine x H K := h
theorem impl_sine_l1_eq (x : Nat) : ∀ μ p k : Nat, p_impl_sine_l1 x μ p k = sinG (fmul .f64 (fsub .f64 4602678819172646912 (fsub .f64 (p_impl_fraction x) 4602678819172646912)) 4618760256179416344) (fle .f64 4602678819172646912 (p_impl_fraction x)) μ p k := by
  intro μ; induction μ with
  | zero => intro p k; rfl
  | succ μ ih => intro p k; rw [p_impl_sine_l1_s, sinG, ih]
theorem impl_sine_l1b_eq (x : Nat) : ∀ μ p k : Nat, p_impl_sine_l1b x μ p k = sinG (fmul .f64 (fsub .f64 (p_impl_fraction x) 4602678819172646912) 4618760256179416344) (fle .f64 4602678819172646912 (p_impl_fraction x)) μ p k := by
  intro μ; induction μ with
  | zero => intro p k; rfl
  | succ μ ih => intro p k; rw [p_impl_sine_l1b_s, sinG, ih]
theorem impl_sine_l1c_eq (x : Nat) : ∀ μ p k : Nat, p_impl_sine_l1c x μ p k = sinG (fmul .f64 (fsub .f64 4602678819172646912 (p_impl_fraction x)) 4618760256179416344) (fle .f64 4602678819172646912 (p_impl_fraction x)) μ p k := by
  intro μ; induction μ with
  | zero => intro p k; rfl
  | succ μ ih => intro p k; rw [p_impl_sine_l1c_s, sinG, ih]
theorem impl_sine_l1d_eq (x : Nat) : ∀ μ p k : Nat, p_impl_sine_l1d x μ p k = sinG (fmul .f64 (p_impl_fraction x) 4618760256179416344) (fle .f64 4602678819172646912 (p_impl_fraction x)) μ p k := by
  intro μ; induction μ with
  | zero => intro p k; rfl
  | succ μ ih => intro p k; rw [p_impl_sine_l1d_s, sinG, ih]
theorem cnt8 : Int.toNat (cnt 4620693217682128896) + 1 = 9 := by decide +kernel
theorem impl_sine_val (x : Nat) : p_impl_sine x = sineOf (p_impl_fraction x) := by
  rw [p_impl_sine_eq, cnt8, eight_near, impl_sine_l1_eq, impl_sine_l1b_eq, impl_sine_l1c_eq, impl_sine_l1d_eq]
  simp only [sin_int _ _ _ _ 8 o22 o22]
  exact sineOf_bif _
theorem impl_sine_bd (x : Nat) (h : Bd .f64 (52 + lp .f64) x) : Bd .f64 1140 (p_impl_sine x) := by
  rw [impl_sine_val]; exact sineOf_bd (impl_fraction_bd x h)
/-! impl_sine: function 162 -/
def E_impl_sine : Env := envOf [(161, S_impl_fraction)]
def F_impl_sine : List Value → AHeap → (Value → AHeap → Prop) → Prop
  | [.float .f64 x], H, K => T_impl_sine x H fun (r1 : Nat) (H' : AHeap) => K (.float .f64 r1) H'
  | _, _, _ => False
def S_impl_sine : FSpec := { F := F_impl_sine, quiet := true, tame := false }
theorem impl_sine_vc (x : Nat) (H : AHeap) (K : Value → AHeap → Prop) : bodyK Try.prog E_impl_sine Try.f162 [.float .f64 x] H K =
  (T_impl_fraction x H fun (r1 : Nat) (H1 : AHeap) => Br (fle .f64 4602678819172646912 r1) (Br (flt .f64 4598175219545276416 (fsub .f64 r1 4602678819172646912)) (loopK (exK Try.prog E_impl_sine (cl (cl (cr (cl (cr (cr (cr (cr (cr (cr (cr (cr (bodyC Try.f162)))))))))))))) [.float .f64 x, undef, .float .f64 0, .float .f64 (fsub .f64 4602678819172646912 (fsub .f64 r1 4602678819172646912)), .bool (fle .f64 4602678819172646912 r1), .float .f64 (fmul .f64 (fsub .f64 4602678819172646912 (fsub .f64 r1 4602678819172646912)) 4618760256179416344), .float .f64 (fmul .f64 (fmul .f64 (fsub .f64 4602678819172646912 (fsub .f64 r1 4602678819172646912)) 4618760256179416344) (fmul .f64 (fsub .f64 4602678819172646912 (fsub .f64 r1 4602678819172646912)) 4618760256179416344)), .float .f64 4607182418800017408, .float .f64 4620693217682128896, .float .f64 x, .float .f64 r1, .float .f64 r1, .bool (fle .f64 4602678819172646912 r1), .bool (fle .f64 4602678819172646912 r1), .float .f64 r1, .float .f64 (fsub .f64 r1 4602678819172646912), .float .f64 (fsub .f64 r1 4602678819172646912), .bool (flt .f64 4598175219545276416 (fsub .f64 r1 4602678819172646912)), .float .f64 (fsub .f64 r1 4602678819172646912), .float .f64 (fsub .f64 4602678819172646912 (fsub .f64 r1 4602678819172646912)), .float .f64 (fsub .f64 4602678819172646912 (fsub .f64 r1 4602678819172646912)), .float .f64 (fmul .f64 (fsub .f64 4602678819172646912 (fsub .f64 r1 4602678819172646912)) 4618760256179416344), .float .f64 (fmul .f64 (fsub .f64 4602678819172646912 (fsub .f64 r1 4602678819172646912)) 4618760256179416344), .float .f64 (fmul .f64 (fsub .f64 4602678819172646912 (fsub .f64 r1 4602678819172646912)) 4618760256179416344), .float .f64 (fmul .f64 (fmul .f64 (fsub .f64 4602678819172646912 (fsub .f64 r1 4602678819172646912)) 4618760256179416344) (fmul .f64 (fsub .f64 4602678819172646912 (fsub .f64 r1 4602678819172646912)) 4618760256179416344)), undef, undef, undef, undef, undef, undef, undef, undef, undef, undef, undef, undef, undef, undef, undef, undef, undef, undef, undef, undef, undef, undef, undef] H1 (blockQ 0 (seqQ (exK Try.prog E_impl_sine (cr (cr (cr (cr (cr (cr (cr (cr (cr (bodyC Try.f162))))))))))) (retK Try.prog Try.f162 K)))) (loopK (exK Try.prog E_impl_sine (cl (cl (cr (cl (cr (cr (cr (cr (cr (cr (cr (cr (bodyC Try.f162)))))))))))))) [.float .f64 x, undef, .float .f64 0, .float .f64 (fsub .f64 r1 4602678819172646912), .bool (fle .f64 4602678819172646912 r1), .float .f64 (fmul .f64 (fsub .f64 r1 4602678819172646912) 4618760256179416344), .float .f64 (fmul .f64 (fmul .f64 (fsub .f64 r1 4602678819172646912) 4618760256179416344) (fmul .f64 (fsub .f64 r1 4602678819172646912) 4618760256179416344)), .float .f64 4607182418800017408, .float .f64 4620693217682128896, .float .f64 x, .float .f64 r1, .float .f64 r1, .bool (fle .f64 4602678819172646912 r1), .bool (fle .f64 4602678819172646912 r1), .float .f64 r1, .float .f64 (fsub .f64 r1 4602678819172646912), .float .f64 (fsub .f64 r1 4602678819172646912), .bool (flt .f64 4598175219545276416 (fsub .f64 r1 4602678819172646912)), undef, undef, .float .f64 (fsub .f64 r1 4602678819172646912), .float .f64 (fmul .f64 (fsub .f64 r1 4602678819172646912) 4618760256179416344), .float .f64 (fmul .f64 (fsub .f64 r1 4602678819172646912) 4618760256179416344), .float .f64 (fmul .f64 (fsub .f64 r1 4602678819172646912) 4618760256179416344), .float .f64 (fmul .f64 (fmul .f64 (fsub .f64 r1 4602678819172646912) 4618760256179416344) (fmul .f64 (fsub .f64 r1 4602678819172646912) 4618760256179416344)), undef, undef, undef, undef, undef, undef, undef, undef, undef, undef, undef, undef, undef, undef, undef, undef, undef, undef, undef, undef, undef, undef, undef] H1 (blockQ 0 (seqQ (exK Try.prog E_impl_sine (cr (cr (cr (cr (cr (cr (cr (cr (cr (bodyC Try.f162))))))))))) (retK Try.prog Try.f162 K))))) (Br (flt .f64 4598175219545276416 r1) (loopK (exK Try.prog E_impl_sine (cl (cl (cr (cl (cr (cr (cr (cr (cr (cr (cr (cr (bodyC Try.f162)))))))))))))) [.float .f64 x, undef, .float .f64 0, .float .f64 (fsub .f64 4602678819172646912 r1), .bool (fle .f64 4602678819172646912 r1), .float .f64 (fmul .f64 (fsub .f64 4602678819172646912 r1) 4618760256179416344), .float .f64 (fmul .f64 (fmul .f64 (fsub .f64 4602678819172646912 r1) 4618760256179416344) (fmul .f64 (fsub .f64 4602678819172646912 r1) 4618760256179416344)), .float .f64 4607182418800017408, .float .f64 4620693217682128896, .float .f64 x, .float .f64 r1, .float .f64 r1, .bool (fle .f64 4602678819172646912 r1), .bool (fle .f64 4602678819172646912 r1), undef, undef, .float .f64 r1, .bool (flt .f64 4598175219545276416 r1), .float .f64 r1, .float .f64 (fsub .f64 4602678819172646912 r1), .float .f64 (fsub .f64 4602678819172646912 r1), .float .f64 (fmul .f64 (fsub .f64 4602678819172646912 r1) 4618760256179416344), .float .f64 (fmul .f64 (fsub .f64 4602678819172646912 r1) 4618760256179416344), .float .f64 (fmul .f64 (fsub .f64 4602678819172646912 r1) 4618760256179416344), .float .f64 (fmul .f64 (fmul .f64 (fsub .f64 4602678819172646912 r1) 4618760256179416344) (fmul .f64 (fsub .f64 4602678819172646912 r1) 4618760256179416344)), undef, undef, undef, undef, undef, undef, undef, undef, undef, undef, undef, undef, undef, undef, undef, undef, undef, undef, undef, undef, undef, undef, undef] H1 (blockQ 0 (seqQ (exK Try.prog E_impl_sine (cr (cr (cr (cr (cr (cr (cr (cr (cr (bodyC Try.f162))))))))))) (retK Try.prog Try.f162 K)))) (loopK (exK Try.prog E_impl_sine (cl (cl (cr (cl (cr (cr (cr (cr (cr (cr (cr (cr (bodyC Try.f162)))))))))))))) [.float .f64 x, undef, .float .f64 0, .float .f64 r1, .bool (fle .f64 4602678819172646912 r1), .float .f64 (fmul .f64 r1 4618760256179416344), .float .f64 (fmul .f64 (fmul .f64 r1 4618760256179416344) (fmul .f64 r1 4618760256179416344)), .float .f64 4607182418800017408, .float .f64 4620693217682128896, .float .f64 x, .float .f64 r1, .float .f64 r1, .bool (fle .f64 4602678819172646912 r1), .bool (fle .f64 4602678819172646912 r1), undef, undef, .float .f64 r1, .bool (flt .f64 4598175219545276416 r1), undef, undef, .float .f64 r1, .float .f64 (fmul .f64 r1 4618760256179416344), .float .f64 (fmul .f64 r1 4618760256179416344), .float .f64 (fmul .f64 r1 4618760256179416344), .float .f64 (fmul .f64 (fmul .f64 r1 4618760256179416344) (fmul .f64 r1 4618760256179416344)), undef, undef, undef, undef, undef, undef, undef, undef, undef, undef, undef, undef, undef, undef, undef, undef, undef, undef, undef, undef, undef, undef, undef] H1 (blockQ 0 (seqQ (exK Try.prog E_impl_sine (cr (cr (cr (cr (cr (cr (cr (cr (cr (bodyC Try.f162))))))))))) (retK Try.prog Try.f162 K)))))) := by kernel_rfl
abbrev impl_sine_P1 (r1 : Nat) (x : Nat) (z1_14 : Value) (z1_15 : Value) (z1_16 : Nat) (z1_17 : Bool) (z1_18 : Value) (z1_19 : Value) (z1_20 : Nat) (z1_21 : Nat) (z1_22 : Nat) (z1_23 : Nat) (z1_24 : Nat) (z1_3 : Nat) (z1_5 : Nat) (z1_6 : Nat) (p : Nat) (k : Nat) (g25 g26 g27 g28 g29 g30 g31 g32 g33 g34 g35 g36 g37 g38 g39 : Value) : List Value := [.float .f64 x, undef, .float .f64 0, .float .f64 z1_3, .bool (fle .f64 4602678819172646912 r1), .float .f64 z1_5, .float .f64 z1_6, .float .f64 p, .float .f64 k, .float .f64 x, .float .f64 r1, .float .f64 r1, .bool (fle .f64 4602678819172646912 r1), .bool (fle .f64 4602678819172646912 r1), z1_14, z1_15, .float .f64 z1_16, .bool z1_17, z1_18, z1_19, .float .f64 z1_20, .float .f64 z1_21, .float .f64 z1_22, .float .f64 z1_23, .float .f64 z1_24, g25, g26, g27, g28, g29, g30, g31, g32, g33, g34, g35, g36, g37, g38, g39, undef, undef, undef, undef, undef, undef, undef, undef]
theorem impl_sine_r1 (r1 : Nat) (x : Nat) (z1_14 : Value) (z1_15 : Value) (z1_16 : Nat) (z1_17 : Bool) (z1_18 : Value) (z1_19 : Value) (z1_20 : Nat) (z1_21 : Nat) (z1_22 : Nat) (z1_23 : Nat) (z1_24 : Nat) (z1_3 : Nat) (z1_5 : Nat) (z1_6 : Nat) (p : Nat) (k : Nat) (g25 g26 g27 g28 g29 g30 g31 g32 g33 g34 g35 g36 g37 g38 g39 : Value) (H : AHeap) (R : Post) : exK Try.prog E_impl_sine (cl (cl (cr (cl (cr (cr (cr (cr (cr (cr (cr (cr (bodyC Try.f162))))))))))))) (impl_sine_P1 r1 x z1_14 z1_15 z1_16 z1_17 z1_18 z1_19 z1_20 z1_21 z1_22 z1_23 z1_24 z1_3 z1_5 z1_6 p k g25 g26 g27 g28 g29 g30 g31 g32 g33 g34 g35 g36 g37 g38 g39) H R =
  (Br (fle .f64 4607182418800017408 k) (R .normal [.float .f64 x, undef, .float .f64 0, .float .f64 z1_3, .bool (fle .f64 4602678819172646912 r1), .float .f64 z1_5, .float .f64 z1_6, .float .f64 (fsub .f64 4607182418800017408 (fdiv .f64 (fmul .f64 z1_6 p) (fmul .f64 (fmul .f64 4611686018427387904 k) (fadd .f64 (fmul .f64 4611686018427387904 k) 4607182418800017408)))), .float .f64 (fsub .f64 k 4607182418800017408), .float .f64 x, .float .f64 r1, .float .f64 r1, .bool (fle .f64 4602678819172646912 r1), .bool (fle .f64 4602678819172646912 r1), z1_14, z1_15, .float .f64 z1_16, .bool z1_17, z1_18, z1_19, .float .f64 z1_20, .float .f64 z1_21, .float .f64 z1_22, .float .f64 z1_23, .float .f64 z1_24, .float .f64 k, .bool (fle .f64 4607182418800017408 k), .float .f64 k, .float .f64 (fsub .f64 k 4607182418800017408), .float .f64 z1_6, .float .f64 p, .float .f64 (fmul .f64 z1_6 p), .float .f64 k, .float .f64 (fmul .f64 4611686018427387904 k), .float .f64 k, .float .f64 (fmul .f64 4611686018427387904 k), .float .f64 (fadd .f64 (fmul .f64 4611686018427387904 k) 4607182418800017408), .float .f64 (fmul .f64 (fmul .f64 4611686018427387904 k) (fadd .f64 (fmul .f64 4611686018427387904 k) 4607182418800017408)), .float .f64 (fdiv .f64 (fmul .f64 z1_6 p) (fmul .f64 (fmul .f64 4611686018427387904 k) (fadd .f64 (fmul .f64 4611686018427387904 k) 4607182418800017408))), .float .f64 (fsub .f64 4607182418800017408 (fdiv .f64 (fmul .f64 z1_6 p) (fmul .f64 (fmul .f64 4611686018427387904 k) (fadd .f64 (fmul .f64 4611686018427387904 k) 4607182418800017408)))), undef, undef, undef, undef, undef, undef, undef, undef] H) (R (.exit 0) [.float .f64 x, undef, .float .f64 0, .float .f64 z1_3, .bool (fle .f64 4602678819172646912 r1), .float .f64 z1_5, .float .f64 z1_6, .float .f64 p, .float .f64 k, .float .f64 x, .float .f64 r1, .float .f64 r1, .bool (fle .f64 4602678819172646912 r1), .bool (fle .f64 4602678819172646912 r1), z1_14, z1_15, .float .f64 z1_16, .bool z1_17, z1_18, z1_19, .float .f64 z1_20, .float .f64 z1_21, .float .f64 z1_22, .float .f64 z1_23, .float .f64 z1_24, .float .f64 k, .bool (fle .f64 4607182418800017408 k), g27, g28, g29, g30, g31, g32, g33, g34, g35, g36, g37, g38, g39, undef, undef, undef, undef, undef, undef, undef, undef] H)) := by kernel_rfl
def impl_sine_I1 (r1 : Nat) (x : Nat) (z1_14 : Value) (z1_15 : Value) (z1_16 : Nat) (z1_17 : Bool) (z1_18 : Value) (z1_19 : Value) (z1_20 : Nat) (z1_21 : Nat) (z1_22 : Nat) (z1_23 : Nat) (z1_24 : Nat) (z1_3 : Nat) (z1_5 : Nat) (z1_6 : Nat) (Inv : Nat → Nat → Nat → AHeap → Prop) : Nat → List Value → AHeap → Prop := fun μ tm H => ∃ (p : Nat), ∃ (k : Nat), ∃ g25 g26 g27 g28 g29 g30 g31 g32 g33 g34 g35 g36 g37 g38 g39, tm = (impl_sine_P1 r1 x z1_14 z1_15 z1_16 z1_17 z1_18 z1_19 z1_20 z1_21 z1_22 z1_23 z1_24 z1_3 z1_5 z1_6 p k g25 g26 g27 g28 g29 g30 g31 g32 g33 g34 g35 g36 g37 g38 g39) ∧ Inv μ p k H
theorem impl_sine_L1 (r1 : Nat) (x : Nat) (z1_14 : Value) (z1_15 : Value) (z1_16 : Nat) (z1_17 : Bool) (z1_18 : Value) (z1_19 : Value) (z1_20 : Nat) (z1_21 : Nat) (z1_22 : Nat) (z1_23 : Nat) (z1_24 : Nat) (z1_3 : Nat) (z1_5 : Nat) (z1_6 : Nat) {Q : Post} (Inv : Nat → Nat → Nat → AHeap → Prop) (ν : Nat) (p : Nat) (k : Nat) (g25 g26 g27 g28 g29 g30 g31 g32 g33 g34 g35 g36 g37 g38 g39 : Value) (H : AHeap) (h0 : Inv ν p k H)
    (hs : ∀ (μ : Nat) (p : Nat) (k : Nat) (g25 g26 g27 g28 g29 g30 g31 g32 g33 g34 g35 g36 g37 g38 g39 : Value) (H : AHeap), Inv μ p k H → exK Try.prog E_impl_sine (cl (cl (cr (cl (cr (cr (cr (cr (cr (cr (cr (cr (bodyC Try.f162))))))))))))) (impl_sine_P1 r1 x z1_14 z1_15 z1_16 z1_17 z1_18 z1_19 z1_20 z1_21 z1_22 z1_23 z1_24 z1_3 z1_5 z1_6 p k g25 g26 g27 g28 g29 g30 g31 g32 g33 g34 g35 g36 g37 g38 g39) H (loopQ (impl_sine_I1 r1 x z1_14 z1_15 z1_16 z1_17 z1_18 z1_19 z1_20 z1_21 z1_22 z1_23 z1_24 z1_3 z1_5 z1_6 Inv) μ Q)) : loopK (exK Try.prog E_impl_sine (cl (cl (cr (cl (cr (cr (cr (cr (cr (cr (cr (cr (bodyC Try.f162)))))))))))))) (impl_sine_P1 r1 x z1_14 z1_15 z1_16 z1_17 z1_18 z1_19 z1_20 z1_21 z1_22 z1_23 z1_24 z1_3 z1_5 z1_6 p k g25 g26 g27 g28 g29 g30 g31 g32 g33 g34 g35 g36 g37 g38 g39) H Q :=
  ⟨impl_sine_I1 r1 x z1_14 z1_15 z1_16 z1_17 z1_18 z1_19 z1_20 z1_21 z1_22 z1_23 z1_24 z1_3 z1_5 z1_6 Inv, ν, ⟨p, k, g25, g26, g27, g28, g29, g30, g31, g32, g33, g34, g35, g36, g37, g38, g39, rfl, h0⟩, fun μ tm H h => by obtain ⟨p, k, g25, g26, g27, g28, g29, g30, g31, g32, g33, g34, g35, g36, g37, g38, g39, rfl, hI⟩ := h; exact hs μ p k g25 g26 g27 g28 g29 g30 g31 g32 g33 g34 g35 g36 g37 g38 g39 H hI⟩
theorem impl_sine_n1 {r1 : Nat} {x : Nat} {z1_14 : Value} {z1_15 : Value} {z1_16 : Nat} {z1_17 : Bool} {z1_18 : Value} {z1_19 : Value} {z1_20 : Nat} {z1_21 : Nat} {z1_22 : Nat} {z1_23 : Nat} {z1_24 : Nat} {z1_3 : Nat} {z1_5 : Nat} {z1_6 : Nat} {Q : Post} {Inv : Nat → Nat → Nat → AHeap → Prop} {μ : Nat} (μ' : Nat) {p : Nat} {k : Nat} {g25 g26 g27 g28 g29 g30 g31 g32 g33 g34 g35 g36 g37 g38 g39 : Value} {H : AHeap} (hm : μ' < μ) (hI : Inv μ' p k H) : loopQ (impl_sine_I1 r1 x z1_14 z1_15 z1_16 z1_17 z1_18 z1_19 z1_20 z1_21 z1_22 z1_23 z1_24 z1_3 z1_5 z1_6 Inv) μ Q .normal (impl_sine_P1 r1 x z1_14 z1_15 z1_16 z1_17 z1_18 z1_19 z1_20 z1_21 z1_22 z1_23 z1_24 z1_3 z1_5 z1_6 p k g25 g26 g27 g28 g29 g30 g31 g32 g33 g34 g35 g36 g37 g38 g39) H := ⟨μ', hm, p, k, g25, g26, g27, g28, g29, g30, g31, g32, g33, g34, g35, g36, g37, g38, g39, rfl, hI⟩
theorem impl_sine_x1_0 (r1 : Nat) (x : Nat) (z1_14 : Value) (z1_15 : Value) (z1_16 : Nat) (z1_17 : Bool) (z1_18 : Value) (z1_19 : Value) (z1_20 : Nat) (z1_21 : Nat) (z1_22 : Nat) (z1_23 : Nat) (z1_24 : Nat) (z1_3 : Nat) (z1_5 : Nat) (z1_6 : Nat) (p : Nat) (k : Nat) (g25 g26 g27 g28 g29 g30 g31 g32 g33 g34 g35 g36 g37 g38 g39 : Value) (H : AHeap) (K : Value → AHeap → Prop)  {I : Nat → List Value → AHeap → Prop} {μ : Nat} : loopQ I μ (blockQ 0 (seqQ (exK Try.prog E_impl_sine (cr (cr (cr (cr (cr (cr (cr (cr (cr (bodyC Try.f162))))))))))) (retK Try.prog Try.f162 K))) (.exit 0) (impl_sine_P1 r1 x z1_14 z1_15 z1_16 z1_17 z1_18 z1_19 z1_20 z1_21 z1_22 z1_23 z1_24 z1_3 z1_5 z1_6 p k g25 g26 g27 g28 g29 g30 g31 g32 g33 g34 g35 g36 g37 g38 g39) H =
  (Br (fle .f64 4602678819172646912 r1) (K (.float .f64 (fneg .f64 (fmul .f64 z1_5 p))) H) (K (.float .f64 (fmul .f64 z1_5 p)) H)) := by kernel_rfl
theorem E_impl_sine_ok : ∀ g, FnOk Try.prog g (E_impl_sine g) := FnOk.envOf (by
  intro x hx
  simp only [List.mem_cons, List.not_mem_nil, or_false] at hx
  subst hx; exact impl_fraction_ok)
set_option maxHeartbeats 1000000 in
theorem impl_sine_main (x : Nat) (H : AHeap) (K : Value → AHeap → Prop) (h : T_impl_sine x H fun (r1 : Nat) (H' : AHeap) => K (.float .f64 r1) H') : bodyK Try.prog E_impl_sine Try.f162 [.float .f64 x] H K := by
  rw [impl_sine_vc]
  obtain ⟨pr0, hk⟩ := h
  have e : (p_impl_sine x) = _ := rfl
  have e := e.trans (p_impl_sine_eq x)
  have g0 := Grow.refl H
  refine T_impl_fraction_i ⟨o18, ?_⟩
  have z_1 := impl_fraction_bd x (by first | assumption | exact abs_in (by assumption) (by assumption))
  refine Br.intro (fun c_2 => ?_) (fun c_2 => ?_)
  · have e := e.trans (cond_t c_2)
    refine Br.intro (fun c_3 => ?_) (fun c_3 => ?_)
    · have e := e.trans (cond_t c_3)
      refine impl_sine_L1 _ _ _ _ _ _ _ _ _ _ _ _ _ _ _ _ (fun (μ : Nat) (p : Nat) (k : Nat) (H_1 : AHeap) => H = H_1 ∧ isCnt k ∧ cnt k ≤ (μ : Int) ∧ p_impl_sine x = p_impl_sine_l1 x (μ + 1) p k) (Int.toNat (cnt 4620693217682128896)) _ _ _ _ _ _ _ _ _ _ _ _ _ _ _ _ _ H ?_ ?_
      · exact ⟨rfl, (by first | omega | (simp; done) | (simp; omega) | (first | exact isCnt.of (n := 8) (by decide) (by decide) | exact (down1 (by assumption) (by assumption)).1)), o4, e⟩
      · intro μ p k g25 g26 g27 g28 g29 g30 g31 g32 g33 g34 g35 g36 g37 g38 g39 H_1 hI
        obtain ⟨rfl, v_4, hμ, e⟩ := hI
        rw [impl_sine_r1]
        have e := e.trans (p_impl_sine_l1_s x μ p k)
        have l_5 := g0.1
        refine Br.intro (fun c_6 => ?_) (fun c_6 => ?_)
        · have e := e.trans (cond_t c_6)
          refine impl_sine_n1 (μ - 1) o16 ⟨rfl, (by first | omega | (first | exact isCnt.of (n := 8) (by decide) (by decide) | exact (down1 (by assumption) (by assumption)).1) | (simp only [List.length_append, List.length_cons, List.length_nil, List.length_set]; done) | (simp only [List.length_append, List.length_cons, List.length_nil, List.length_set]; omega)), o16, (by rw [show μ - 1 + 1 = μ from by first | omega | (have := down1 (by assumption) (by assumption); omega)]; exact e)⟩
        · have e := e.trans (cond_f c_6)
          rw [impl_sine_x1_0]
          refine Br.intro (fun c_7 => ?_) (fun c_7 => ?_)
          · have e := e.trans (cond_t c_7)
            rw [e] at hk
            exact hk
          · have e := e.trans (cond_f c_7)
            rw [e] at hk
            exact hk
    · have e := e.trans (cond_f c_3)
      refine impl_sine_L1 _ _ _ _ _ _ _ _ _ _ _ _ _ _ _ _ (fun (μ : Nat) (p : Nat) (k : Nat) (H_2 : AHeap) => H = H_2 ∧ isCnt k ∧ cnt k ≤ (μ : Int) ∧ p_impl_sine x = p_impl_sine_l1b x (μ + 1) p k) (Int.toNat (cnt 4620693217682128896)) _ _ _ _ _ _ _ _ _ _ _ _ _ _ _ _ _ H ?_ ?_
      · exact ⟨rfl, (by first | omega | (simp; done) | (simp; omega) | (first | exact isCnt.of (n := 8) (by decide) (by decide) | exact (down1 (by assumption) (by assumption)).1)), o4, e⟩
      · intro μ p k g25 g26 g27 g28 g29 g30 g31 g32 g33 g34 g35 g36 g37 g38 g39 H_2 hI
        obtain ⟨rfl, v_8, hμ, e⟩ := hI
        rw [impl_sine_r1]
        have e := e.trans (p_impl_sine_l1b_s x μ p k)
        have l_9 := g0.1
        refine Br.intro (fun c_10 => ?_) (fun c_10 => ?_)
        · have e := e.trans (cond_t c_10)
          refine impl_sine_n1 (μ - 1) o16 ⟨rfl, (by first | omega | (first | exact isCnt.of (n := 8) (by decide) (by decide) | exact (down1 (by assumption) (by assumption)).1) | (simp only [List.length_append, List.length_cons, List.length_nil, List.length_set]; done) | (simp only [List.length_append, List.length_cons, List.length_nil, List.length_set]; omega)), o16, (by rw [show μ - 1 + 1 = μ from by first | omega | (have := down1 (by assumption) (by assumption); omega)]; exact e)⟩
        · have e := e.trans (cond_f c_10)
          rw [impl_sine_x1_0]
          refine Br.intro (fun c_11 => ?_) (fun c_11 => ?_)
          · have e := e.trans (cond_t c_11)
            rw [e] at hk
            exact hk
          · have e := e.trans (cond_f c_11)
            rw [e] at hk
            exact hk
  · have e := e.trans (cond_f c_2)
    refine Br.intro (fun c_12 => ?_) (fun c_12 => ?_)
    · have e := e.trans (cond_t c_12)
      refine impl_sine_L1 _ _ _ _ _ _ _ _ _ _ _ _ _ _ _ _ (fun (μ : Nat) (p : Nat) (k : Nat) (H_3 : AHeap) => H = H_3 ∧ isCnt k ∧ cnt k ≤ (μ : Int) ∧ p_impl_sine x = p_impl_sine_l1c x (μ + 1) p k) (Int.toNat (cnt 4620693217682128896)) _ _ _ _ _ _ _ _ _ _ _ _ _ _ _ _ _ H ?_ ?_
      · exact ⟨rfl, (by first | omega | (simp; done) | (simp; omega) | (first | exact isCnt.of (n := 8) (by decide) (by decide) | exact (down1 (by assumption) (by assumption)).1)), o4, e⟩
      · intro μ p k g25 g26 g27 g28 g29 g30 g31 g32 g33 g34 g35 g36 g37 g38 g39 H_3 hI
        obtain ⟨rfl, v_13, hμ, e⟩ := hI
        rw [impl_sine_r1]
        have e := e.trans (p_impl_sine_l1c_s x μ p k)
        have l_14 := g0.1
        refine Br.intro (fun c_15 => ?_) (fun c_15 => ?_)
        · have e := e.trans (cond_t c_15)
          refine impl_sine_n1 (μ - 1) o16 ⟨rfl, (by first | omega | (first | exact isCnt.of (n := 8) (by decide) (by decide) | exact (down1 (by assumption) (by assumption)).1) | (simp only [List.length_append, List.length_cons, List.length_nil, List.length_set]; done) | (simp only [List.length_append, List.length_cons, List.length_nil, List.length_set]; omega)), o16, (by rw [show μ - 1 + 1 = μ from by first | omega | (have := down1 (by assumption) (by assumption); omega)]; exact e)⟩
        · have e := e.trans (cond_f c_15)
          rw [impl_sine_x1_0]
          refine Br.intro (fun c_16 => ?_) (fun c_16 => ?_)
          · have e := e.trans (cond_t c_16)
            rw [e] at hk
            exact hk
          · have e := e.trans (cond_f c_16)
            rw [e] at hk
            exact hk
    · have e := e.trans (cond_f c_12)
      refine impl_sine_L1 _ _ _ _ _ _ _ _ _ _ _ _ _ _ _ _ (fun (μ : Nat) (p : Nat) (k : Nat) (H_4 : AHeap) => H = H_4 ∧ isCnt k ∧ cnt k ≤ (μ : Int) ∧ p_impl_sine x = p_impl_sine_l1d x (μ + 1) p k) (Int.toNat (cnt 4620693217682128896)) _ _ _ _ _ _ _ _ _ _ _ _ _ _ _ _ _ H ?_ ?_
      · exact ⟨rfl, (by first | omega | (simp; done) | (simp; omega) | (first | exact isCnt.of (n := 8) (by decide) (by decide) | exact (down1 (by assumption) (by assumption)).1)), o4, e⟩
      · intro μ p k g25 g26 g27 g28 g29 g30 g31 g32 g33 g34 g35 g36 g37 g38 g39 H_4 hI
        obtain ⟨rfl, v_17, hμ, e⟩ := hI
        rw [impl_sine_r1]
        have e := e.trans (p_impl_sine_l1d_s x μ p k)
        have l_18 := g0.1
        refine Br.intro (fun c_19 => ?_) (fun c_19 => ?_)
        · have e := e.trans (cond_t c_19)
          refine impl_sine_n1 (μ - 1) o16 ⟨rfl, (by first | omega | (first | exact isCnt.of (n := 8) (by decide) (by decide) | exact (down1 (by assumption) (by assumption)).1) | (simp only [List.length_append, List.length_cons, List.length_nil, List.length_set]; done) | (simp only [List.length_append, List.length_cons, List.length_nil, List.length_set]; omega)), o16, (by rw [show μ - 1 + 1 = μ from by first | omega | (have := down1 (by assumption) (by assumption); omega)]; exact e)⟩
        · have e := e.trans (cond_f c_19)
          rw [impl_sine_x1_0]
          refine Br.intro (fun c_20 => ?_) (fun c_20 => ?_)
          · have e := e.trans (cond_t c_20)
            rw [e] at hk
            exact hk
          · have e := e.trans (cond_f c_20)
            rw [e] at hk
            exact hk
theorem impl_sine_ok : FnOk Try.prog 162 S_impl_sine := by
  refine FnOk.body mix_ok E_impl_sine_ok Try.func162 rfl (by kernel_rfl) (by kernel_rfl) ?_ ?_ ?_ ?_ ?_
  · intro args H K K' h hk
    simp only [S_impl_sine] at *
    unfold F_impl_sine at *
    split at hk
    · obtain ⟨pr0, k⟩ := hk
      exact ⟨pr0, h _ _ k⟩
    · exact hk.elim
  · intro _ args H K hk
    simp only [S_impl_sine] at *
    unfold F_impl_sine at *
    split at hk
    · obtain ⟨pr0, k⟩ := hk
      exact ⟨_, k, fun K' k' => ⟨pr0, k'⟩⟩
    · exact hk.elim
  · intro args H K hk
    simp only [S_impl_sine] at *
    unfold F_impl_sine at *
    split at hk
    · obtain ⟨pr0, k⟩ := hk
      exact ⟨_, _, k⟩
    · exact hk.elim
  · intro hq; cases hq
  · have mm := @impl_sine_main
    revert mm
    generalize bodyK Try.prog E_impl_sine Try.f162 = Q
    intro mm args H K hk
    simp only [S_impl_sine] at *
    unfold F_impl_sine at *
    split at hk
    · exact mm _ H K hk
    · exact hk.elim

def p_impl_PhasorOf_l1 (turns : Nat) : Nat → Nat → Int → Nat × Nat
  | 0, _, _ => (0, 0)
  | μ + 1, f, q => (bif fle .f64 4598175219545276416 f then (p_impl_PhasorOf_l1 turns μ (fsub .f64 f 4598175219545276416) (q + 1)) else (bif (q : Int) == 1 then (((fnarrow (fsub .f64 0 (p_impl_sine f))).getD 0), ((fnarrow ((p_impl_sine (fsub .f64 4598175219545276416 f)))).getD 0)) else (bif (q : Int) == 2 then (((fnarrow (fsub .f64 0 ((p_impl_sine (fsub .f64 4598175219545276416 f))))).getD 0), ((fnarrow (fsub .f64 0 (p_impl_sine f))).getD 0)) else (bif (q : Int) == 3 then (((fnarrow (p_impl_sine f)).getD 0), ((fnarrow (fsub .f64 0 ((p_impl_sine (fsub .f64 4598175219545276416 f))))).getD 0)) else (((fnarrow ((p_impl_sine (fsub .f64 4598175219545276416 f)))).getD 0), ((fnarrow (p_impl_sine f)).getD 0))))))
def p_impl_PhasorOf_l1_s := fun turns μ f q => @p_impl_PhasorOf_l1.eq_2 turns f q μ
def p_impl_PhasorOf (turns : Nat) : Nat × Nat := (bif !(p_impl_isFinite64 turns) then (((fnarrow p_math_NaN).getD 0), ((fnarrow p_math_NaN).getD 0)) else (bif fle .f64 4841369599423283200 (p_math_Abs turns) then (1065353216, 0) else (p_impl_PhasorOf_l1 turns (Int.toNat (qm (p_impl_fraction turns)) + 1) (p_impl_fraction turns) (0 : Int))))
def p_impl_PhasorOf_eq := @p_impl_PhasorOf.eq_1
def T_impl_PhasorOf (turns : Nat) (H : AHeap) (K : Nat → Nat → AHeap → Prop) : Prop := K ((p_impl_PhasorOf turns).1) ((p_impl_PhasorOf turns).2) H
theorem T_impl_PhasorOf_i {turns : Nat} {H : AHeap} {K : Nat → Nat → AHeap → Prop} (h : K ((p_impl_PhasorOf turns).1) ((p_impl_PhasorOf turns).2) H) : T_impl_PhasorOf turns H K := h
theorem nan_nar : fnarrow p_math_NaN ≠ none := by decide +kernel
theorem abs_in {x : Nat} (h0 : p_impl_isFinite64 x = true) (h1 : fle .f64 4841369599423283200 (p_math_Abs x) = false) : Bd .f64 (52 + lp .f64) x := by
  have h0 : feq .f64 (fsub .f64 x x) 0 = true := h0
  rw [fin_asked] at h0
  refine abs_in' h0 ?_
  unfold p_math_Abs at h1
  rw [cn_of_not_nan (fin_nn h0)] at h1
  obtain ⟨s, m, e, hr⟩ := fin_num h0
  have hm := read_mod hr
  rw [show FloatKind.f64.format.signWeight = 9223372036854775808 by decide] at hm
  rwa [cn_of_not_nan (show (FloatKind.f64.decode _).isNaN = false from by show (FloatKind.f64.format.read _).isNaN = false; rw [hm]; rfl)] at h1
/-! impl_PhasorOf: function 116 -/
def E_impl_PhasorOf : Env := envOf [(158, S_impl_isFinite64), (159, S_math_NaN), (160, S_math_Abs), (161, S_impl_fraction), (162, S_impl_sine)]
def F_impl_PhasorOf : List Value → AHeap → (Value → AHeap → Prop) → Prop
  | [.float .f64 turns], H, K => T_impl_PhasorOf turns H fun (r1_r : Nat) (r1_i : Nat) (H' : AHeap) => K (.complex .f32 r1_r r1_i) H'
  | _, _, _ => False
def S_impl_PhasorOf : FSpec := { F := F_impl_PhasorOf, quiet := true, tame := false }
theorem impl_PhasorOf_vc (turns : Nat) (H : AHeap) (K : Value → AHeap → Prop) : bodyK Try.prog E_impl_PhasorOf Try.f116 [.float .f64 turns] H K =
  (T_impl_isFinite64 turns H fun (r1 : Bool) (H1 : AHeap) => Br (!r1) (T_math_NaN  H1 fun (r2 : Nat) (H2 : AHeap) => ∃ x1 : Nat, fnarrow r2 = some x1 ∧ K (.complex .f32 x1 x1) H2) (T_math_Abs turns H1 fun (r3 : Nat) (H3 : AHeap) => Br (fle .f64 4841369599423283200 r3) (K (.complex .f32 1065353216 0) H3) (T_impl_fraction turns H3 fun (r4 : Nat) (H4 : AHeap) => loopK (exK Try.prog E_impl_PhasorOf (cl (cl (cl (cr (cr (cr (cr (cr (bodyC Try.f116)))))))))) [.float .f64 turns, undef, .complex .f32 0 0, undef, .float .f64 r4, .int .i64 0, undef, undef, .float .f64 turns, .bool r1, .bool (!r1), undef, undef, undef, undef, undef, .float .f64 turns, .float .f64 r3, .bool (fle .f64 4841369599423283200 r3), .float .f64 turns, .float .f64 r4, undef, undef, undef, undef, undef, undef, undef, undef, undef, undef, undef, undef, undef, undef, undef, undef, undef, undef, undef, undef, undef, undef, undef, undef, undef, undef, undef, undef, undef, undef, undef, undef, undef] H4 (blockQ 0 (seqQ (exK Try.prog E_impl_PhasorOf (cr (cr (cr (cr (cr (cr (bodyC Try.f116)))))))) (retK Try.prog Try.f116 K)))))) := by kernel_rfl
abbrev impl_PhasorOf_P1 (r1 : Bool) (r3 : Nat) (r4 : Nat) (turns : Nat) (f : Nat) (q : Int) (g21 g22 g23 g24 g25 g26 : Value) : List Value := [.float .f64 turns, undef, .complex .f32 0 0, undef, .float .f64 f, .int .i64 q, undef, undef, .float .f64 turns, .bool r1, .bool (!r1), undef, undef, undef, undef, undef, .float .f64 turns, .float .f64 r3, .bool (fle .f64 4841369599423283200 r3), .float .f64 turns, .float .f64 r4, g21, g22, g23, g24, g25, g26, undef, undef, undef, undef, undef, undef, undef, undef, undef, undef, undef, undef, undef, undef, undef, undef, undef, undef, undef, undef, undef, undef, undef, undef, undef, undef, undef]
theorem impl_PhasorOf_r1 (r1 : Bool) (r3 : Nat) (r4 : Nat) (turns : Nat) (f : Nat) (q : Int) (g21 g22 g23 g24 g25 g26 : Value) (H : AHeap) (R : Post) : exK Try.prog E_impl_PhasorOf (cl (cl (cl (cr (cr (cr (cr (cr (bodyC Try.f116))))))))) (impl_PhasorOf_P1 r1 r3 r4 turns f q g21 g22 g23 g24 g25 g26) H R =
  (Br (fle .f64 4598175219545276416 f) (R .normal [.float .f64 turns, undef, .complex .f32 0 0, undef, .float .f64 (fsub .f64 f 4598175219545276416), .int .i64 (IntKind.wrap .i64 (q + 1)), undef, undef, .float .f64 turns, .bool r1, .bool (!r1), undef, undef, undef, undef, undef, .float .f64 turns, .float .f64 r3, .bool (fle .f64 4841369599423283200 r3), .float .f64 turns, .float .f64 r4, .float .f64 f, .bool (fle .f64 4598175219545276416 f), .float .f64 f, .float .f64 (fsub .f64 f 4598175219545276416), .int .i64 q, .int .i64 (IntKind.wrap .i64 (q + 1)), undef, undef, undef, undef, undef, undef, undef, undef, undef, undef, undef, undef, undef, undef, undef, undef, undef, undef, undef, undef, undef, undef, undef, undef, undef, undef, undef] H) (R (.exit 0) [.float .f64 turns, undef, .complex .f32 0 0, undef, .float .f64 f, .int .i64 q, undef, undef, .float .f64 turns, .bool r1, .bool (!r1), undef, undef, undef, undef, undef, .float .f64 turns, .float .f64 r3, .bool (fle .f64 4841369599423283200 r3), .float .f64 turns, .float .f64 r4, .float .f64 f, .bool (fle .f64 4598175219545276416 f), g23, g24, g25, g26, undef, undef, undef, undef, undef, undef, undef, undef, undef, undef, undef, undef, undef, undef, undef, undef, undef, undef, undef, undef, undef, undef, undef, undef, undef, undef, undef] H)) := by kernel_rfl
def impl_PhasorOf_I1 (r1 : Bool) (r3 : Nat) (r4 : Nat) (turns : Nat) (Inv : Nat → Nat → Int → AHeap → Prop) : Nat → List Value → AHeap → Prop := fun μ tm H => ∃ (f : Nat), ∃ (q : Int), ∃ g21 g22 g23 g24 g25 g26, tm = (impl_PhasorOf_P1 r1 r3 r4 turns f q g21 g22 g23 g24 g25 g26) ∧ Inv μ f q H
theorem impl_PhasorOf_L1 (r1 : Bool) (r3 : Nat) (r4 : Nat) (turns : Nat) {Q : Post} (Inv : Nat → Nat → Int → AHeap → Prop) (ν : Nat) (f : Nat) (q : Int) (g21 g22 g23 g24 g25 g26 : Value) (H : AHeap) (h0 : Inv ν f q H)
    (hs : ∀ (μ : Nat) (f : Nat) (q : Int) (g21 g22 g23 g24 g25 g26 : Value) (H : AHeap), Inv μ f q H → exK Try.prog E_impl_PhasorOf (cl (cl (cl (cr (cr (cr (cr (cr (bodyC Try.f116))))))))) (impl_PhasorOf_P1 r1 r3 r4 turns f q g21 g22 g23 g24 g25 g26) H (loopQ (impl_PhasorOf_I1 r1 r3 r4 turns Inv) μ Q)) : loopK (exK Try.prog E_impl_PhasorOf (cl (cl (cl (cr (cr (cr (cr (cr (bodyC Try.f116)))))))))) (impl_PhasorOf_P1 r1 r3 r4 turns f q g21 g22 g23 g24 g25 g26) H Q :=
  ⟨impl_PhasorOf_I1 r1 r3 r4 turns Inv, ν, ⟨f, q, g21, g22, g23, g24, g25, g26, rfl, h0⟩, fun μ tm H h => by obtain ⟨f, q, g21, g22, g23, g24, g25, g26, rfl, hI⟩ := h; exact hs μ f q g21 g22 g23 g24 g25 g26 H hI⟩
theorem impl_PhasorOf_n1 {r1 : Bool} {r3 : Nat} {r4 : Nat} {turns : Nat} {Q : Post} {Inv : Nat → Nat → Int → AHeap → Prop} {μ : Nat} (μ' : Nat) {f : Nat} {q : Int} {g21 g22 g23 g24 g25 g26 : Value} {H : AHeap} (hm : μ' < μ) (hI : Inv μ' f q H) : loopQ (impl_PhasorOf_I1 r1 r3 r4 turns Inv) μ Q .normal (impl_PhasorOf_P1 r1 r3 r4 turns f q g21 g22 g23 g24 g25 g26) H := ⟨μ', hm, f, q, g21, g22, g23, g24, g25, g26, rfl, hI⟩
theorem impl_PhasorOf_x1_0 (r1 : Bool) (r3 : Nat) (r4 : Nat) (turns : Nat) (f : Nat) (q : Int) (g21 g22 g23 g24 g25 g26 : Value) (H : AHeap) (K : Value → AHeap → Prop)  {I : Nat → List Value → AHeap → Prop} {μ : Nat} : loopQ I μ (blockQ 0 (seqQ (exK Try.prog E_impl_PhasorOf (cr (cr (cr (cr (cr (cr (bodyC Try.f116)))))))) (retK Try.prog Try.f116 K))) (.exit 0) (impl_PhasorOf_P1 r1 r3 r4 turns f q g21 g22 g23 g24 g25 g26) H =
  (T_impl_sine (fsub .f64 4598175219545276416 f) H fun (r5 : Nat) (H5 : AHeap) => T_impl_sine f H5 fun (r6 : Nat) (H6 : AHeap) => Br ((q : Int) == 1) (∃ x2 : Nat, fnarrow (fsub .f64 0 r6) = some x2 ∧ ∃ x3 : Nat, fnarrow r5 = some x3 ∧ K (.complex .f32 x2 x3) H6) (Br ((q : Int) == 2) (∃ x4 : Nat, fnarrow (fsub .f64 0 r5) = some x4 ∧ ∃ x5 : Nat, fnarrow (fsub .f64 0 r6) = some x5 ∧ K (.complex .f32 x4 x5) H6) (Br ((q : Int) == 3) (∃ x6 : Nat, fnarrow r6 = some x6 ∧ ∃ x7 : Nat, fnarrow (fsub .f64 0 r5) = some x7 ∧ K (.complex .f32 x6 x7) H6) (∃ x8 : Nat, fnarrow r5 = some x8 ∧ ∃ x9 : Nat, fnarrow r6 = some x9 ∧ K (.complex .f32 x8 x9) H6)))) := by kernel_rfl
theorem E_impl_PhasorOf_ok : ∀ g, FnOk Try.prog g (E_impl_PhasorOf g) := FnOk.envOf (by
  intro x hx
  simp only [List.mem_cons, List.not_mem_nil, or_false] at hx
  rcases hx with rfl | rfl | rfl | rfl | rfl
  · exact impl_isFinite64_ok
  · exact math_NaN_ok
  · exact math_Abs_ok
  · exact impl_fraction_ok
  · exact impl_sine_ok)
theorem o15 {P : Prop} (h : P := by first | exact nan_nar | exact bd_nar (by assumption) | exact bd_nar0 (by assumption)) : P := h
theorem o25 {P : Prop} (h : P := by first | assumption | omega | (simp; omega) | (first | exact lp_up (by assumption) | exact rest_bd (by assumption))) : P := h
set_option maxHeartbeats 1000000 in
theorem impl_PhasorOf_main (turns : Nat) (H : AHeap) (K : Value → AHeap → Prop) (h : T_impl_PhasorOf turns H fun (r1_r : Nat) (r1_i : Nat) (H' : AHeap) => K (.complex .f32 r1_r r1_i) H') : bodyK Try.prog E_impl_PhasorOf Try.f116 [.float .f64 turns] H K := by
  rw [impl_PhasorOf_vc]
  have hk := h
  unfold T_impl_PhasorOf at hk
  have e : (p_impl_PhasorOf turns) = _ := rfl
  have e := e.trans (p_impl_PhasorOf_eq turns)
  have g0 := Grow.refl H
  refine T_impl_isFinite64_i ?_
  refine Br.intro (fun c_1 => ?_) (fun c_1 => ?_)
  · have e := e.trans (cond_t c_1)
    have c_1n := nf_of_t c_1
    refine T_math_NaN_i ?_
    refine ⟨_, opt_get (d := 0) o15, ?_⟩
    rw [e] at hk
    exact hk
  · have e := e.trans (cond_f c_1)
    have c_1n := nt_of_f c_1
    refine T_math_Abs_i ?_
    refine Br.intro (fun c_2 => ?_) (fun c_2 => ?_)
    · have e := e.trans (cond_t c_2)
      rw [e] at hk
      exact hk
    · have e := e.trans (cond_f c_2)
      refine T_impl_fraction_i ⟨(by first | assumption | omega | (simp; omega) | (exact abs_in (by assumption) (by assumption))), ?_⟩
      have z_3 := impl_fraction_bd turns (by first | assumption | exact abs_in (by assumption) (by assumption))
      refine impl_PhasorOf_L1 _ _ _ _ (fun (μ : Nat) (f : Nat) (q : Int) (H_1 : AHeap) => H = H_1 ∧ Bd .f64 (lp .f64) f ∧ 0 ≤ q ∧ q + qm f ≤ 4 ∧ -4 ≤ qm f ∧ qm f ≤ (μ : Int) ∧ p_impl_PhasorOf turns = p_impl_PhasorOf_l1 turns (μ + 1) f q) (Int.toNat (qm (p_impl_fraction turns))) _ _ _ _ _ _ _ _ H ?_ ?_
      · exact ⟨rfl, (by first | omega | (simp; done) | (simp; omega) | (first | omega | assumption | with_reducible exact (qm_step (by assumption) (by assumption)).1 | (have := (qm_step (by assumption) (by assumption)); have := qm_le (qm_step (by assumption) (by assumption)).1; omega) | (have := qm_le (by assumption : Bd .f64 (lp .f64) (p_impl_fraction turns)); omega))), (by first | omega | (simp; done) | (simp; omega) | (first | omega | assumption | with_reducible exact (qm_step (by assumption) (by assumption)).1 | (have := (qm_step (by assumption) (by assumption)); have := qm_le (qm_step (by assumption) (by assumption)).1; omega) | (have := qm_le (by assumption : Bd .f64 (lp .f64) (p_impl_fraction turns)); omega))), (by first | omega | (simp; done) | (simp; omega) | (first | omega | assumption | with_reducible exact (qm_step (by assumption) (by assumption)).1 | (have := (qm_step (by assumption) (by assumption)); have := qm_le (qm_step (by assumption) (by assumption)).1; omega) | (have := qm_le (by assumption : Bd .f64 (lp .f64) (p_impl_fraction turns)); omega))), (by first | omega | (simp; done) | (simp; omega) | (first | omega | assumption | with_reducible exact (qm_step (by assumption) (by assumption)).1 | (have := (qm_step (by assumption) (by assumption)); have := qm_le (qm_step (by assumption) (by assumption)).1; omega) | (have := qm_le (by assumption : Bd .f64 (lp .f64) (p_impl_fraction turns)); omega))), o4, e⟩
      · intro μ f q g21 g22 g23 g24 g25 g26 H_1 hI
        obtain ⟨rfl, v_4, v_5, v_6, v_7, hμ, e⟩ := hI
        rw [impl_PhasorOf_r1]
        have e := e.trans (p_impl_PhasorOf_l1_s turns μ f q)
        have l_8 := g0.1
        refine Br.intro (fun c_9 => ?_) (fun c_9 => ?_)
        · have e := e.trans (cond_t c_9)
          rw [show IntKind.wrap .i64 (q + 1) = (q + 1) from wrap64 o4 o4]
          refine impl_PhasorOf_n1 (μ - 1) o21 ⟨rfl, (by first | omega | (first | omega | assumption | with_reducible exact (qm_step (by assumption) (by assumption)).1 | (have := (qm_step (by assumption) (by assumption)); have := qm_le (qm_step (by assumption) (by assumption)).1; omega) | (have := qm_le (by assumption : Bd .f64 (lp .f64) (p_impl_fraction turns)); omega)) | (simp only [List.length_append, List.length_cons, List.length_nil, List.length_set]; done) | (simp only [List.length_append, List.length_cons, List.length_nil, List.length_set]; omega)), (by first | omega | (first | omega | assumption | with_reducible exact (qm_step (by assumption) (by assumption)).1 | (have := (qm_step (by assumption) (by assumption)); have := qm_le (qm_step (by assumption) (by assumption)).1; omega) | (have := qm_le (by assumption : Bd .f64 (lp .f64) (p_impl_fraction turns)); omega)) | (simp only [List.length_append, List.length_cons, List.length_nil, List.length_set]; done) | (simp only [List.length_append, List.length_cons, List.length_nil, List.length_set]; omega)), (by first | omega | (first | omega | assumption | with_reducible exact (qm_step (by assumption) (by assumption)).1 | (have := (qm_step (by assumption) (by assumption)); have := qm_le (qm_step (by assumption) (by assumption)).1; omega) | (have := qm_le (by assumption : Bd .f64 (lp .f64) (p_impl_fraction turns)); omega)) | (simp only [List.length_append, List.length_cons, List.length_nil, List.length_set]; done) | (simp only [List.length_append, List.length_cons, List.length_nil, List.length_set]; omega)), (by first | omega | (first | omega | assumption | with_reducible exact (qm_step (by assumption) (by assumption)).1 | (have := (qm_step (by assumption) (by assumption)); have := qm_le (qm_step (by assumption) (by assumption)).1; omega) | (have := qm_le (by assumption : Bd .f64 (lp .f64) (p_impl_fraction turns)); omega)) | (simp only [List.length_append, List.length_cons, List.length_nil, List.length_set]; done) | (simp only [List.length_append, List.length_cons, List.length_nil, List.length_set]; omega)), o21, (by rw [show μ - 1 + 1 = μ from by first | omega | (have := qm_step (by assumption) (by assumption); omega)]; exact e)⟩
        · have e := e.trans (cond_f c_9)
          rw [impl_PhasorOf_x1_0]
          refine T_impl_sine_i ⟨o25, ?_⟩
          have z_10 := impl_sine_bd (fsub .f64 4598175219545276416 f) (by first | exact lp_up (by assumption) | exact rest_bd (by assumption))
          refine T_impl_sine_i ⟨o25, ?_⟩
          have z_11 := impl_sine_bd f (by first | exact lp_up (by assumption) | exact rest_bd (by assumption))
          refine Br.intro (fun c_12 => ?_) (fun c_12 => ?_)
          · have e := e.trans (cond_t c_12)
            have c_12' := ieq_t c_12
            refine ⟨_, opt_get (d := 0) o15, ?_⟩
            refine ⟨_, opt_get (d := 0) o15, ?_⟩
            rw [e] at hk
            exact hk
          · have e := e.trans (cond_f c_12)
            have c_12' := ieq_f c_12
            refine Br.intro (fun c_13 => ?_) (fun c_13 => ?_)
            · have e := e.trans (cond_t c_13)
              have c_13' := ieq_t c_13
              refine ⟨_, opt_get (d := 0) o15, ?_⟩
              refine ⟨_, opt_get (d := 0) o15, ?_⟩
              rw [e] at hk
              exact hk
            · have e := e.trans (cond_f c_13)
              have c_13' := ieq_f c_13
              refine Br.intro (fun c_14 => ?_) (fun c_14 => ?_)
              · have e := e.trans (cond_t c_14)
                have c_14' := ieq_t c_14
                refine ⟨_, opt_get (d := 0) o15, ?_⟩
                refine ⟨_, opt_get (d := 0) o15, ?_⟩
                rw [e] at hk
                exact hk
              · have e := e.trans (cond_f c_14)
                have c_14' := ieq_f c_14
                refine ⟨_, opt_get (d := 0) o15, ?_⟩
                refine ⟨_, opt_get (d := 0) o15, ?_⟩
                rw [e] at hk
                exact hk
theorem impl_PhasorOf_ok : FnOk Try.prog 116 S_impl_PhasorOf := by
  refine FnOk.body mix_ok E_impl_PhasorOf_ok Try.func116 rfl (by kernel_rfl) (by kernel_rfl) ?_ ?_ ?_ ?_ ?_
  · intro args H K K' h hk
    simp only [S_impl_PhasorOf] at *
    unfold F_impl_PhasorOf at *
    split at hk
    · have k := hk
      exact h _ _ k
    · exact hk.elim
  · intro _ args H K hk
    simp only [S_impl_PhasorOf] at *
    unfold F_impl_PhasorOf at *
    split at hk
    · have k := hk
      exact ⟨_, k, fun K' k' => k'⟩
    · exact hk.elim
  · intro args H K hk
    simp only [S_impl_PhasorOf] at *
    unfold F_impl_PhasorOf at *
    split at hk
    · have k := hk
      exact ⟨_, _, k⟩
    · exact hk.elim
  · intro hq; cases hq
  · have mm := @impl_PhasorOf_main
    revert mm
    generalize bodyK Try.prog E_impl_PhasorOf Try.f116 = Q
    intro mm args H K hk
    simp only [S_impl_PhasorOf] at *
    unfold F_impl_PhasorOf at *
    split at hk
    · exact mm _ H K hk
    · exact hk.elim
def p_impl_ScaleComplex (x_r : Nat) (x_i : Nat) (vby : Nat) : Nat × Nat := (fmul .f32 x_r vby, fmul .f32 x_i vby)
def p_impl_ScaleComplex_eq := @p_impl_ScaleComplex.eq_1
def T_impl_ScaleComplex (x_r : Nat) (x_i : Nat) (vby : Nat) (H : AHeap) (K : Nat → Nat → AHeap → Prop) : Prop := K (p_impl_ScaleComplex x_r x_i vby).1 (p_impl_ScaleComplex x_r x_i vby).2 H

theorem T_impl_ScaleComplex_i {x_r : Nat} {x_i : Nat} {vby : Nat} {H : AHeap} {K : Nat → Nat → AHeap → Prop} (h : K (p_impl_ScaleComplex x_r x_i vby).1 (p_impl_ScaleComplex x_r x_i vby).2 H) : T_impl_ScaleComplex x_r x_i vby H K := h
/-! impl_ScaleComplex: function 115 -/
def E_impl_ScaleComplex : Env := envOf []
def F_impl_ScaleComplex : List Value → AHeap → (Value → AHeap → Prop) → Prop
  | [.complex .f32 x_r x_i, .float .f32 vby], H, K => T_impl_ScaleComplex x_r x_i vby H fun (r1_r : Nat) (r1_i : Nat) (H' : AHeap) => K (.complex .f32 r1_r r1_i) H'
  | _, _, _ => False
def S_impl_ScaleComplex : FSpec := { F := F_impl_ScaleComplex, quiet := true, tame := false }
theorem impl_ScaleComplex_vc (x_r : Nat) (x_i : Nat) (vby : Nat) (H : AHeap) (K : Value → AHeap → Prop) : bodyK Try.prog E_impl_ScaleComplex Try.f115 [.complex .f32 x_r x_i, .float .f32 vby] H K =
  (K (.complex .f32 (fmul .f32 x_r vby) (fmul .f32 x_i vby)) H) := by kernel_rfl
theorem E_impl_ScaleComplex_ok : ∀ g, FnOk Try.prog g (E_impl_ScaleComplex g) := FnOk.envOf (by
  intro x hx; cases hx)
set_option maxHeartbeats 1000000 in
theorem impl_ScaleComplex_main (x_r : Nat) (x_i : Nat) (vby : Nat) (H : AHeap) (K : Value → AHeap → Prop) (h : T_impl_ScaleComplex x_r x_i vby H fun (r1_r : Nat) (r1_i : Nat) (H' : AHeap) => K (.complex .f32 r1_r r1_i) H') : bodyK Try.prog E_impl_ScaleComplex Try.f115 [.complex .f32 x_r x_i, .float .f32 vby] H K := by
  rw [impl_ScaleComplex_vc]
  unfold T_impl_ScaleComplex p_impl_ScaleComplex at h
  repeat' (first | exact h | (exfalso; simp_all; done) | (refine ⟨by decide, ?_⟩) | (refine Br.intro (fun hb => ?_) (fun hb => ?_) <;> (try simp only [hb, cond_true, cond_false, Bool.not_true, Bool.not_false] at h)))
theorem impl_ScaleComplex_ok : FnOk Try.prog 115 S_impl_ScaleComplex := by
  refine FnOk.body mix_ok E_impl_ScaleComplex_ok Try.func115 rfl (by kernel_rfl) (by kernel_rfl) ?_ ?_ ?_ ?_ ?_
  · intro args H K K' h hk
    simp only [S_impl_ScaleComplex] at *
    unfold F_impl_ScaleComplex at *
    split at hk
    · have k := hk
      exact h _ _ k
    · exact hk.elim
  · intro _ args H K hk
    simp only [S_impl_ScaleComplex] at *
    unfold F_impl_ScaleComplex at *
    split at hk
    · have k := hk
      exact ⟨_, k, fun K' k' => k'⟩
    · exact hk.elim
  · intro args H K hk
    simp only [S_impl_ScaleComplex] at *
    unfold F_impl_ScaleComplex at *
    split at hk
    · have k := hk
      exact ⟨_, _, k⟩
    · exact hk.elim
  · intro hq; cases hq
  · have mm := @impl_ScaleComplex_main
    revert mm
    generalize bodyK Try.prog E_impl_ScaleComplex Try.f115 = Q
    intro mm args H K hk
    simp only [S_impl_ScaleComplex] at *
    unfold F_impl_ScaleComplex at *
    split at hk
    · exact mm _ _ _ H K hk
    · exact hk.elim

def p_impl_kernel_l1 (scale : Nat) : Nat → (List (Nat × Nat)) → Int → (List (Nat × Nat)) × Int
  | 0, _, _ => ([], 0)
  | μ + 1, l_vout, t18 => (bif decide ((t18 : Int) < (((2 * (((ftoi .f64 ((p_math_Ceil (fwide (fmul .f32 1077936128 scale)))) .i64).getD 0)))) + 1)) then (p_impl_kernel_l1 scale μ ((l_vout ++ [((p_impl_ScaleComplex ((p_impl_PhasorOf (fwide (fdiv .f32 (FloatKind.nearest .f32 ((t18 - (((ftoi .f64 ((p_math_Ceil (fwide (fmul .f32 1077936128 scale)))) .i64).getD 0))))) scale))).1) ((p_impl_PhasorOf (fwide (fdiv .f32 (FloatKind.nearest .f32 ((t18 - (((ftoi .f64 ((p_math_Ceil (fwide (fmul .f32 1077936128 scale)))) .i64).getD 0))))) scale))).2) (fdiv .f32 ((p_impl_ExpNumber (fmul .f32 (fmul .f32 3204448256 (fdiv .f32 (FloatKind.nearest .f32 ((t18 - (((ftoi .f64 ((p_math_Ceil (fwide (fmul .f32 1077936128 scale)))) .i64).getD 0))))) scale)) (fdiv .f32 (FloatKind.nearest .f32 ((t18 - (((ftoi .f64 ((p_math_Ceil (fwide (fmul .f32 1077936128 scale)))) .i64).getD 0))))) scale)))) scale)).1, (p_impl_ScaleComplex ((p_impl_PhasorOf (fwide (fdiv .f32 (FloatKind.nearest .f32 ((t18 - (((ftoi .f64 ((p_math_Ceil (fwide (fmul .f32 1077936128 scale)))) .i64).getD 0))))) scale))).1) ((p_impl_PhasorOf (fwide (fdiv .f32 (FloatKind.nearest .f32 ((t18 - (((ftoi .f64 ((p_math_Ceil (fwide (fmul .f32 1077936128 scale)))) .i64).getD 0))))) scale))).2) (fdiv .f32 ((p_impl_ExpNumber (fmul .f32 (fmul .f32 3204448256 (fdiv .f32 (FloatKind.nearest .f32 ((t18 - (((ftoi .f64 ((p_math_Ceil (fwide (fmul .f32 1077936128 scale)))) .i64).getD 0))))) scale)) (fdiv .f32 (FloatKind.nearest .f32 ((t18 - (((ftoi .f64 ((p_math_Ceil (fwide (fmul .f32 1077936128 scale)))) .i64).getD 0))))) scale)))) scale)).2)])) (t18 + 1)) else (l_vout, ((ftoi .f64 ((p_math_Ceil (fwide (fmul .f32 1077936128 scale)))) .i64).getD 0)))
def p_impl_kernel_l1_s := fun scale μ l_vout t18 => @p_impl_kernel_l1.eq_2 scale l_vout t18 μ
def p_impl_kernel (scale : Nat) : (List (Nat × Nat)) × Int := (p_impl_kernel_l1 scale (Int.toNat ((((2 * (((ftoi .f64 ((p_math_Ceil (fwide (fmul .f32 1077936128 scale)))) .i64).getD 0)))) + 1) - (0 : Int)) + 1) (([] : List (Nat × Nat))) (0 : Int))
def p_impl_kernel_eq := @p_impl_kernel.eq_1
def T_impl_kernel (scale : Nat) (H : AHeap) (K : (Option Addr) → Nat → Nat → Int → AHeap → Prop) : Prop := (bif fle .f32 1056964608 scale then fle .f32 scale 1098907648 else false) = true ∧ ((∀ (r1_a : Option Addr) (r1_n r1_e : Nat), ∀ H' : AHeap, Grow H H' → OwnS fC H' H.length r1_a r1_n r1_e ((p_impl_kernel scale).1) → K r1_a r1_n r1_e ((p_impl_kernel scale).2) H'))
theorem T_impl_kernel_i {scale : Nat} {H : AHeap} {K : (Option Addr) → Nat → Nat → Int → AHeap → Prop} (h : (bif fle .f32 1056964608 scale then fle .f32 scale 1098907648 else false) = true ∧ ((∀ (r1_a : Option Addr) (r1_n r1_e : Nat), ∀ H' : AHeap, Grow H H' → OwnS fC H' H.length r1_a r1_n r1_e ((p_impl_kernel scale).1) → K r1_a r1_n r1_e ((p_impl_kernel scale).2) H'))) : T_impl_kernel scale H K := h
theorem impl_kernel_l1_len (x : Nat) : ∀ (μ : Nat) (o : List (Nat × Nat)) (k : Int), (p_impl_kernel_l1 x μ o k).1.length ≤ o.length + μ ∧ ((p_impl_kernel_l1 x μ o k).2 = 0 ∨ (p_impl_kernel_l1 x μ o k).2 = (ftoi .f64 (p_math_Ceil (fwide (fmul .f32 1077936128 x))) .i64).getD 0) := by
  intro μ
  induction μ with
  | zero => intro o k; exact ⟨Nat.zero_le _, .inl rfl⟩
  | succ μ ih =>
    intro o k
    rw [p_impl_kernel_l1_s]
    cases decide (k < (((2 * (((ftoi .f64 ((p_math_Ceil (fwide (fmul .f32 1077936128 x)))) .i64).getD 0)))) + 1))
    · exact ⟨by show o.length ≤ _; omega, .inr rfl⟩
    · simp only [cond_true]
      refine ⟨Nat.le_trans (ih _ _).1 ?_, (ih _ _).2⟩
      rw [List.length_append, List.length_singleton]; omega
theorem impl_kernel_len (x : Nat) (h : (bif fle .f32 1056964608 x then fle .f32 x 1098907648 else false) = true) : (p_impl_kernel x).1.length ≤ 1000 ∧ -256 ≤ (p_impl_kernel x).2 ∧ (p_impl_kernel x).2 ≤ 256 := by
  have hr : -256 ≤ (ftoi .f64 (p_math_Ceil (fwide (fmul .f32 1077936128 x))) .i64).getD 0 ∧ (ftoi .f64 (p_math_Ceil (fwide (fmul .f32 1077936128 x))) .i64).getD 0 ≤ 256 := rad_le h
  rw [p_impl_kernel_eq]
  obtain ⟨a, b⟩ := impl_kernel_l1_len x (Int.toNat ((((2 * (((ftoi .f64 ((p_math_Ceil (fwide (fmul .f32 1077936128 x)))) .i64).getD 0)))) + 1) - (0 : Int)) + 1) (([] : List (Nat × Nat))) (0 : Int)
  rw [List.length_nil] at a
  rcases b with b | b <;> rw [b] <;> exact ⟨by omega, by omega, by omega⟩
/-! impl_kernel: function 87 -/
def E_impl_kernel : Env := envOf [(108, S_math_Ceil), (114, S_impl_ExpNumber), (116, S_impl_PhasorOf), (115, S_impl_ScaleComplex)]
def F_impl_kernel : List Value → AHeap → (Value → AHeap → Prop) → Prop
  | [.float .f32 scale], H, K => T_impl_kernel scale H fun (r1_a : Option Addr) (r1_n : Nat) (r1_e : Nat) (r2 : Int) (H' : AHeap) => K (.tuple #[.slice r1_a r1_n r1_e, .int .i64 r2]) H'
  | _, _, _ => False
def S_impl_kernel : FSpec := { F := F_impl_kernel, quiet := false, tame := true }
theorem impl_kernel_vc (scale : Nat) (H : AHeap) (K : Value → AHeap → Prop) : bodyK Try.prog E_impl_kernel Try.f87 [.float .f32 scale] H K =
  (T_math_Ceil (fwide (fmul .f32 1077936128 scale)) H fun (r1 : Nat) (H1 : AHeap) => ∃ n1 : Int, ftoi .f64 r1 .i64 = some n1 ∧ Al [] H1 fun b1 H2 => loopK (exK Try.prog E_impl_kernel (cl (cl (cr (cl (cr (cr (cr (bodyC Try.f87))))))))) [.float .f32 scale, undef, .slice none 0 0, .int .i64 0, .int .i64 n1, .slice (some ⟨b1, 0, none⟩) 0 1, undef, undef, undef, .float .f32 scale, .float .f32 (fmul .f32 1077936128 scale), .float .f64 (fwide (fmul .f32 1077936128 scale)), .float .f64 r1, .int .i64 n1, .slice (some ⟨b1, 0, none⟩) 0 1, .int .i64 n1, .int .i64 (IntKind.wrap .i64 (2 * n1)), .int .i64 (IntKind.wrap .i64 ((IntKind.wrap .i64 (2 * n1)) + 1)), .int .i64 0, undef, undef, undef, undef, undef, undef, undef, undef, undef, undef, undef, undef, undef, undef, undef, undef, undef, undef, undef, undef, undef, undef, undef, undef, undef, undef] H2 (blockQ 0 (seqQ (exK Try.prog E_impl_kernel (cr (cr (cr (cr (bodyC Try.f87)))))) (retK Try.prog Try.f87 K)))) := by kernel_rfl
abbrev impl_kernel_P1 (b1 : Nat) (n1 : Int) (r1 : Nat) (scale : Nat) (z1_16 : Int) (z1_17 : Int) (vout_a : Option Addr) (vout_n : Nat) (vout_e : Nat) (t18 : Int) (g6 g7 g8 g19 g20 g21 g22 g23 g24 g25 g26 g27 g28 g29 g30 g31 g32 g33 g34 g35 g36 g37 g38 g39 g40 g41 g42 : Value) : List Value := [.float .f32 scale, undef, .slice none 0 0, .int .i64 0, .int .i64 n1, .slice vout_a vout_n vout_e, g6, g7, g8, .float .f32 scale, .float .f32 (fmul .f32 1077936128 scale), .float .f64 (fwide (fmul .f32 1077936128 scale)), .float .f64 r1, .int .i64 n1, .slice (some ⟨b1, 0, none⟩) 0 1, .int .i64 n1, .int .i64 z1_16, .int .i64 z1_17, .int .i64 t18, g19, g20, g21, g22, g23, g24, g25, g26, g27, g28, g29, g30, g31, g32, g33, g34, g35, g36, g37, g38, g39, g40, g41, g42, undef, undef]
theorem impl_kernel_r1 (b1 : Nat) (n1 : Int) (r1 : Nat) (scale : Nat) (z1_16 : Int) (z1_17 : Int) (vout_a : Option Addr) (vout_n : Nat) (vout_e : Nat) (t18 : Int) (g6 g7 g8 g19 g20 g21 g22 g23 g24 g25 g26 g27 g28 g29 g30 g31 g32 g33 g34 g35 g36 g37 g38 g39 g40 g41 g42 : Value) (H : AHeap) (R : Post) : exK Try.prog E_impl_kernel (cl (cl (cr (cl (cr (cr (cr (bodyC Try.f87)))))))) (impl_kernel_P1 b1 n1 r1 scale z1_16 z1_17 vout_a vout_n vout_e t18 g6 g7 g8 g19 g20 g21 g22 g23 g24 g25 g26 g27 g28 g29 g30 g31 g32 g33 g34 g35 g36 g37 g38 g39 g40 g41 g42) H R =
  (Br (decide ((t18 : Int) < z1_17)) (T_impl_ExpNumber (fmul .f32 (fmul .f32 3204448256 (fdiv .f32 (FloatKind.nearest .f32 (IntKind.wrap .i64 (t18 - n1))) scale)) (fdiv .f32 (FloatKind.nearest .f32 (IntKind.wrap .i64 (t18 - n1))) scale)) H fun (r2 : Nat) (H3 : AHeap) => T_impl_PhasorOf (fwide (fdiv .f32 (FloatKind.nearest .f32 (IntKind.wrap .i64 (t18 - n1))) scale)) H3 fun (r3 : Nat) (r4 : Nat) (H4 : AHeap) => T_impl_ScaleComplex r3 r4 (fdiv .f32 r2 scale) H4 fun (r5 : Nat) (r6 : Nat) (H5 : AHeap) => Al [.complex .f32 r5 r6] H5 fun b2 H6 => ∃ o1 w1 : List Value, ownB H6 vout_a vout_n vout_e 1 = some o1 ∧ rdS H6 (some ⟨b2, 0, none⟩) (1 * 1) = some w1 ∧ ((vout_a : Option Addr) = none → 0 < (1 : Nat)) ∧ (vout_n : Nat) + 1 < most ∧ Ap H6 (killB H6 vout_a ++ [some ⟨o1 ++ w1, true⟩]) fun b3 H7 => R .normal [.float .f32 scale, undef, .slice none 0 0, .int .i64 0, .int .i64 n1, .slice (some ⟨b3, 0, none⟩) (vout_n + 1) 1, .int .i64 t18, .float .f32 (fdiv .f32 (FloatKind.nearest .f32 (IntKind.wrap .i64 (t18 - n1))) scale), .float .f32 (fdiv .f32 r2 scale), .float .f32 scale, .float .f32 (fmul .f32 1077936128 scale), .float .f64 (fwide (fmul .f32 1077936128 scale)), .float .f64 r1, .int .i64 n1, .slice (some ⟨b1, 0, none⟩) 0 1, .int .i64 n1, .int .i64 z1_16, .int .i64 z1_17, .int .i64 (IntKind.wrap .i64 (t18 + 1)), .bool (decide ((t18 : Int) < z1_17)), .int .i64 t18, .int .i64 t18, .int .i64 n1, .int .i64 (IntKind.wrap .i64 (t18 - n1)), .float .f32 (FloatKind.nearest .f32 (IntKind.wrap .i64 (t18 - n1))), .float .f32 scale, .float .f32 (fdiv .f32 (FloatKind.nearest .f32 (IntKind.wrap .i64 (t18 - n1))) scale), .float .f32 (fdiv .f32 (FloatKind.nearest .f32 (IntKind.wrap .i64 (t18 - n1))) scale), .float .f32 (fmul .f32 3204448256 (fdiv .f32 (FloatKind.nearest .f32 (IntKind.wrap .i64 (t18 - n1))) scale)), .float .f32 (fdiv .f32 (FloatKind.nearest .f32 (IntKind.wrap .i64 (t18 - n1))) scale), .float .f32 (fmul .f32 (fmul .f32 3204448256 (fdiv .f32 (FloatKind.nearest .f32 (IntKind.wrap .i64 (t18 - n1))) scale)) (fdiv .f32 (FloatKind.nearest .f32 (IntKind.wrap .i64 (t18 - n1))) scale)), .float .f32 r2, .float .f32 scale, .float .f32 (fdiv .f32 r2 scale), .slice vout_a vout_n vout_e, .float .f32 (fdiv .f32 (FloatKind.nearest .f32 (IntKind.wrap .i64 (t18 - n1))) scale), .float .f64 (fwide (fdiv .f32 (FloatKind.nearest .f32 (IntKind.wrap .i64 (t18 - n1))) scale)), .complex .f32 r3 r4, .float .f32 (fdiv .f32 r2 scale), .complex .f32 r5 r6, .slice (some ⟨b2, 0, none⟩) 1 1, .slice (some ⟨b3, 0, none⟩) (vout_n + 1) 1, .int .i64 (IntKind.wrap .i64 (t18 + 1)), undef, undef] H7) (R (.exit 0) [.float .f32 scale, undef, .slice none 0 0, .int .i64 0, .int .i64 n1, .slice vout_a vout_n vout_e, g6, g7, g8, .float .f32 scale, .float .f32 (fmul .f32 1077936128 scale), .float .f64 (fwide (fmul .f32 1077936128 scale)), .float .f64 r1, .int .i64 n1, .slice (some ⟨b1, 0, none⟩) 0 1, .int .i64 n1, .int .i64 z1_16, .int .i64 z1_17, .int .i64 t18, .bool (decide ((t18 : Int) < z1_17)), g20, g21, g22, g23, g24, g25, g26, g27, g28, g29, g30, g31, g32, g33, g34, g35, g36, g37, g38, g39, g40, g41, g42, undef, undef] H)) := by kernel_rfl
def impl_kernel_I1 (b1 : Nat) (n1 : Int) (r1 : Nat) (scale : Nat) (z1_16 : Int) (z1_17 : Int) (Inv : Nat → (Option Addr) → Nat → Nat → Int → AHeap → Prop) : Nat → List Value → AHeap → Prop := fun μ tm H => ∃ (vout_a : Option Addr), ∃ (vout_n : Nat), ∃ (vout_e : Nat), ∃ (t18 : Int), ∃ g6 g7 g8 g19 g20 g21 g22 g23 g24 g25 g26 g27 g28 g29 g30 g31 g32 g33 g34 g35 g36 g37 g38 g39 g40 g41 g42, tm = (impl_kernel_P1 b1 n1 r1 scale z1_16 z1_17 vout_a vout_n vout_e t18 g6 g7 g8 g19 g20 g21 g22 g23 g24 g25 g26 g27 g28 g29 g30 g31 g32 g33 g34 g35 g36 g37 g38 g39 g40 g41 g42) ∧ Inv μ vout_a vout_n vout_e t18 H
theorem impl_kernel_L1 (b1 : Nat) (n1 : Int) (r1 : Nat) (scale : Nat) (z1_16 : Int) (z1_17 : Int) {Q : Post} (Inv : Nat → (Option Addr) → Nat → Nat → Int → AHeap → Prop) (ν : Nat) (vout_a : Option Addr) (vout_n : Nat) (vout_e : Nat) (t18 : Int) (g6 g7 g8 g19 g20 g21 g22 g23 g24 g25 g26 g27 g28 g29 g30 g31 g32 g33 g34 g35 g36 g37 g38 g39 g40 g41 g42 : Value) (H : AHeap) (h0 : Inv ν vout_a vout_n vout_e t18 H)
    (hs : ∀ (μ : Nat) (vout_a : Option Addr) (vout_n : Nat) (vout_e : Nat) (t18 : Int) (g6 g7 g8 g19 g20 g21 g22 g23 g24 g25 g26 g27 g28 g29 g30 g31 g32 g33 g34 g35 g36 g37 g38 g39 g40 g41 g42 : Value) (H : AHeap), Inv μ vout_a vout_n vout_e t18 H → exK Try.prog E_impl_kernel (cl (cl (cr (cl (cr (cr (cr (bodyC Try.f87)))))))) (impl_kernel_P1 b1 n1 r1 scale z1_16 z1_17 vout_a vout_n vout_e t18 g6 g7 g8 g19 g20 g21 g22 g23 g24 g25 g26 g27 g28 g29 g30 g31 g32 g33 g34 g35 g36 g37 g38 g39 g40 g41 g42) H (loopQ (impl_kernel_I1 b1 n1 r1 scale z1_16 z1_17 Inv) μ Q)) : loopK (exK Try.prog E_impl_kernel (cl (cl (cr (cl (cr (cr (cr (bodyC Try.f87))))))))) (impl_kernel_P1 b1 n1 r1 scale z1_16 z1_17 vout_a vout_n vout_e t18 g6 g7 g8 g19 g20 g21 g22 g23 g24 g25 g26 g27 g28 g29 g30 g31 g32 g33 g34 g35 g36 g37 g38 g39 g40 g41 g42) H Q :=
  ⟨impl_kernel_I1 b1 n1 r1 scale z1_16 z1_17 Inv, ν, ⟨vout_a, vout_n, vout_e, t18, g6, g7, g8, g19, g20, g21, g22, g23, g24, g25, g26, g27, g28, g29, g30, g31, g32, g33, g34, g35, g36, g37, g38, g39, g40, g41, g42, rfl, h0⟩, fun μ tm H h => by obtain ⟨vout_a, vout_n, vout_e, t18, g6, g7, g8, g19, g20, g21, g22, g23, g24, g25, g26, g27, g28, g29, g30, g31, g32, g33, g34, g35, g36, g37, g38, g39, g40, g41, g42, rfl, hI⟩ := h; exact hs μ vout_a vout_n vout_e t18 g6 g7 g8 g19 g20 g21 g22 g23 g24 g25 g26 g27 g28 g29 g30 g31 g32 g33 g34 g35 g36 g37 g38 g39 g40 g41 g42 H hI⟩
theorem impl_kernel_n1 {b1 : Nat} {n1 : Int} {r1 : Nat} {scale : Nat} {z1_16 : Int} {z1_17 : Int} {Q : Post} {Inv : Nat → (Option Addr) → Nat → Nat → Int → AHeap → Prop} {μ : Nat} (μ' : Nat) {vout_a : Option Addr} {vout_n : Nat} {vout_e : Nat} {t18 : Int} {g6 g7 g8 g19 g20 g21 g22 g23 g24 g25 g26 g27 g28 g29 g30 g31 g32 g33 g34 g35 g36 g37 g38 g39 g40 g41 g42 : Value} {H : AHeap} (hm : μ' < μ) (hI : Inv μ' vout_a vout_n vout_e t18 H) : loopQ (impl_kernel_I1 b1 n1 r1 scale z1_16 z1_17 Inv) μ Q .normal (impl_kernel_P1 b1 n1 r1 scale z1_16 z1_17 vout_a vout_n vout_e t18 g6 g7 g8 g19 g20 g21 g22 g23 g24 g25 g26 g27 g28 g29 g30 g31 g32 g33 g34 g35 g36 g37 g38 g39 g40 g41 g42) H := ⟨μ', hm, vout_a, vout_n, vout_e, t18, g6, g7, g8, g19, g20, g21, g22, g23, g24, g25, g26, g27, g28, g29, g30, g31, g32, g33, g34, g35, g36, g37, g38, g39, g40, g41, g42, rfl, hI⟩
theorem impl_kernel_x1_0 (b1 : Nat) (n1 : Int) (r1 : Nat) (scale : Nat) (z1_16 : Int) (z1_17 : Int) (vout_a : Option Addr) (vout_n : Nat) (vout_e : Nat) (t18 : Int) (g6 g7 g8 g19 g20 g21 g22 g23 g24 g25 g26 g27 g28 g29 g30 g31 g32 g33 g34 g35 g36 g37 g38 g39 g40 g41 g42 : Value) (H : AHeap) (K : Value → AHeap → Prop)  {I : Nat → List Value → AHeap → Prop} {μ : Nat} : loopQ I μ (blockQ 0 (seqQ (exK Try.prog E_impl_kernel (cr (cr (cr (cr (bodyC Try.f87)))))) (retK Try.prog Try.f87 K))) (.exit 0) (impl_kernel_P1 b1 n1 r1 scale z1_16 z1_17 vout_a vout_n vout_e t18 g6 g7 g8 g19 g20 g21 g22 g23 g24 g25 g26 g27 g28 g29 g30 g31 g32 g33 g34 g35 g36 g37 g38 g39 g40 g41 g42) H =
  (K (.tuple #[.slice vout_a vout_n vout_e, .int .i64 n1]) H) := by kernel_rfl
theorem E_impl_kernel_ok : ∀ g, FnOk Try.prog g (E_impl_kernel g) := FnOk.envOf (by
  intro x hx
  simp only [List.mem_cons, List.not_mem_nil, or_false] at hx
  rcases hx with rfl | rfl | rfl | rfl
  · exact math_Ceil_ok
  · exact impl_ExpNumber_ok
  · exact impl_PhasorOf_ok
  · exact impl_ScaleComplex_ok)
set_option maxHeartbeats 1000000 in
theorem impl_kernel_main (scale : Nat) (H : AHeap) (K : Value → AHeap → Prop) (h : T_impl_kernel scale H fun (r1_a : Option Addr) (r1_n : Nat) (r1_e : Nat) (r2 : Int) (H' : AHeap) => K (.tuple #[.slice r1_a r1_n r1_e, .int .i64 r2]) H') : bodyK Try.prog E_impl_kernel Try.f87 [.float .f32 scale] H K := by
  rw [impl_kernel_vc]
  obtain ⟨pr0, hk⟩ := h
  have hr : -256 ≤ (ftoi .f64 (p_math_Ceil (fwide (fmul .f32 1077936128 scale))) .i64).getD 0 ∧ (ftoi .f64 (p_math_Ceil (fwide (fmul .f32 1077936128 scale))) .i64).getD 0 ≤ 256 := rad_le (by assumption)
  have e : (p_impl_kernel scale) = _ := rfl
  have e := e.trans (p_impl_kernel_eq scale)
  have g0 := Grow.refl H
  refine T_math_Ceil_i ?_
  refine ⟨_, opt_get (d := 0) (by exact rad_ne (by assumption)), ?_⟩
  refine Al.intro (fun b_1 H_1 hb_2 hl_3 g_4 o_5 => ?_)
  have o_5 : Own H_1 b_1 ((([] : List (Nat × Nat))).map fC) := o_5
  have l_7 := g_4.1
  have g_8 := g0.trans g_4
  have l_9 := g_8.1
  have w_45 := o_5.lt
  rw [show IntKind.wrap .i64 (2 * (((ftoi .f64 ((p_math_Ceil (fwide (fmul .f32 1077936128 scale)))) .i64).getD 0))) = (2 * (((ftoi .f64 ((p_math_Ceil (fwide (fmul .f32 1077936128 scale)))) .i64).getD 0))) from wrap64 o4 o4]
  rw [show IntKind.wrap .i64 (((2 * (((ftoi .f64 ((p_math_Ceil (fwide (fmul .f32 1077936128 scale)))) .i64).getD 0)))) + 1) = (((2 * (((ftoi .f64 ((p_math_Ceil (fwide (fmul .f32 1077936128 scale)))) .i64).getD 0)))) + 1) from wrap64 o4 o4]
  refine impl_kernel_L1 _ _ _ _ _ _ (fun (μ : Nat) (vout_a : Option Addr) (vout_n : Nat) (vout_e : Nat) (t18 : Int) (H_2 : AHeap) => ∃ (l_vout : List (Nat × Nat)), ∃ (b_10 : Nat), vout_a = some ⟨b_10, 0, none⟩ ∧ vout_n = l_vout.length ∧ vout_e = 1 ∧ Own H_2 b_10 (l_vout.map fC) ∧ Grow H H_2 ∧ H.length ≤ b_10 ∧ (0 : Int) ≤ t18 ∧ ((t18 ≤ (((2 * (((ftoi .f64 ((p_math_Ceil (fwide (fmul .f32 1077936128 scale)))) .i64).getD 0)))) + 1) ∨ t18 ≤ (0 : Int))) ∧ (l_vout.length : Int) ≤ t18 - (0 : Int) + 0 ∧ (l_vout.length : Int) ≤ t18 ∧ (((2 * (((ftoi .f64 ((p_math_Ceil (fwide (fmul .f32 1077936128 scale)))) .i64).getD 0)))) + 1) - t18 ≤ (μ : Int) ∧ p_impl_kernel scale = p_impl_kernel_l1 scale (μ + 1) l_vout t18) (Int.toNat ((((2 * (((ftoi .f64 ((p_math_Ceil (fwide (fmul .f32 1077936128 scale)))) .i64).getD 0)))) + 1) - (0 : Int))) _ _ _ _ _ _ _ _ _ _ _ _ _ _ _ _ _ _ _ _ _ _ _ _ _ _ _ _ _ _ _ H_1 ?_ ?_
  · exact ⟨_, _, rfl, o8, rfl, o_5, g_8, o4, o5, o5, o5, o5, o4, e⟩
  · intro μ vout_a vout_n vout_e t18 g6 g7 g8 g19 g20 g21 g22 g23 g24 g25 g26 g27 g28 g29 g30 g31 g32 g33 g34 g35 g36 g37 g38 g39 g40 g41 g42 H_2 hI
    obtain ⟨l_vout, b_10, rfl, rfl, rfl, o_11, g_12, l_13, v_14, v_15, v_16, v_17, hμ, e⟩ := hI
    rw [impl_kernel_r1]
    have e := e.trans (p_impl_kernel_l1_s scale μ l_vout t18)
    have w_18 := o_11.lt
    have l_19 := g_12.1
    refine Br.intro (fun c_20 => ?_) (fun c_20 => ?_)
    · have e := e.trans (cond_t c_20)
      have c_20' := of_decide_eq_true c_20
      rw [show IntKind.wrap .i64 (t18 - (((ftoi .f64 ((p_math_Ceil (fwide (fmul .f32 1077936128 scale)))) .i64).getD 0))) = (t18 - (((ftoi .f64 ((p_math_Ceil (fwide (fmul .f32 1077936128 scale)))) .i64).getD 0))) from wrap64 o4 o4]
      refine T_impl_ExpNumber_i ⟨(by first | assumption | omega | (simp; omega) | (exact impl_expWide_nar (sq_neg (by decide +kernel)))), ?_⟩
      refine T_impl_PhasorOf_i ?_
      refine T_impl_ScaleComplex_i ?_
      refine Al.intro (fun b_21 H_3 hb_22 hl_23 g_24 o_25 => ?_)
      have o_25 : Own H_3 b_21 (([((p_impl_ScaleComplex ((p_impl_PhasorOf (fwide (fdiv .f32 (FloatKind.nearest .f32 ((t18 - (((ftoi .f64 ((p_math_Ceil (fwide (fmul .f32 1077936128 scale)))) .i64).getD 0))))) scale))).1) ((p_impl_PhasorOf (fwide (fdiv .f32 (FloatKind.nearest .f32 ((t18 - (((ftoi .f64 ((p_math_Ceil (fwide (fmul .f32 1077936128 scale)))) .i64).getD 0))))) scale))).2) (fdiv .f32 ((p_impl_ExpNumber (fmul .f32 (fmul .f32 3204448256 (fdiv .f32 (FloatKind.nearest .f32 ((t18 - (((ftoi .f64 ((p_math_Ceil (fwide (fmul .f32 1077936128 scale)))) .i64).getD 0))))) scale)) (fdiv .f32 (FloatKind.nearest .f32 ((t18 - (((ftoi .f64 ((p_math_Ceil (fwide (fmul .f32 1077936128 scale)))) .i64).getD 0))))) scale)))) scale)).1, (p_impl_ScaleComplex ((p_impl_PhasorOf (fwide (fdiv .f32 (FloatKind.nearest .f32 ((t18 - (((ftoi .f64 ((p_math_Ceil (fwide (fmul .f32 1077936128 scale)))) .i64).getD 0))))) scale))).1) ((p_impl_PhasorOf (fwide (fdiv .f32 (FloatKind.nearest .f32 ((t18 - (((ftoi .f64 ((p_math_Ceil (fwide (fmul .f32 1077936128 scale)))) .i64).getD 0))))) scale))).2) (fdiv .f32 ((p_impl_ExpNumber (fmul .f32 (fmul .f32 3204448256 (fdiv .f32 (FloatKind.nearest .f32 ((t18 - (((ftoi .f64 ((p_math_Ceil (fwide (fmul .f32 1077936128 scale)))) .i64).getD 0))))) scale)) (fdiv .f32 (FloatKind.nearest .f32 ((t18 - (((ftoi .f64 ((p_math_Ceil (fwide (fmul .f32 1077936128 scale)))) .i64).getD 0))))) scale)))) scale)).2)]).map fC) := o_25
      have l_27 := g_24.1
      have g_28 := g_12.trans g_24
      have l_29 := g_28.1
      have o_30 := o_11.grow g_24
      have w_31 := o_30.lt
      have w_44 := o_25.lt
      refine ⟨_, _, o_30.ownB o9 rfl, (isl_rdS (o_25.isL o8)), (fun h => by cases h), o24, ?_⟩
      refine Ap.app o_30 rfl rfl (fun b_36 H_4 q_42 hl_32 o_33 k_34 => ?_)
      have o_33 := map_snoc o_33
      have l_37 := k_34.1
      have g_38 := g_28.keep (b := b_10) o4 k_34
      have l_39 := g_38.1
      have o_40 := o_25.keep o4 k_34
      have w_41 := o_40.lt
      have w_43 := o_33.lt
      rw [show IntKind.wrap .i64 (t18 + 1) = (t18 + 1) from wrap64 o4 o4]
      refine impl_kernel_n1 (μ - 1) o12 ⟨_, _, rfl, o11, rfl, o_33, g_38, o4, o1, o1, o1, o1, o12, (by rw [show μ - 1 + 1 = μ from by first | omega]; exact e)⟩
    · have e := e.trans (cond_f c_20)
      have c_20' := of_decide_eq_false c_20
      rw [impl_kernel_x1_0]
      rw [e] at hk
      exact hk _ _ _ H_2 g_12 (o_11.ownS o8 o4)
theorem impl_kernel_ok : FnOk Try.prog 87 S_impl_kernel := by
  refine FnOk.body mix_ok E_impl_kernel_ok Try.func87 rfl (by kernel_rfl) (by kernel_rfl) ?_ ?_ ?_ ?_ ?_
  · intro args H K K' h hk
    simp only [S_impl_kernel] at *
    unfold F_impl_kernel at *
    split at hk
    · obtain ⟨pr0, k⟩ := hk
      exact ⟨pr0, (fun r1_a r1_n r1_e H' gg ow0 => h _ _ (k r1_a r1_n r1_e H' gg ow0))⟩
    · exact hk.elim
  · intro hq; cases hq
  · intro args H K hk
    simp only [S_impl_kernel] at *
    unfold F_impl_kernel at *
    split at hk
    · obtain ⟨pr0, k⟩ := hk
      exact liveS fun a n e H1 g o => ⟨_, _, k a n e H1 g o⟩
    · exact hk.elim
  · intro _ args H K hk
    simp only [S_impl_kernel] at *
    unfold F_impl_kernel at *
    split at hk
    · obtain ⟨pr0, k⟩ := hk
      exact ⟨pr0, (fun r1_a r1_n r1_e H' gg ow0 => ⟨gg, k r1_a r1_n r1_e H' gg ow0⟩)⟩
    · exact hk.elim
  · have mm := @impl_kernel_main
    revert mm
    generalize bodyK Try.prog E_impl_kernel Try.f87 = Q
    intro mm args H K hk
    simp only [S_impl_kernel] at *
    unfold F_impl_kernel at *
    split at hk
    · exact mm _ H K hk
    · exact hk.elim
end Go.Proofs.Ytghkkclonabpkab.Ai
