/- What functions of the program come to on the abstract machine, and that they do so; printed by a program of mine around proofs of mine. -/
import Derived.Test.YtghkkclonabpkabFFnExactPursueOnce0
set_option linter.unusedVariables false
set_option linter.unusedSimpArgs false
set_option linter.defProp false
set_option maxRecDepth 100000
namespace Go.Proofs.Ytghkkclonabpkab.Ai
open Go
attribute [local irreducible] bodyK
def p_math_Sqrt (x : Nat) : Nat := (p_math_sqrt x)
def p_math_Sqrt_eq := @p_math_Sqrt.eq_1
def T_math_Sqrt (x : Nat) (H : AHeap) (K : Nat → AHeap → Prop) : Prop := K (p_math_Sqrt x) H

theorem T_math_Sqrt_i {x : Nat} {H : AHeap} {K : Nat → AHeap → Prop} (h : K (p_math_Sqrt x) H) : T_math_Sqrt x H K := h
/-! math_Sqrt: function 113 -/
def E_math_Sqrt : Env := envOf [(156, S_math_sqrt)]
def F_math_Sqrt : List Value → AHeap → (Value → AHeap → Prop) → Prop
  | [.float .f64 x], H, K => T_math_Sqrt x H fun (r1 : Nat) (H' : AHeap) => K (.float .f64 r1) H'
  | _, _, _ => False
def S_math_Sqrt : FSpec := { F := F_math_Sqrt, quiet := true, tame := false }
theorem math_Sqrt_vc (x : Nat) (H : AHeap) (K : Value → AHeap → Prop) : bodyK Try.prog E_math_Sqrt Try.f113 [.float .f64 x] H K =
  (T_math_sqrt x H fun (r1 : Nat) (H1 : AHeap) => K (.float .f64 r1) H1) := by kernel_rfl
theorem E_math_Sqrt_ok : ∀ g, FnOk Try.prog g (E_math_Sqrt g) := FnOk.envOf (by
  intro x hx
  simp only [List.mem_cons, List.not_mem_nil, or_false] at hx
  subst hx; exact math_sqrt_ok)
set_option maxHeartbeats 1000000 in
theorem math_Sqrt_main (x : Nat) (H : AHeap) (K : Value → AHeap → Prop) (h : T_math_Sqrt x H fun (r1 : Nat) (H' : AHeap) => K (.float .f64 r1) H') : bodyK Try.prog E_math_Sqrt Try.f113 [.float .f64 x] H K := by
  rw [math_Sqrt_vc]
  simp only [T_math_sqrt]
  unfold T_math_Sqrt p_math_Sqrt at h
  repeat' (first | exact h | (exfalso; simp_all; done) | (refine ⟨by decide, ?_⟩) | (refine Br.intro (fun hb => ?_) (fun hb => ?_) <;> (try simp only [hb, cond_true, cond_false, Bool.not_true, Bool.not_false] at h)))
theorem math_Sqrt_ok : FnOk Try.prog 113 S_math_Sqrt := by
  refine FnOk.body mix_ok E_math_Sqrt_ok Try.func113 rfl (by kernel_rfl) (by kernel_rfl) ?_ ?_ ?_ ?_ ?_
  · intro args H K K' h hk
    simp only [S_math_Sqrt] at *
    unfold F_math_Sqrt at *
    split at hk
    · have k := hk
      exact h _ _ k
    · exact hk.elim
  · intro _ args H K hk
    simp only [S_math_Sqrt] at *
    unfold F_math_Sqrt at *
    split at hk
    · have k := hk
      exact ⟨_, k, fun K' k' => k'⟩
    · exact hk.elim
  · intro args H K hk
    simp only [S_math_Sqrt] at *
    unfold F_math_Sqrt at *
    split at hk
    · have k := hk
      exact ⟨_, _, k⟩
    · exact hk.elim
  · intro hq; cases hq
  · have mm := @math_Sqrt_main
    revert mm
    generalize bodyK Try.prog E_math_Sqrt Try.f113 = Q
    intro mm args H K hk
    simp only [S_math_Sqrt] at *
    unfold F_math_Sqrt at *
    split at hk
    · exact mm _ H K hk
    · exact hk.elim

def p_spec_l01Sqrt (x : Nat) : Nat := (p_spec_l01Narrow ((p_math_Sqrt (fwide x))))
def p_spec_l01Sqrt_eq := @p_spec_l01Sqrt.eq_1
def T_spec_l01Sqrt (x : Nat) (H : AHeap) (K : Nat → AHeap → Prop) : Prop := K (p_spec_l01Sqrt x) H
theorem T_spec_l01Sqrt_i {x : Nat} {H : AHeap} {K : Nat → AHeap → Prop} (h : K (p_spec_l01Sqrt x) H) : T_spec_l01Sqrt x H K := h

/-! spec_l01Sqrt: function 85 -/
def E_spec_l01Sqrt : Env := envOf [(113, S_math_Sqrt), (112, S_spec_l01Narrow)]
def F_spec_l01Sqrt : List Value → AHeap → (Value → AHeap → Prop) → Prop
  | [.float .f32 x], H, K => T_spec_l01Sqrt x H fun (r1 : Nat) (H' : AHeap) => K (.float .f32 r1) H'
  | _, _, _ => False
def S_spec_l01Sqrt : FSpec := { F := F_spec_l01Sqrt, quiet := true, tame := false }
theorem spec_l01Sqrt_vc (x : Nat) (H : AHeap) (K : Value → AHeap → Prop) : bodyK Try.prog E_spec_l01Sqrt Try.f85 [.float .f32 x] H K =
  (T_math_Sqrt (fwide x) H fun (r1 : Nat) (H1 : AHeap) => T_spec_l01Narrow r1 H1 fun (r2 : Nat) (H2 : AHeap) => K (.float .f32 r2) H2) := by kernel_rfl
theorem E_spec_l01Sqrt_ok : ∀ g, FnOk Try.prog g (E_spec_l01Sqrt g) := FnOk.envOf (by
  intro x hx
  simp only [List.mem_cons, List.not_mem_nil, or_false] at hx
  rcases hx with rfl | rfl
  · exact math_Sqrt_ok
  · exact spec_l01Narrow_ok)
set_option maxHeartbeats 1000000 in
theorem spec_l01Sqrt_main (x : Nat) (H : AHeap) (K : Value → AHeap → Prop) (h : T_spec_l01Sqrt x H fun (r1 : Nat) (H' : AHeap) => K (.float .f32 r1) H') : bodyK Try.prog E_spec_l01Sqrt Try.f85 [.float .f32 x] H K := by
  rw [spec_l01Sqrt_vc]
  have hk := h
  unfold T_spec_l01Sqrt at hk
  have e : (p_spec_l01Sqrt x) = _ := rfl
  have e := e.trans (p_spec_l01Sqrt_eq x)
  have g0 := Grow.refl H
  refine T_math_Sqrt_i ?_
  refine T_spec_l01Narrow_i ⟨(by first | assumption | omega | (simp; omega) | (exact sqrt_nar _)), ?_⟩
  rw [e] at hk
  exact hk
theorem spec_l01Sqrt_ok : FnOk Try.prog 85 S_spec_l01Sqrt := by
  refine FnOk.body mix_ok E_spec_l01Sqrt_ok Try.func85 rfl (by kernel_rfl) (by kernel_rfl) ?_ ?_ ?_ ?_ ?_
  · intro args H K K' h hk
    simp only [S_spec_l01Sqrt] at *
    unfold F_spec_l01Sqrt at *
    split at hk
    · have k := hk
      exact h _ _ k
    · exact hk.elim
  · intro _ args H K hk
    simp only [S_spec_l01Sqrt] at *
    unfold F_spec_l01Sqrt at *
    split at hk
    · have k := hk
      exact ⟨_, k, fun K' k' => k'⟩
    · exact hk.elim
  · intro args H K hk
    simp only [S_spec_l01Sqrt] at *
    unfold F_spec_l01Sqrt at *
    split at hk
    · have k := hk
      exact ⟨_, _, k⟩
    · exact hk.elim
  · intro hq; cases hq
  · have mm := @spec_l01Sqrt_main
    revert mm
    generalize bodyK Try.prog E_spec_l01Sqrt Try.f85 = Q
    intro mm args H K hk
    simp only [S_spec_l01Sqrt] at *
    unfold F_spec_l01Sqrt at *
    split at hk
    · exact mm _ H K hk
    · exact hk.elim

def p_spec_l05Of_l2 (count : Int) (ap_Place : Int) (ap_Scale : Nat) (ap_Size : Nat) (l_vout : List Nat) (i : Int) (k2_2 : Int → (List Nat) → (List Nat)) : Nat → Int → (List Nat) → (List Nat)
  | 0, _, _ => []
  | μ2 + 1, t54, y2_1 => (bif decide ((t54 : Int) < (l_vout.length : Int)) then (p_spec_l05Of_l2 count ap_Place ap_Scale ap_Size l_vout i k2_2 μ2 (t54 + 1) (((y2_1).set (t54 : Int).toNat ((fmul .f32 (fdiv .f32 (((y2_1).getD (t54 : Int).toNat 0)) ((p_spec_l01Sqrt (p_spec_l03Energy l_vout)))) ap_Size))))) else (k2_2 t54 y2_1))
def p_spec_l05Of_l2_s := fun count ap_Place ap_Scale ap_Size l_vout i k2_2 μ2 t54 y2_1 => @p_spec_l05Of_l2.eq_2 count ap_Place ap_Scale ap_Size l_vout i k2_2 t54 y2_1 μ2
def p_spec_l05Of_l1 (count : Int) (ap_Place : Int) (ap_Scale : Nat) (ap_Size : Nat) : Nat → (List Nat) → Int → (List Nat)
  | 0, _, _ => []
  | μ + 1, l_vout, i => (bif decide ((i : Int) < count) then (bif (p_spec_l00In (((i - ap_Place) + ((Int.tdiv ((((p_spec_l03Kernel ap_Scale)).length : Int)) 2)))) (0 : Int) ((((((p_spec_l03Kernel ap_Scale)).length : Int)) - 1))) then (p_spec_l05Of_l1 count ap_Place ap_Scale ap_Size μ ((l_vout ++ [(((((p_spec_l03Kernel ap_Scale)).getD (((i - ap_Place) + ((Int.tdiv ((((p_spec_l03Kernel ap_Scale)).length : Int)) 2))) : Int).toNat (0, 0))).1)])) (i + 1)) else (p_spec_l05Of_l1 count ap_Place ap_Scale ap_Size μ (l_vout ++ [0]) (i + 1))) else (p_spec_l05Of_l2 count ap_Place ap_Scale ap_Size l_vout i (fun (t54 : Int) (y2_1 : List Nat) => y2_1) (Int.toNat ((l_vout.length : Int) - (0 : Int)) + 1) (0 : Int) l_vout))
def p_spec_l05Of_l1_s := fun count ap_Place ap_Scale ap_Size μ l_vout i => @p_spec_l05Of_l1.eq_2 count ap_Place ap_Scale ap_Size l_vout i μ
def p_spec_l05Of (count : Int) (ap_Place : Int) (ap_Scale : Nat) (ap_Size : Nat) : (List Nat) := (p_spec_l05Of_l1 count ap_Place ap_Scale ap_Size (Int.toNat (count - (0 : Int)) + 1) ([] : List Nat) (0 : Int))
def p_spec_l05Of_eq := @p_spec_l05Of.eq_1
def T_spec_l05Of (count : Int) (a : Nat) (H : AHeap) (K : (Option Addr) → Nat → Nat → AHeap → Prop) : Prop := ∃ (ap_Place : Int), ∃ (ap_Scale : Nat), ∃ (ap_Size : Nat), rdN H a 0 3 = some [.int .i64 ap_Place, .float .f32 ap_Scale, .float .f32 ap_Size] ∧ 0 ≤ count ∧ count ≤ 1000 ∧ 0 ≤ ap_Place ∧ ap_Place ≤ 1000 ∧ (bif fle .f32 1056964608 ap_Scale then fle .f32 ap_Scale 1098907648 else false) = true ∧ ((∀ (r1_a : Option Addr) (r1_n r1_e : Nat), ∀ H' : AHeap, Grow H H' → OwnS fF H' H.length r1_a r1_n r1_e (p_spec_l05Of count ap_Place ap_Scale ap_Size) → K r1_a r1_n r1_e H'))
theorem T_spec_l05Of_i {count : Int} {a : Nat} {H : AHeap} {K : (Option Addr) → Nat → Nat → AHeap → Prop} (h : ∃ (ap_Place : Int), ∃ (ap_Scale : Nat), ∃ (ap_Size : Nat), rdN H a 0 3 = some [.int .i64 ap_Place, .float .f32 ap_Scale, .float .f32 ap_Size] ∧ 0 ≤ count ∧ count ≤ 1000 ∧ 0 ≤ ap_Place ∧ ap_Place ≤ 1000 ∧ (bif fle .f32 1056964608 ap_Scale then fle .f32 ap_Scale 1098907648 else false) = true ∧ ((∀ (r1_a : Option Addr) (r1_n r1_e : Nat), ∀ H' : AHeap, Grow H H' → OwnS fF H' H.length r1_a r1_n r1_e (p_spec_l05Of count ap_Place ap_Scale ap_Size) → K r1_a r1_n r1_e H'))) : T_spec_l05Of count a H K := h
theorem spec_l05Of_l2_len (c p : Int) (s z : Nat) (o : List Nat) (t : Int) : ∀ (μ : Nat) (i : Int) (y : List Nat), (p_spec_l05Of_l2 c p s z o t (fun (t54 : Int) (y2_1 : List Nat) => y2_1) μ i y).length ≤ y.length := by
  intro μ
  induction μ with
  | zero => intro i y; exact Nat.zero_le _
  | succ μ ih =>
    intro i y
    rw [p_spec_l05Of_l2_s]
    cases decide (i < (o.length : Int))
    · exact Nat.le_refl _
    · exact Nat.le_trans (ih _ _) (by rw [List.length_set]; exact Nat.le_refl _)
theorem spec_l05Of_l1_len (c p : Int) (s z : Nat) : ∀ (μ : Nat) (o : List Nat) (i : Int), (p_spec_l05Of_l1 c p s z μ o i).length ≤ o.length + μ := by
  intro μ
  induction μ with
  | zero => intro o i; exact Nat.zero_le _
  | succ μ ih =>
    intro o i
    rw [p_spec_l05Of_l1_s]
    cases decide (i < c)
    · exact Nat.le_trans (spec_l05Of_l2_len _ _ _ _ _ _ _ _ _) o3
    · simp only [cond_true]
      refine cnb (P := fun y : List Nat => y.length ≤ o.length + (μ + 1)) (fun h => ?_) (fun h => ?_)
      · refine Nat.le_trans (ih _ _) ?_; rw [List.length_append, List.length_singleton]; omega
      · refine Nat.le_trans (ih _ _) ?_; rw [List.length_append, List.length_singleton]; omega
theorem o35 {P : Prop} (h : P := by rw [List.length_nil]; omega) : P := h
theorem spec_l05Of_len (c p : Int) (s z : Nat) : (p_spec_l05Of c p s z).length ≤ c.toNat + 1 := by
  rw [p_spec_l05Of_eq]
  exact Nat.le_trans (spec_l05Of_l1_len _ _ _ _ _ _ _) o35
theorem spec_l05Of_l2_full (c p : Int) (s z : Nat) (o : List Nat) (t : Int) : ∀ (μ : Nat) (i : Int) (y : List Nat), ((o.length : Int) - i).toNat < μ → (p_spec_l05Of_l2 c p s z o t (fun (t54 : Int) (y2_1 : List Nat) => y2_1) μ i y).length = y.length := by
  intro μ
  induction μ with
  | zero => intro i y h; omega
  | succ μ ih =>
    intro i y h
    rw [p_spec_l05Of_l2_s]
    by_cases hi : i < (o.length : Int)
    · rw [decide_eq_true hi, cond_true, ih _ _ o3, List.length_set]
    · rw [decide_eq_false hi, cond_false]
theorem spec_l05Of_l1_full (c p : Int) (s z : Nat) : ∀ (μ : Nat) (o : List Nat) (i : Int), (c - i).toNat < μ → (p_spec_l05Of_l1 c p s z μ o i).length = o.length + (c - i).toNat := by
  intro μ
  induction μ with
  | zero => intro o i h; omega
  | succ μ ih =>
    intro o i h
    rw [p_spec_l05Of_l1_s]
    by_cases hi : i < c
    · rw [decide_eq_true hi, cond_true]
      refine cnb (P := fun y : List Nat => y.length = o.length + (c - i).toNat) (fun h => ?_) (fun h => ?_)
      · rw [ih _ _ o3, List.length_append, List.length_singleton]; omega
      · rw [ih _ _ o3, List.length_append, List.length_singleton]; omega
    · rw [decide_eq_false hi, cond_false, spec_l05Of_l2_full _ _ _ _ _ _ _ _ _ o3]; omega
theorem spec_l05Of_full (c p : Int) (s z : Nat) (h : 0 ≤ c) : (p_spec_l05Of c p s z).length = c.toNat := by
  rw [p_spec_l05Of_eq, spec_l05Of_l1_full _ _ _ _ _ _ _ o3, List.length_nil]; omega
/-! spec_l05Of: function 52 -/
def E_spec_l05Of : Env := envOf [(84, S_spec_l03Kernel), (50, S_spec_l00In), (86, S_spec_l03Energy), (85, S_spec_l01Sqrt)]
def F_spec_l05Of : List Value → AHeap → (Value → AHeap → Prop) → Prop
  | [.int .i64 count, .pointer (some ⟨a, 0, none⟩)], H, K => T_spec_l05Of count a H fun (r1_a : Option Addr) (r1_n : Nat) (r1_e : Nat) (H' : AHeap) => K (.slice r1_a r1_n r1_e) H'
  | _, _, _ => False
def S_spec_l05Of : FSpec := { F := F_spec_l05Of, quiet := false, tame := true }
theorem spec_l05Of_vc (count : Int) (a : Nat) (H : AHeap) (K : Value → AHeap → Prop) : bodyK Try.prog E_spec_l05Of Try.f52 [.int .i64 count, .pointer (some ⟨a, 0, none⟩)] H K =
  (∃ x1 : Nat,  rdC H a 1 = some (.float .f32 x1) ∧ T_spec_l03Kernel x1 H fun (a1 : Option Addr) (r1 : Nat) (r2 : Nat) (H1 : AHeap) => 2 ≠ (0 : Int) ∧ Al [] H1 fun b1 H2 => loopK (exK Try.prog E_spec_l05Of (cl (cl (cr (cl (cr (cr (cr (cr (bodyC Try.f52)))))))))) [.int .i64 count, .pointer (some ⟨a, 0, none⟩), undef, undef, .slice none 0 0, .slice a1 r1 r2, .int .i64 (IntKind.wrap .i64 (Int.tdiv (r1 : Int) 2)), .slice (some ⟨b1, 0, none⟩) 0 1, .int .i64 0, undef, undef, undef, undef, .pointer (some ⟨a, 0, none⟩), .pointer (some ⟨a, 0, none⟩), .pointer (some ⟨a, 1, none⟩), .float .f32 x1, .slice a1 r1 r2, .slice a1 r1 r2, .int .i64 (r1 : Int), .int .i64 (IntKind.wrap .i64 (Int.tdiv (r1 : Int) 2)), .slice (some ⟨b1, 0, none⟩) 0 1, undef, undef, undef, undef, undef, undef, undef, undef, undef, undef, undef, undef, undef, undef, undef, undef, undef, undef, undef, undef, undef, undef, undef, undef, undef, undef, undef, undef, undef, undef, undef, undef, undef, undef, undef, undef, undef, undef, undef, undef, undef, undef, undef, undef, undef, undef, undef, undef, undef, undef, undef] H2 (blockQ 0 (seqQ (exK Try.prog E_spec_l05Of (cr (cr (cr (cr (cr (bodyC Try.f52))))))) (retK Try.prog Try.f52 K)))) := by kernel_rfl
abbrev spec_l05Of_P1 (a : Nat) (a1 : Option Addr) (b1 : Nat) (count : Int) (r1 : Nat) (r2 : Nat) (x1 : Nat) (z1_20 : Int) (z1_6 : Int) (vout_a : Option Addr) (vout_n : Nat) (vout_e : Nat) (i : Int) (g9 g10 g22 g23 g24 g25 g26 g27 g28 g29 g30 g31 g32 g33 g34 g35 g36 g37 g38 g39 g40 g41 g42 g43 g44 g45 g46 g47 g48 : Value) : List Value := [.int .i64 count, .pointer (some ⟨a, 0, none⟩), undef, undef, .slice none 0 0, .slice a1 r1 r2, .int .i64 z1_6, .slice vout_a vout_n vout_e, .int .i64 i, g9, g10, undef, undef, .pointer (some ⟨a, 0, none⟩), .pointer (some ⟨a, 0, none⟩), .pointer (some ⟨a, 1, none⟩), .float .f32 x1, .slice a1 r1 r2, .slice a1 r1 r2, .int .i64 (r1 : Int), .int .i64 z1_20, .slice (some ⟨b1, 0, none⟩) 0 1, g22, g23, g24, g25, g26, g27, g28, g29, g30, g31, g32, g33, g34, g35, g36, g37, g38, g39, g40, g41, g42, g43, g44, g45, g46, g47, g48, undef, undef, undef, undef, undef, undef, undef, undef, undef, undef, undef, undef, undef, undef, undef, undef, undef, undef, undef, undef, undef, undef, undef, undef]
theorem spec_l05Of_r1 (a : Nat) (a1 : Option Addr) (b1 : Nat) (count : Int) (r1 : Nat) (r2 : Nat) (x1 : Nat) (z1_20 : Int) (z1_6 : Int) (vout_a : Option Addr) (vout_n : Nat) (vout_e : Nat) (i : Int) (g9 g10 g22 g23 g24 g25 g26 g27 g28 g29 g30 g31 g32 g33 g34 g35 g36 g37 g38 g39 g40 g41 g42 g43 g44 g45 g46 g47 g48 : Value) (H : AHeap) (R : Post) : exK Try.prog E_spec_l05Of (cl (cl (cr (cl (cr (cr (cr (cr (bodyC Try.f52))))))))) (spec_l05Of_P1 a a1 b1 count r1 r2 x1 z1_20 z1_6 vout_a vout_n vout_e i g9 g10 g22 g23 g24 g25 g26 g27 g28 g29 g30 g31 g32 g33 g34 g35 g36 g37 g38 g39 g40 g41 g42 g43 g44 g45 g46 g47 g48) H R =
  (Br (decide ((i : Int) < count)) (∃ x2 : Int,  rdC H a 0 = some (.int .i64 x2) ∧ T_spec_l00In (IntKind.wrap .i64 ((IntKind.wrap .i64 (i - x2)) + z1_6)) 0 (IntKind.wrap .i64 ((r1 : Int) - 1)) H fun (r3 : Bool) (H3 : AHeap) => Br r3 ((0 : Int) ≤ IntKind.wrap .i64 ((IntKind.wrap .i64 (i - x2)) + z1_6) ∧ IntKind.wrap .i64 ((IntKind.wrap .i64 (i - x2)) + z1_6) < (r1 : Int) ∧ ∃ b2 f1, (a1 : Option Addr) = some ⟨b2, f1, none⟩ ∧ ∃ x3_r : Nat, ∃ x3_i : Nat,  rdC H3 b2 (f1 + (IntKind.wrap .i64 ((IntKind.wrap .i64 (i - x2)) + z1_6) : Int).toNat * 1) = some (.complex .f32 x3_r x3_i) ∧ Al [.float .f32 x3_r] H3 fun b3 H4 => ∃ o1 w1 : List Value, ownB H4 vout_a vout_n vout_e 1 = some o1 ∧ rdS H4 (some ⟨b3, 0, none⟩) (1 * 1) = some w1 ∧ ((vout_a : Option Addr) = none → 0 < (1 : Nat)) ∧ (vout_n : Nat) + 1 < most ∧ Ap H4 (killB H4 vout_a ++ [some ⟨o1 ++ w1, true⟩]) fun b4 H5 => R .normal [.int .i64 count, .pointer (some ⟨a, 0, none⟩), undef, undef, .slice none 0 0, .slice a1 r1 r2, .int .i64 z1_6, .slice (some ⟨b4, 0, none⟩) (vout_n + 1) 1, .int .i64 (IntKind.wrap .i64 (i + 1)), .int .i64 (IntKind.wrap .i64 ((IntKind.wrap .i64 (i - x2)) + z1_6)), .float .f32 x3_r, undef, undef, .pointer (some ⟨a, 0, none⟩), .pointer (some ⟨a, 0, none⟩), .pointer (some ⟨a, 1, none⟩), .float .f32 x1, .slice a1 r1 r2, .slice a1 r1 r2, .int .i64 (r1 : Int), .int .i64 z1_20, .slice (some ⟨b1, 0, none⟩) 0 1, .int .i64 i, .int .i64 count, .bool (decide ((i : Int) < count)), .int .i64 i, .int .i64 (IntKind.wrap .i64 (i + 1)), .int .i64 i, .pointer (some ⟨a, 0, none⟩), .pointer (some ⟨a, 0, none⟩), .pointer (some ⟨a, 0, none⟩), .int .i64 x2, .int .i64 (IntKind.wrap .i64 (i - x2)), .int .i64 z1_6, .int .i64 (IntKind.wrap .i64 ((IntKind.wrap .i64 (i - x2)) + z1_6)), .int .i64 (IntKind.wrap .i64 ((IntKind.wrap .i64 (i - x2)) + z1_6)), .slice a1 r1 r2, .int .i64 (r1 : Int), .int .i64 (IntKind.wrap .i64 ((r1 : Int) - 1)), .bool r3, .slice a1 r1 r2, .int .i64 (IntKind.wrap .i64 ((IntKind.wrap .i64 (i - x2)) + z1_6)), .pointer (some ⟨b2, f1 + (IntKind.wrap .i64 ((IntKind.wrap .i64 (i - x2)) + z1_6) : Int).toNat * 1, none⟩), .complex .f32 x3_r x3_i, .float .f32 x3_r, .slice vout_a vout_n vout_e, .float .f32 x3_r, .slice (some ⟨b3, 0, none⟩) 1 1, .slice (some ⟨b4, 0, none⟩) (vout_n + 1) 1, undef, undef, undef, undef, undef, undef, undef, undef, undef, undef, undef, undef, undef, undef, undef, undef, undef, undef, undef, undef, undef, undef, undef, undef] H5) (Al [.float .f32 0] H3 fun b5 H6 => ∃ o2 w2 : List Value, ownB H6 vout_a vout_n vout_e 1 = some o2 ∧ rdS H6 (some ⟨b5, 0, none⟩) (1 * 1) = some w2 ∧ ((vout_a : Option Addr) = none → 0 < (1 : Nat)) ∧ (vout_n : Nat) + 1 < most ∧ Ap H6 (killB H6 vout_a ++ [some ⟨o2 ++ w2, true⟩]) fun b6 H7 => R .normal [.int .i64 count, .pointer (some ⟨a, 0, none⟩), undef, undef, .slice none 0 0, .slice a1 r1 r2, .int .i64 z1_6, .slice (some ⟨b6, 0, none⟩) (vout_n + 1) 1, .int .i64 (IntKind.wrap .i64 (i + 1)), .int .i64 (IntKind.wrap .i64 ((IntKind.wrap .i64 (i - x2)) + z1_6)), .float .f32 0, undef, undef, .pointer (some ⟨a, 0, none⟩), .pointer (some ⟨a, 0, none⟩), .pointer (some ⟨a, 1, none⟩), .float .f32 x1, .slice a1 r1 r2, .slice a1 r1 r2, .int .i64 (r1 : Int), .int .i64 z1_20, .slice (some ⟨b1, 0, none⟩) 0 1, .int .i64 i, .int .i64 count, .bool (decide ((i : Int) < count)), .int .i64 i, .int .i64 (IntKind.wrap .i64 (i + 1)), .int .i64 i, .pointer (some ⟨a, 0, none⟩), .pointer (some ⟨a, 0, none⟩), .pointer (some ⟨a, 0, none⟩), .int .i64 x2, .int .i64 (IntKind.wrap .i64 (i - x2)), .int .i64 z1_6, .int .i64 (IntKind.wrap .i64 ((IntKind.wrap .i64 (i - x2)) + z1_6)), .int .i64 (IntKind.wrap .i64 ((IntKind.wrap .i64 (i - x2)) + z1_6)), .slice a1 r1 r2, .int .i64 (r1 : Int), .int .i64 (IntKind.wrap .i64 ((r1 : Int) - 1)), .bool r3, g40, g41, g42, g43, g44, .slice vout_a vout_n vout_e, .float .f32 0, .slice (some ⟨b5, 0, none⟩) 1 1, .slice (some ⟨b6, 0, none⟩) (vout_n + 1) 1, undef, undef, undef, undef, undef, undef, undef, undef, undef, undef, undef, undef, undef, undef, undef, undef, undef, undef, undef, undef, undef, undef, undef, undef] H7)) (R (.exit 0) [.int .i64 count, .pointer (some ⟨a, 0, none⟩), undef, undef, .slice none 0 0, .slice a1 r1 r2, .int .i64 z1_6, .slice vout_a vout_n vout_e, .int .i64 i, g9, g10, undef, undef, .pointer (some ⟨a, 0, none⟩), .pointer (some ⟨a, 0, none⟩), .pointer (some ⟨a, 1, none⟩), .float .f32 x1, .slice a1 r1 r2, .slice a1 r1 r2, .int .i64 (r1 : Int), .int .i64 z1_20, .slice (some ⟨b1, 0, none⟩) 0 1, .int .i64 i, .int .i64 count, .bool (decide ((i : Int) < count)), g25, g26, g27, g28, g29, g30, g31, g32, g33, g34, g35, g36, g37, g38, g39, g40, g41, g42, g43, g44, g45, g46, g47, g48, undef, undef, undef, undef, undef, undef, undef, undef, undef, undef, undef, undef, undef, undef, undef, undef, undef, undef, undef, undef, undef, undef, undef, undef] H)) := by kernel_rfl
def spec_l05Of_I1 (a : Nat) (a1 : Option Addr) (b1 : Nat) (count : Int) (r1 : Nat) (r2 : Nat) (x1 : Nat) (z1_20 : Int) (z1_6 : Int) (Inv : Nat → (Option Addr) → Nat → Nat → Int → AHeap → Prop) : Nat → List Value → AHeap → Prop := fun μ tm H => ∃ (vout_a : Option Addr), ∃ (vout_n : Nat), ∃ (vout_e : Nat), ∃ (i : Int), ∃ g9 g10 g22 g23 g24 g25 g26 g27 g28 g29 g30 g31 g32 g33 g34 g35 g36 g37 g38 g39 g40 g41 g42 g43 g44 g45 g46 g47 g48, tm = (spec_l05Of_P1 a a1 b1 count r1 r2 x1 z1_20 z1_6 vout_a vout_n vout_e i g9 g10 g22 g23 g24 g25 g26 g27 g28 g29 g30 g31 g32 g33 g34 g35 g36 g37 g38 g39 g40 g41 g42 g43 g44 g45 g46 g47 g48) ∧ Inv μ vout_a vout_n vout_e i H
theorem spec_l05Of_L1 (a : Nat) (a1 : Option Addr) (b1 : Nat) (count : Int) (r1 : Nat) (r2 : Nat) (x1 : Nat) (z1_20 : Int) (z1_6 : Int) {Q : Post} (Inv : Nat → (Option Addr) → Nat → Nat → Int → AHeap → Prop) (ν : Nat) (vout_a : Option Addr) (vout_n : Nat) (vout_e : Nat) (i : Int) (g9 g10 g22 g23 g24 g25 g26 g27 g28 g29 g30 g31 g32 g33 g34 g35 g36 g37 g38 g39 g40 g41 g42 g43 g44 g45 g46 g47 g48 : Value) (H : AHeap) (h0 : Inv ν vout_a vout_n vout_e i H)
    (hs : ∀ (μ : Nat) (vout_a : Option Addr) (vout_n : Nat) (vout_e : Nat) (i : Int) (g9 g10 g22 g23 g24 g25 g26 g27 g28 g29 g30 g31 g32 g33 g34 g35 g36 g37 g38 g39 g40 g41 g42 g43 g44 g45 g46 g47 g48 : Value) (H : AHeap), Inv μ vout_a vout_n vout_e i H → exK Try.prog E_spec_l05Of (cl (cl (cr (cl (cr (cr (cr (cr (bodyC Try.f52))))))))) (spec_l05Of_P1 a a1 b1 count r1 r2 x1 z1_20 z1_6 vout_a vout_n vout_e i g9 g10 g22 g23 g24 g25 g26 g27 g28 g29 g30 g31 g32 g33 g34 g35 g36 g37 g38 g39 g40 g41 g42 g43 g44 g45 g46 g47 g48) H (loopQ (spec_l05Of_I1 a a1 b1 count r1 r2 x1 z1_20 z1_6 Inv) μ Q)) : loopK (exK Try.prog E_spec_l05Of (cl (cl (cr (cl (cr (cr (cr (cr (bodyC Try.f52)))))))))) (spec_l05Of_P1 a a1 b1 count r1 r2 x1 z1_20 z1_6 vout_a vout_n vout_e i g9 g10 g22 g23 g24 g25 g26 g27 g28 g29 g30 g31 g32 g33 g34 g35 g36 g37 g38 g39 g40 g41 g42 g43 g44 g45 g46 g47 g48) H Q :=
  ⟨spec_l05Of_I1 a a1 b1 count r1 r2 x1 z1_20 z1_6 Inv, ν, ⟨vout_a, vout_n, vout_e, i, g9, g10, g22, g23, g24, g25, g26, g27, g28, g29, g30, g31, g32, g33, g34, g35, g36, g37, g38, g39, g40, g41, g42, g43, g44, g45, g46, g47, g48, rfl, h0⟩, fun μ tm H h => by obtain ⟨vout_a, vout_n, vout_e, i, g9, g10, g22, g23, g24, g25, g26, g27, g28, g29, g30, g31, g32, g33, g34, g35, g36, g37, g38, g39, g40, g41, g42, g43, g44, g45, g46, g47, g48, rfl, hI⟩ := h; exact hs μ vout_a vout_n vout_e i g9 g10 g22 g23 g24 g25 g26 g27 g28 g29 g30 g31 g32 g33 g34 g35 g36 g37 g38 g39 g40 g41 g42 g43 g44 g45 g46 g47 g48 H hI⟩
theorem spec_l05Of_n1 {a : Nat} {a1 : Option Addr} {b1 : Nat} {count : Int} {r1 : Nat} {r2 : Nat} {x1 : Nat} {z1_20 : Int} {z1_6 : Int} {Q : Post} {Inv : Nat → (Option Addr) → Nat → Nat → Int → AHeap → Prop} {μ : Nat} (μ' : Nat) {vout_a : Option Addr} {vout_n : Nat} {vout_e : Nat} {i : Int} {g9 g10 g22 g23 g24 g25 g26 g27 g28 g29 g30 g31 g32 g33 g34 g35 g36 g37 g38 g39 g40 g41 g42 g43 g44 g45 g46 g47 g48 : Value} {H : AHeap} (hm : μ' < μ) (hI : Inv μ' vout_a vout_n vout_e i H) : loopQ (spec_l05Of_I1 a a1 b1 count r1 r2 x1 z1_20 z1_6 Inv) μ Q .normal (spec_l05Of_P1 a a1 b1 count r1 r2 x1 z1_20 z1_6 vout_a vout_n vout_e i g9 g10 g22 g23 g24 g25 g26 g27 g28 g29 g30 g31 g32 g33 g34 g35 g36 g37 g38 g39 g40 g41 g42 g43 g44 g45 g46 g47 g48) H := ⟨μ', hm, vout_a, vout_n, vout_e, i, g9, g10, g22, g23, g24, g25, g26, g27, g28, g29, g30, g31, g32, g33, g34, g35, g36, g37, g38, g39, g40, g41, g42, g43, g44, g45, g46, g47, g48, rfl, hI⟩
theorem spec_l05Of_x1_0 (a : Nat) (a1 : Option Addr) (b1 : Nat) (count : Int) (r1 : Nat) (r2 : Nat) (x1 : Nat) (z1_20 : Int) (z1_6 : Int) (vout_a : Option Addr) (vout_n : Nat) (vout_e : Nat) (i : Int) (g9 g10 g22 g23 g24 g25 g26 g27 g28 g29 g30 g31 g32 g33 g34 g35 g36 g37 g38 g39 g40 g41 g42 g43 g44 g45 g46 g47 g48 : Value) (H : AHeap) (K : Value → AHeap → Prop)  {I : Nat → List Value → AHeap → Prop} {μ : Nat} : loopQ I μ (blockQ 0 (seqQ (exK Try.prog E_spec_l05Of (cr (cr (cr (cr (cr (bodyC Try.f52))))))) (retK Try.prog Try.f52 K))) (.exit 0) (spec_l05Of_P1 a a1 b1 count r1 r2 x1 z1_20 z1_6 vout_a vout_n vout_e i g9 g10 g22 g23 g24 g25 g26 g27 g28 g29 g30 g31 g32 g33 g34 g35 g36 g37 g38 g39 g40 g41 g42 g43 g44 g45 g46 g47 g48) H =
  (T_spec_l03Energy vout_a vout_n vout_e H fun (r4 : Nat) (H8 : AHeap) => T_spec_l01Sqrt r4 H8 fun (r5 : Nat) (H9 : AHeap) => loopK (exK Try.prog E_spec_l05Of (cl (cl (cr (cl (cr (cr (cr (cr (cr (cr (bodyC Try.f52)))))))))))) [.int .i64 count, .pointer (some ⟨a, 0, none⟩), undef, undef, .slice none 0 0, .slice a1 r1 r2, .int .i64 z1_6, .slice vout_a vout_n vout_e, .int .i64 i, g9, g10, .float .f32 r5, undef, .pointer (some ⟨a, 0, none⟩), .pointer (some ⟨a, 0, none⟩), .pointer (some ⟨a, 1, none⟩), .float .f32 x1, .slice a1 r1 r2, .slice a1 r1 r2, .int .i64 (r1 : Int), .int .i64 z1_20, .slice (some ⟨b1, 0, none⟩) 0 1, g22, g23, g24, g25, g26, g27, g28, g29, g30, g31, g32, g33, g34, g35, g36, g37, g38, g39, g40, g41, g42, g43, g44, g45, g46, g47, g48, .slice vout_a vout_n vout_e, .float .f32 r4, .float .f32 r5, .slice vout_a vout_n vout_e, .int .i64 (vout_n : Int), .int .i64 0, undef, undef, undef, undef, undef, undef, undef, undef, undef, undef, undef, undef, undef, undef, undef, undef, undef, undef] H9 (blockQ 2 (seqQ (exK Try.prog E_spec_l05Of (cr (cr (cr (cr (cr (cr (cr (bodyC Try.f52))))))))) (retK Try.prog Try.f52 K)))) := by kernel_rfl
abbrev spec_l05Of_P2 (a : Nat) (a1 : Option Addr) (b1 : Nat) (count : Int) (g10 : Value) (g22 : Value) (g23 : Value) (g24 : Value) (g25 : Value) (g26 : Value) (g27 : Value) (g28 : Value) (g29 : Value) (g30 : Value) (g31 : Value) (g32 : Value) (g33 : Value) (g34 : Value) (g35 : Value) (g36 : Value) (g37 : Value) (g38 : Value) (g39 : Value) (g40 : Value) (g41 : Value) (g42 : Value) (g43 : Value) (g44 : Value) (g45 : Value) (g46 : Value) (g47 : Value) (g48 : Value) (g9 : Value) (i : Int) (r1 : Nat) (r2 : Nat) (r4 : Nat) (r5 : Nat) (vout_a : Option Addr) (vout_e : Nat) (vout_n : Nat) (x1 : Nat) (z1_20 : Int) (z1_6 : Int) (t54 : Int) (g12 g55 g56 g57 g58 g59 g60 g61 g62 g63 g64 g65 g66 g67 g68 g69 g70 g71 : Value) : List Value := [.int .i64 count, .pointer (some ⟨a, 0, none⟩), undef, undef, .slice none 0 0, .slice a1 r1 r2, .int .i64 z1_6, .slice vout_a vout_n vout_e, .int .i64 i, g9, g10, .float .f32 r5, g12, .pointer (some ⟨a, 0, none⟩), .pointer (some ⟨a, 0, none⟩), .pointer (some ⟨a, 1, none⟩), .float .f32 x1, .slice a1 r1 r2, .slice a1 r1 r2, .int .i64 (r1 : Int), .int .i64 z1_20, .slice (some ⟨b1, 0, none⟩) 0 1, g22, g23, g24, g25, g26, g27, g28, g29, g30, g31, g32, g33, g34, g35, g36, g37, g38, g39, g40, g41, g42, g43, g44, g45, g46, g47, g48, .slice vout_a vout_n vout_e, .float .f32 r4, .float .f32 r5, .slice vout_a vout_n vout_e, .int .i64 (vout_n : Int), .int .i64 t54, g55, g56, g57, g58, g59, g60, g61, g62, g63, g64, g65, g66, g67, g68, g69, g70, g71, undef]
theorem spec_l05Of_r2 (a : Nat) (a1 : Option Addr) (b1 : Nat) (count : Int) (g10 : Value) (g22 : Value) (g23 : Value) (g24 : Value) (g25 : Value) (g26 : Value) (g27 : Value) (g28 : Value) (g29 : Value) (g30 : Value) (g31 : Value) (g32 : Value) (g33 : Value) (g34 : Value) (g35 : Value) (g36 : Value) (g37 : Value) (g38 : Value) (g39 : Value) (g40 : Value) (g41 : Value) (g42 : Value) (g43 : Value) (g44 : Value) (g45 : Value) (g46 : Value) (g47 : Value) (g48 : Value) (g9 : Value) (i : Int) (r1 : Nat) (r2 : Nat) (r4 : Nat) (r5 : Nat) (vout_a : Option Addr) (vout_e : Nat) (vout_n : Nat) (x1 : Nat) (z1_20 : Int) (z1_6 : Int) (t54 : Int) (g12 g55 g56 g57 g58 g59 g60 g61 g62 g63 g64 g65 g66 g67 g68 g69 g70 g71 : Value) (H : AHeap) (R : Post) : exK Try.prog E_spec_l05Of (cl (cl (cr (cl (cr (cr (cr (cr (cr (cr (bodyC Try.f52))))))))))) (spec_l05Of_P2 a a1 b1 count g10 g22 g23 g24 g25 g26 g27 g28 g29 g30 g31 g32 g33 g34 g35 g36 g37 g38 g39 g40 g41 g42 g43 g44 g45 g46 g47 g48 g9 i r1 r2 r4 r5 vout_a vout_e vout_n x1 z1_20 z1_6 t54 g12 g55 g56 g57 g58 g59 g60 g61 g62 g63 g64 g65 g66 g67 g68 g69 g70 g71) H R =
  (Br (decide ((t54 : Int) < (vout_n : Int))) ((0 : Int) ≤ t54 ∧ t54 < (vout_n : Int) ∧ ∃ b7 f2, (vout_a : Option Addr) = some ⟨b7, f2, none⟩ ∧ ∃ x4 : Nat,  rdC H b7 (f2 + (t54 : Int).toNat * 1) = some (.float .f32 x4) ∧ ∃ x5 : Nat,  rdC H a 2 = some (.float .f32 x5) ∧ (0 : Int) ≤ t54 ∧ t54 < (vout_n : Int) ∧ ∃ b8 f3, (vout_a : Option Addr) = some ⟨b8, f3, none⟩ ∧ isOwn H b8 ∧ (∃ l, rdN H b8 (f3 + (t54 : Int).toNat * 1) 1 = some l) ∧ Lt (setC H b8 (f3 + (t54 : Int).toNat * 1) (.float .f32 (fmul .f32 (fdiv .f32 x4 r5) x5))) fun H10 => R .normal [.int .i64 count, .pointer (some ⟨a, 0, none⟩), undef, undef, .slice none 0 0, .slice a1 r1 r2, .int .i64 z1_6, .slice vout_a vout_n vout_e, .int .i64 i, g9, g10, .float .f32 r5, .int .i64 t54, .pointer (some ⟨a, 0, none⟩), .pointer (some ⟨a, 0, none⟩), .pointer (some ⟨a, 1, none⟩), .float .f32 x1, .slice a1 r1 r2, .slice a1 r1 r2, .int .i64 (r1 : Int), .int .i64 z1_20, .slice (some ⟨b1, 0, none⟩) 0 1, g22, g23, g24, g25, g26, g27, g28, g29, g30, g31, g32, g33, g34, g35, g36, g37, g38, g39, g40, g41, g42, g43, g44, g45, g46, g47, g48, .slice vout_a vout_n vout_e, .float .f32 r4, .float .f32 r5, .slice vout_a vout_n vout_e, .int .i64 (vout_n : Int), .int .i64 (IntKind.wrap .i64 (t54 + 1)), .bool (decide ((t54 : Int) < (vout_n : Int))), .int .i64 t54, .slice vout_a vout_n vout_e, .int .i64 t54, .slice vout_a vout_n vout_e, .int .i64 t54, .pointer (some ⟨b7, f2 + (t54 : Int).toNat * 1, none⟩), .float .f32 x4, .float .f32 r5, .float .f32 (fdiv .f32 x4 r5), .pointer (some ⟨a, 0, none⟩), .pointer (some ⟨a, 0, none⟩), .pointer (some ⟨a, 2, none⟩), .float .f32 x5, .float .f32 (fmul .f32 (fdiv .f32 x4 r5) x5), .pointer (some ⟨b8, f3 + (t54 : Int).toNat * 1, none⟩), .int .i64 (IntKind.wrap .i64 (t54 + 1)), undef] H10) (R (.exit 2) [.int .i64 count, .pointer (some ⟨a, 0, none⟩), undef, undef, .slice none 0 0, .slice a1 r1 r2, .int .i64 z1_6, .slice vout_a vout_n vout_e, .int .i64 i, g9, g10, .float .f32 r5, g12, .pointer (some ⟨a, 0, none⟩), .pointer (some ⟨a, 0, none⟩), .pointer (some ⟨a, 1, none⟩), .float .f32 x1, .slice a1 r1 r2, .slice a1 r1 r2, .int .i64 (r1 : Int), .int .i64 z1_20, .slice (some ⟨b1, 0, none⟩) 0 1, g22, g23, g24, g25, g26, g27, g28, g29, g30, g31, g32, g33, g34, g35, g36, g37, g38, g39, g40, g41, g42, g43, g44, g45, g46, g47, g48, .slice vout_a vout_n vout_e, .float .f32 r4, .float .f32 r5, .slice vout_a vout_n vout_e, .int .i64 (vout_n : Int), .int .i64 t54, .bool (decide ((t54 : Int) < (vout_n : Int))), g56, g57, g58, g59, g60, g61, g62, g63, g64, g65, g66, g67, g68, g69, g70, g71, undef] H)) := by kernel_rfl
def spec_l05Of_I2 (a : Nat) (a1 : Option Addr) (b1 : Nat) (count : Int) (g10 : Value) (g22 : Value) (g23 : Value) (g24 : Value) (g25 : Value) (g26 : Value) (g27 : Value) (g28 : Value) (g29 : Value) (g30 : Value) (g31 : Value) (g32 : Value) (g33 : Value) (g34 : Value) (g35 : Value) (g36 : Value) (g37 : Value) (g38 : Value) (g39 : Value) (g40 : Value) (g41 : Value) (g42 : Value) (g43 : Value) (g44 : Value) (g45 : Value) (g46 : Value) (g47 : Value) (g48 : Value) (g9 : Value) (i : Int) (r1 : Nat) (r2 : Nat) (r4 : Nat) (r5 : Nat) (vout_a : Option Addr) (vout_e : Nat) (vout_n : Nat) (x1 : Nat) (z1_20 : Int) (z1_6 : Int) (Inv : Nat → Int → AHeap → Prop) : Nat → List Value → AHeap → Prop := fun μ tm H => ∃ (t54 : Int), ∃ g12 g55 g56 g57 g58 g59 g60 g61 g62 g63 g64 g65 g66 g67 g68 g69 g70 g71, tm = (spec_l05Of_P2 a a1 b1 count g10 g22 g23 g24 g25 g26 g27 g28 g29 g30 g31 g32 g33 g34 g35 g36 g37 g38 g39 g40 g41 g42 g43 g44 g45 g46 g47 g48 g9 i r1 r2 r4 r5 vout_a vout_e vout_n x1 z1_20 z1_6 t54 g12 g55 g56 g57 g58 g59 g60 g61 g62 g63 g64 g65 g66 g67 g68 g69 g70 g71) ∧ Inv μ t54 H
theorem spec_l05Of_L2 (a : Nat) (a1 : Option Addr) (b1 : Nat) (count : Int) (g10 : Value) (g22 : Value) (g23 : Value) (g24 : Value) (g25 : Value) (g26 : Value) (g27 : Value) (g28 : Value) (g29 : Value) (g30 : Value) (g31 : Value) (g32 : Value) (g33 : Value) (g34 : Value) (g35 : Value) (g36 : Value) (g37 : Value) (g38 : Value) (g39 : Value) (g40 : Value) (g41 : Value) (g42 : Value) (g43 : Value) (g44 : Value) (g45 : Value) (g46 : Value) (g47 : Value) (g48 : Value) (g9 : Value) (i : Int) (r1 : Nat) (r2 : Nat) (r4 : Nat) (r5 : Nat) (vout_a : Option Addr) (vout_e : Nat) (vout_n : Nat) (x1 : Nat) (z1_20 : Int) (z1_6 : Int) {Q : Post} (Inv : Nat → Int → AHeap → Prop) (ν : Nat) (t54 : Int) (g12 g55 g56 g57 g58 g59 g60 g61 g62 g63 g64 g65 g66 g67 g68 g69 g70 g71 : Value) (H : AHeap) (h0 : Inv ν t54 H)
    (hs : ∀ (μ : Nat) (t54 : Int) (g12 g55 g56 g57 g58 g59 g60 g61 g62 g63 g64 g65 g66 g67 g68 g69 g70 g71 : Value) (H : AHeap), Inv μ t54 H → exK Try.prog E_spec_l05Of (cl (cl (cr (cl (cr (cr (cr (cr (cr (cr (bodyC Try.f52))))))))))) (spec_l05Of_P2 a a1 b1 count g10 g22 g23 g24 g25 g26 g27 g28 g29 g30 g31 g32 g33 g34 g35 g36 g37 g38 g39 g40 g41 g42 g43 g44 g45 g46 g47 g48 g9 i r1 r2 r4 r5 vout_a vout_e vout_n x1 z1_20 z1_6 t54 g12 g55 g56 g57 g58 g59 g60 g61 g62 g63 g64 g65 g66 g67 g68 g69 g70 g71) H (loopQ (spec_l05Of_I2 a a1 b1 count g10 g22 g23 g24 g25 g26 g27 g28 g29 g30 g31 g32 g33 g34 g35 g36 g37 g38 g39 g40 g41 g42 g43 g44 g45 g46 g47 g48 g9 i r1 r2 r4 r5 vout_a vout_e vout_n x1 z1_20 z1_6 Inv) μ Q)) : loopK (exK Try.prog E_spec_l05Of (cl (cl (cr (cl (cr (cr (cr (cr (cr (cr (bodyC Try.f52)))))))))))) (spec_l05Of_P2 a a1 b1 count g10 g22 g23 g24 g25 g26 g27 g28 g29 g30 g31 g32 g33 g34 g35 g36 g37 g38 g39 g40 g41 g42 g43 g44 g45 g46 g47 g48 g9 i r1 r2 r4 r5 vout_a vout_e vout_n x1 z1_20 z1_6 t54 g12 g55 g56 g57 g58 g59 g60 g61 g62 g63 g64 g65 g66 g67 g68 g69 g70 g71) H Q :=
  ⟨spec_l05Of_I2 a a1 b1 count g10 g22 g23 g24 g25 g26 g27 g28 g29 g30 g31 g32 g33 g34 g35 g36 g37 g38 g39 g40 g41 g42 g43 g44 g45 g46 g47 g48 g9 i r1 r2 r4 r5 vout_a vout_e vout_n x1 z1_20 z1_6 Inv, ν, ⟨t54, g12, g55, g56, g57, g58, g59, g60, g61, g62, g63, g64, g65, g66, g67, g68, g69, g70, g71, rfl, h0⟩, fun μ tm H h => by obtain ⟨t54, g12, g55, g56, g57, g58, g59, g60, g61, g62, g63, g64, g65, g66, g67, g68, g69, g70, g71, rfl, hI⟩ := h; exact hs μ t54 g12 g55 g56 g57 g58 g59 g60 g61 g62 g63 g64 g65 g66 g67 g68 g69 g70 g71 H hI⟩
theorem spec_l05Of_n2 {a : Nat} {a1 : Option Addr} {b1 : Nat} {count : Int} {g10 : Value} {g22 : Value} {g23 : Value} {g24 : Value} {g25 : Value} {g26 : Value} {g27 : Value} {g28 : Value} {g29 : Value} {g30 : Value} {g31 : Value} {g32 : Value} {g33 : Value} {g34 : Value} {g35 : Value} {g36 : Value} {g37 : Value} {g38 : Value} {g39 : Value} {g40 : Value} {g41 : Value} {g42 : Value} {g43 : Value} {g44 : Value} {g45 : Value} {g46 : Value} {g47 : Value} {g48 : Value} {g9 : Value} {i : Int} {r1 : Nat} {r2 : Nat} {r4 : Nat} {r5 : Nat} {vout_a : Option Addr} {vout_e : Nat} {vout_n : Nat} {x1 : Nat} {z1_20 : Int} {z1_6 : Int} {Q : Post} {Inv : Nat → Int → AHeap → Prop} {μ : Nat} (μ' : Nat) {t54 : Int} {g12 g55 g56 g57 g58 g59 g60 g61 g62 g63 g64 g65 g66 g67 g68 g69 g70 g71 : Value} {H : AHeap} (hm : μ' < μ) (hI : Inv μ' t54 H) : loopQ (spec_l05Of_I2 a a1 b1 count g10 g22 g23 g24 g25 g26 g27 g28 g29 g30 g31 g32 g33 g34 g35 g36 g37 g38 g39 g40 g41 g42 g43 g44 g45 g46 g47 g48 g9 i r1 r2 r4 r5 vout_a vout_e vout_n x1 z1_20 z1_6 Inv) μ Q .normal (spec_l05Of_P2 a a1 b1 count g10 g22 g23 g24 g25 g26 g27 g28 g29 g30 g31 g32 g33 g34 g35 g36 g37 g38 g39 g40 g41 g42 g43 g44 g45 g46 g47 g48 g9 i r1 r2 r4 r5 vout_a vout_e vout_n x1 z1_20 z1_6 t54 g12 g55 g56 g57 g58 g59 g60 g61 g62 g63 g64 g65 g66 g67 g68 g69 g70 g71) H := ⟨μ', hm, t54, g12, g55, g56, g57, g58, g59, g60, g61, g62, g63, g64, g65, g66, g67, g68, g69, g70, g71, rfl, hI⟩
theorem spec_l05Of_x2_2 (a : Nat) (a1 : Option Addr) (b1 : Nat) (count : Int) (g10 : Value) (g22 : Value) (g23 : Value) (g24 : Value) (g25 : Value) (g26 : Value) (g27 : Value) (g28 : Value) (g29 : Value) (g30 : Value) (g31 : Value) (g32 : Value) (g33 : Value) (g34 : Value) (g35 : Value) (g36 : Value) (g37 : Value) (g38 : Value) (g39 : Value) (g40 : Value) (g41 : Value) (g42 : Value) (g43 : Value) (g44 : Value) (g45 : Value) (g46 : Value) (g47 : Value) (g48 : Value) (g9 : Value) (i : Int) (r1 : Nat) (r2 : Nat) (r4 : Nat) (r5 : Nat) (vout_a : Option Addr) (vout_e : Nat) (vout_n : Nat) (x1 : Nat) (z1_20 : Int) (z1_6 : Int) (t54 : Int) (g12 g55 g56 g57 g58 g59 g60 g61 g62 g63 g64 g65 g66 g67 g68 g69 g70 g71 : Value) (H : AHeap) (K : Value → AHeap → Prop)  {I : Nat → List Value → AHeap → Prop} {μ : Nat} : loopQ I μ (blockQ 2 (seqQ (exK Try.prog E_spec_l05Of (cr (cr (cr (cr (cr (cr (cr (bodyC Try.f52))))))))) (retK Try.prog Try.f52 K))) (.exit 2) (spec_l05Of_P2 a a1 b1 count g10 g22 g23 g24 g25 g26 g27 g28 g29 g30 g31 g32 g33 g34 g35 g36 g37 g38 g39 g40 g41 g42 g43 g44 g45 g46 g47 g48 g9 i r1 r2 r4 r5 vout_a vout_e vout_n x1 z1_20 z1_6 t54 g12 g55 g56 g57 g58 g59 g60 g61 g62 g63 g64 g65 g66 g67 g68 g69 g70 g71) H =
  (K (.slice vout_a vout_n vout_e) H) := by kernel_rfl
theorem E_spec_l05Of_ok : ∀ g, FnOk Try.prog g (E_spec_l05Of g) := FnOk.envOf (by
  intro x hx
  simp only [List.mem_cons, List.not_mem_nil, or_false] at hx
  rcases hx with rfl | rfl | rfl | rfl
  · exact spec_l03Kernel_ok
  · exact spec_l00In_ok
  · exact spec_l03Energy_ok
  · exact spec_l01Sqrt_ok)
theorem o34 {P : Prop} (h : P := by first | assumption | omega) : P := h
set_option maxHeartbeats 1000000 in
theorem spec_l05Of_main (count : Int) (a : Nat) (H : AHeap) (K : Value → AHeap → Prop) (h : T_spec_l05Of count a H fun (r1_a : Option Addr) (r1_n : Nat) (r1_e : Nat) (H' : AHeap) => K (.slice r1_a r1_n r1_e) H') : bodyK Try.prog E_spec_l05Of Try.f52 [.int .i64 count, .pointer (some ⟨a, 0, none⟩)] H K := by
  rw [spec_l05Of_vc]
  obtain ⟨ap_Place, ap_Scale, ap_Size, i_a, pr0, pr1, pr2, pr3, pr4, hk⟩ := h
  have e : (p_spec_l05Of count ap_Place ap_Scale ap_Size) = _ := rfl
  have e := e.trans (p_spec_l05Of_eq count ap_Place ap_Scale ap_Size)
  have g0 := Grow.refl H
  refine ⟨ap_Scale, (rdN_at (rdN_grow g0 i_a) 1 (Nat.le_of_ble_eq_true rfl)).trans rfl, ?_⟩
  refine T_spec_l03Kernel_i ⟨o14, fun a_1 n_2 e_3 H_1 g_6 r_4 => ?_⟩
  have z_5 := spec_l03Kernel_len ap_Scale o34
  have l_7 := g_6.1
  have g_8 := g0.trans g_6
  have l_9 := g_8.1
  obtain rfl := r_4.isL.eqn
  have u_10 := r_4.up
  have u_11 := r_4.lo
  have z_13 := tdiv_nn ((((p_spec_l03Kernel ap_Scale)).length : Int)) 2
  refine ⟨(by first | omega | decide | (simp; done) | (simp; omega)), ?_⟩
  rw [show IntKind.wrap .i64 (Int.tdiv ((((p_spec_l03Kernel ap_Scale)).length : Int)) 2) = (Int.tdiv ((((p_spec_l03Kernel ap_Scale)).length : Int)) 2) from wrap64 o3 o3]
  refine Al.intro (fun b_14 H_2 hb_15 hl_16 g_17 o_18 => ?_)
  have o_18 : Own H_2 b_14 ((([] : List Nat)).map fF) := o_18
  have l_20 := g_17.1
  have g_21 := g_8.trans g_17
  have l_22 := g_21.1
  have r_23 := r_4.grow g_17
  have w_112 := o_18.lt
  refine spec_l05Of_L1 _ _ _ _ _ _ _ _ _ (fun (μ : Nat) (vout_a : Option Addr) (vout_n : Nat) (vout_e : Nat) (i : Int) (H_3 : AHeap) => ∃ (l_vout : List Nat), ∃ (b_24 : Nat), vout_a = some ⟨b_24, 0, none⟩ ∧ vout_n = l_vout.length ∧ vout_e = 1 ∧ Own H_3 b_24 (l_vout.map fF) ∧ OwnS fC H_3 H.length a_1 (((p_spec_l03Kernel ap_Scale)).length) e_3 (p_spec_l03Kernel ap_Scale) ∧ H_1.length ≤ H_3.length ∧ (b_24 < H.length ∨ H_1.length ≤ b_24) ∧ Grow H H_3 ∧ H.length ≤ b_24 ∧ (0 : Int) ≤ i ∧ ((i ≤ count ∨ i ≤ (0 : Int))) ∧ (l_vout.length : Int) ≤ i - (0 : Int) + 0 ∧ (l_vout.length : Int) ≤ i ∧ count - i ≤ (μ : Int) ∧ p_spec_l05Of count ap_Place ap_Scale ap_Size = p_spec_l05Of_l1 count ap_Place ap_Scale ap_Size (μ + 1) l_vout i) (Int.toNat (count - (0 : Int))) _ _ _ _ _ _ _ _ _ _ _ _ _ _ _ _ _ _ _ _ _ _ _ _ _ _ _ _ _ _ _ _ _ H_2 ?_ ?_
  · exact ⟨_, _, rfl, o7, rfl, o_18, r_23, o3, o3, g_21, o3, o6, o6, o6, o6, o3, e⟩
  · intro μ vout_a vout_n vout_e i g9 g10 g22 g23 g24 g25 g26 g27 g28 g29 g30 g31 g32 g33 g34 g35 g36 g37 g38 g39 g40 g41 g42 g43 g44 g45 g46 g47 g48 H_3 hI
    obtain ⟨l_vout, b_24, rfl, rfl, rfl, o_25, r_26, n_27, n_28, g_29, l_30, v_31, v_32, v_33, v_34, hμ, e⟩ := hI
    rw [spec_l05Of_r1]
    have e := e.trans (p_spec_l05Of_l1_s count ap_Place ap_Scale ap_Size μ l_vout i)
    have w_35 := o_25.lt
    have l_36 := g_29.1
    refine Br.intro (fun c_37 => ?_) (fun c_37 => ?_)
    · have e := e.trans (cond_t c_37)
      have c_37' := of_decide_eq_true c_37
      refine ⟨ap_Place, (rdN_at (rdN_grow g_29 i_a) 0 (Nat.le_of_ble_eq_true rfl)).trans rfl, ?_⟩
      rw [show IntKind.wrap .i64 (i - ap_Place) = (i - ap_Place) from wrap64 o3 o3]
      rw [show IntKind.wrap .i64 ((i - ap_Place) + ((Int.tdiv ((((p_spec_l03Kernel ap_Scale)).length : Int)) 2))) = ((i - ap_Place) + ((Int.tdiv ((((p_spec_l03Kernel ap_Scale)).length : Int)) 2))) from wrap64 o3 o3]
      rw [show IntKind.wrap .i64 (((((p_spec_l03Kernel ap_Scale)).length : Int)) - 1) = (((((p_spec_l03Kernel ap_Scale)).length : Int)) - 1) from wrap64 o3 o3]
      refine T_spec_l00In_i ?_
      refine Br.intro (fun c_38 => ?_) (fun c_38 => ?_)
      · have e := e.trans (cond_t c_38)
        have c_38' := spec_l00In_t c_38
        obtain ⟨b_39, f_40, q_41⟩ := (r_26.isL).pos o0
        refine ⟨by omega, by omega, b_39, f_40, q_41, ?_⟩
        refine ⟨((((p_spec_l03Kernel ap_Scale)).getD (((i - ap_Place) + ((Int.tdiv ((((p_spec_l03Kernel ap_Scale)).length : Int)) 2))) : Int).toNat (0, 0))).1, ((((p_spec_l03Kernel ap_Scale)).getD (((i - ap_Place) + ((Int.tdiv ((((p_spec_l03Kernel ap_Scale)).length : Int)) 2))) : Int).toNat (0, 0))).2, (r_26.isL).rd (Grow.refl _) q_41 o3 _, ?_⟩
        refine Al.intro (fun b_42 H_4 hb_43 hl_44 g_45 o_46 => ?_)
        have o_46 : Own H_4 b_42 (([(((((p_spec_l03Kernel ap_Scale)).getD (((i - ap_Place) + ((Int.tdiv ((((p_spec_l03Kernel ap_Scale)).length : Int)) 2))) : Int).toNat (0, 0))).1)]).map fF) := o_46
        have l_48 := g_45.1
        have g_49 := g_29.trans g_45
        have l_50 := g_49.1
        have o_51 := o_25.grow g_45
        have w_52 := o_51.lt
        have r_53 := r_26.grow g_45
        have w_67 := o_46.lt
        refine ⟨_, _, o_51.ownB o8 rfl, (isl_rdS (o_46.isL o7)), (fun h => by cases h), o29, ?_⟩
        refine Ap.app o_51 rfl rfl (fun b_58 H_5 q_65 hl_54 o_55 k_56 => ?_)
        have o_55 := map_snoc o_55
        have l_59 := k_56.1
        have g_60 := g_49.keep (b := b_24) o3 k_56
        have l_61 := g_60.1
        have o_62 := o_46.keep o3 k_56
        have w_63 := o_62.lt
        have r_64 := r_53.keep u_10 o3 k_56
        have w_66 := o_55.lt
        rw [show IntKind.wrap .i64 (i + 1) = (i + 1) from wrap64 o3 o3]
        refine spec_l05Of_n1 (μ - 1) o11 ⟨_, _, rfl, o9, rfl, o_55, r_64, o3, o3, g_60, o3, o1, o1, o1, o1, o11, (by rw [show μ - 1 + 1 = μ from by first | omega]; exact e)⟩
      · have e := e.trans (cond_f c_38)
        refine Al.intro (fun b_68 H_6 hb_69 hl_70 g_71 o_72 => ?_)
        have o_72 : Own H_6 b_68 (([0]).map fF) := o_72
        have l_74 := g_71.1
        have g_75 := g_29.trans g_71
        have l_76 := g_75.1
        have o_77 := o_25.grow g_71
        have w_78 := o_77.lt
        have r_79 := r_26.grow g_71
        have w_93 := o_72.lt
        refine ⟨_, _, o_77.ownB o8 rfl, (isl_rdS (o_72.isL o7)), (fun h => by cases h), o29, ?_⟩
        refine Ap.app o_77 rfl rfl (fun b_84 H_7 q_91 hl_80 o_81 k_82 => ?_)
        have o_81 := map_snoc o_81
        have l_85 := k_82.1
        have g_86 := g_75.keep (b := b_24) o3 k_82
        have l_87 := g_86.1
        have o_88 := o_72.keep o3 k_82
        have w_89 := o_88.lt
        have r_90 := r_79.keep u_10 o3 k_82
        have w_92 := o_81.lt
        rw [show IntKind.wrap .i64 (i + 1) = (i + 1) from wrap64 o3 o3]
        refine spec_l05Of_n1 (μ - 1) o11 ⟨_, _, rfl, o9, rfl, o_81, r_90, o3, o3, g_86, o3, o1, o1, o1, o1, o11, (by rw [show μ - 1 + 1 = μ from by first | omega]; exact e)⟩
    · have e := e.trans (cond_f c_37)
      have c_37' := of_decide_eq_false c_37
      rw [spec_l05Of_x1_0]
      refine T_spec_l03Energy_i ⟨_, (o_25.isL o7), o0, ?_⟩
      refine T_spec_l01Sqrt_i ?_
      refine spec_l05Of_L2 _ _ _ _ _ _ _ _ _ _ _ _ _ _ _ _ _ _ _ _ _ _ _ _ _ _ _ _ _ _ _ _ _ _ _ _ _ _ _ _ _ _ _ _ (fun (μ2 : Nat) (t54 : Int) (H_8 : AHeap) => ∃ (y2_1 : List Nat), Own H_8 b_24 (y2_1.map fF) ∧ y2_1.length = l_vout.length ∧ OwnS fC H_8 H.length a_1 (((p_spec_l03Kernel ap_Scale)).length) e_3 (p_spec_l03Kernel ap_Scale) ∧ H_1.length ≤ H_8.length ∧ Grow H H_8 ∧ (0 : Int) ≤ t54 ∧ t54 ≤ (l_vout.length : Int) ∧ (l_vout.length : Int) - t54 ≤ (μ2 : Int) ∧ p_spec_l05Of count ap_Place ap_Scale ap_Size = p_spec_l05Of_l2 count ap_Place ap_Scale ap_Size l_vout i (fun (t54 : Int) (y2_1 : List Nat) => y2_1) (μ2 + 1) t54 y2_1) (Int.toNat ((l_vout.length : Int) - (0 : Int))) _ _ _ _ _ _ _ _ _ _ _ _ _ _ _ _ _ _ _ H_3 ?_ ?_
      · exact ⟨_, o_25, o28, r_26, o3, g_29, o6, o6, o3, e⟩
      · intro μ2 t54 g12 g55 g56 g57 g58 g59 g60 g61 g62 g63 g64 g65 g66 g67 g68 g69 g70 g71 H_8 hI
        obtain ⟨y2_1, o_94, y_95, r_96, n_97, g_98, v_99, v_100, hμ, e⟩ := hI
        rw [spec_l05Of_r2]
        have e := e.trans (p_spec_l05Of_l2_s count ap_Place ap_Scale ap_Size l_vout i (fun (t54 : Int) (y2_1 : List Nat) => y2_1) μ2 t54 y2_1)
        have w_101 := o_94.lt
        have l_102 := g_98.1
        refine Br.intro (fun c_103 => ?_) (fun c_103 => ?_)
        · have e := e.trans (cond_t c_103)
          have c_103' := of_decide_eq_true c_103
          refine ⟨by omega, o3, _, _, rfl, ?_⟩
          refine ⟨((y2_1).getD (t54 : Int).toNat 0), o_94.rd o0 _, ?_⟩
          refine ⟨ap_Size, (rdN_at (rdN_grow g_98 i_a) 2 (Nat.le_of_ble_eq_true rfl)).trans rfl, ?_⟩
          refine ⟨by omega, o3, _, _, rfl, ?_⟩
          refine Lt.set o_94 o12 (fun H_9 hl_104 o_106 k_105 => ?_)
          have o_106 := map_set o_106
          have l_107 := k_105.1
          have g_108 := g_98.keep (b := b_24) o3 k_105
          have l_109 := g_108.1
          have r_110 := r_96.keep u_10 o3 k_105
          have w_111 := o_106.lt
          rw [show IntKind.wrap .i64 (t54 + 1) = (t54 + 1) from wrap64 o3 o3]
          refine spec_l05Of_n2 (μ2 - 1) o11 ⟨_, o_106, o20, r_110, o3, g_108, o1, o1, o11, (by rw [show μ2 - 1 + 1 = μ2 from by first | omega]; exact e)⟩
        · have e := e.trans (cond_f c_103)
          have c_103' := of_decide_eq_false c_103
          rw [spec_l05Of_x2_2]
          rw [e] at hk
          exact hk _ _ _ H_8 g_98 (o_94.ownS o7 o3)
theorem spec_l05Of_ok : FnOk Try.prog 52 S_spec_l05Of := by
  refine FnOk.body mix_ok E_spec_l05Of_ok Try.func52 rfl (by kernel_rfl) (by kernel_rfl) ?_ ?_ ?_ ?_ ?_
  · intro args H K K' h hk
    simp only [S_spec_l05Of] at *
    unfold F_spec_l05Of at *
    split at hk
    · obtain ⟨ap_Place, ap_Scale, ap_Size, i_a, pr0, pr1, pr2, pr3, pr4, k⟩ := hk
      exact ⟨ap_Place, ap_Scale, ap_Size, i_a, pr0, pr1, pr2, pr3, pr4, (fun r1_a r1_n r1_e H' gg ow0 => h _ _ (k r1_a r1_n r1_e H' gg ow0))⟩
    · exact hk.elim
  · intro hq; cases hq
  · intro args H K hk
    simp only [S_spec_l05Of] at *
    unfold F_spec_l05Of at *
    split at hk
    · obtain ⟨ap_Place, ap_Scale, ap_Size, i_a, pr0, pr1, pr2, pr3, pr4, k⟩ := hk
      exact liveS fun a n e H1 g o => ⟨_, _, k a n e H1 g o⟩
    · exact hk.elim
  · intro _ args H K hk
    simp only [S_spec_l05Of] at *
    unfold F_spec_l05Of at *
    split at hk
    · obtain ⟨ap_Place, ap_Scale, ap_Size, i_a, pr0, pr1, pr2, pr3, pr4, k⟩ := hk
      exact ⟨ap_Place, ap_Scale, ap_Size, i_a, pr0, pr1, pr2, pr3, pr4, (fun r1_a r1_n r1_e H' gg ow0 => ⟨gg, k r1_a r1_n r1_e H' gg ow0⟩)⟩
    · exact hk.elim
  · have mm := @spec_l05Of_main
    revert mm
    generalize bodyK Try.prog E_spec_l05Of Try.f52 = Q
    intro mm args H K hk
    simp only [S_spec_l05Of] at *
    unfold F_spec_l05Of at *
    split at hk
    · exact mm _ _ H K hk
    · exact hk.elim
def p_spec_l03Size (x : Nat) : Nat := (bif fle .f32 x 0 then fsub .f32 0 x else x)
def p_spec_l03Size_eq := @p_spec_l03Size.eq_1
def T_spec_l03Size (x : Nat) (H : AHeap) (K : Nat → AHeap → Prop) : Prop := K (p_spec_l03Size x) H

theorem T_spec_l03Size_i {x : Nat} {H : AHeap} {K : Nat → AHeap → Prop} (h : K (p_spec_l03Size x) H) : T_spec_l03Size x H K := h
/-! spec_l03Size: function 107 -/
def E_spec_l03Size : Env := envOf []
def F_spec_l03Size : List Value → AHeap → (Value → AHeap → Prop) → Prop
  | [.float .f32 x], H, K => T_spec_l03Size x H fun (r1 : Nat) (H' : AHeap) => K (.float .f32 r1) H'
  | _, _, _ => False
def S_spec_l03Size : FSpec := { F := F_spec_l03Size, quiet := true, tame := false }
theorem spec_l03Size_vc (x : Nat) (H : AHeap) (K : Value → AHeap → Prop) : bodyK Try.prog E_spec_l03Size Try.f107 [.float .f32 x] H K =
  (Br (fle .f32 x 0) (K (.float .f32 (fsub .f32 0 x)) H) (K (.float .f32 x) H)) := by kernel_rfl
theorem E_spec_l03Size_ok : ∀ g, FnOk Try.prog g (E_spec_l03Size g) := FnOk.envOf (by
  intro x hx; cases hx)
set_option maxHeartbeats 1000000 in
theorem spec_l03Size_main (x : Nat) (H : AHeap) (K : Value → AHeap → Prop) (h : T_spec_l03Size x H fun (r1 : Nat) (H' : AHeap) => K (.float .f32 r1) H') : bodyK Try.prog E_spec_l03Size Try.f107 [.float .f32 x] H K := by
  rw [spec_l03Size_vc]
  unfold T_spec_l03Size p_spec_l03Size at h
  repeat' (first | exact h | (exfalso; simp_all; done) | (refine ⟨by decide, ?_⟩) | (refine Br.intro (fun hb => ?_) (fun hb => ?_) <;> (try simp only [hb, cond_true, cond_false, Bool.not_true, Bool.not_false] at h)))
theorem spec_l03Size_ok : FnOk Try.prog 107 S_spec_l03Size := by
  refine FnOk.body mix_ok E_spec_l03Size_ok Try.func107 rfl (by kernel_rfl) (by kernel_rfl) ?_ ?_ ?_ ?_ ?_
  · intro args H K K' h hk
    simp only [S_spec_l03Size] at *
    unfold F_spec_l03Size at *
    split at hk
    · have k := hk
      exact h _ _ k
    · exact hk.elim
  · intro _ args H K hk
    simp only [S_spec_l03Size] at *
    unfold F_spec_l03Size at *
    split at hk
    · have k := hk
      exact ⟨_, k, fun K' k' => k'⟩
    · exact hk.elim
  · intro args H K hk
    simp only [S_spec_l03Size] at *
    unfold F_spec_l03Size at *
    split at hk
    · have k := hk
      exact ⟨_, _, k⟩
    · exact hk.elim
  · intro hq; cases hq
  · have mm := @spec_l03Size_main
    revert mm
    generalize bodyK Try.prog E_spec_l03Size Try.f107 = Q
    intro mm args H K hk
    simp only [S_spec_l03Size] at *
    unfold F_spec_l03Size at *
    split at hk
    · exact mm _ H K hk
    · exact hk.elim

def p_spec_l05Pursue_l3 (l_list : List Nat) (l_scales : List Nat) (t6 : Bool) (vsome : Bool) (t24 : Int) (q1_1 : Int) (q1_2 : Nat) (q1_3 : Nat) (q1_4 : Int) (q1_5 : Nat) (q1_6 : Nat) (t6_6 : Bool) (vsome_8 : Bool) (i : Int) (q2_1 : Int) (q2_2 : Nat) (q2_3 : Nat) (q2_4 : Int) (q2_5 : Nat) (q2_6 : Nat) (k3_4 : Nat → Int → Int → Nat → Nat → Int → Nat → Nat → (Int × Nat × Nat × (List Nat) × Bool)) : Nat → Nat → Int → Int → Nat → Nat → Int → Nat → Nat → Int × Nat × Nat × (List Nat) × Bool
  | 0, _, _, _, _, _, _, _, _ => (0, 0, 0, [], false)
  | μ3 + 1, q, t42, q3_1, q3_2, q3_3, q3_4, q3_5, q3_6 => (bif decide ((t42 : Int) < (((p_spec_l05Of (l_list.length : Int) i (((l_scales).getD (t24 : Int).toNat 0)) 1065353216)).length : Int)) then (p_spec_l05Pursue_l3 l_list l_scales t6 vsome t24 q1_1 q1_2 q1_3 q1_4 q1_5 q1_6 t6_6 vsome_8 i q2_1 q2_2 q2_3 q2_4 q2_5 q2_6 k3_4 μ3 (fadd .f32 q (fmul .f32 ((((p_spec_l05Of (l_list.length : Int) i (((l_scales).getD (t24 : Int).toNat 0)) 1065353216)).getD (t42 : Int).toNat 0)) (((l_list).getD (t42 : Int).toNat 0)))) (t42 + 1) q3_1 q3_2 q3_3 q3_4 q3_5 q3_6) else (k3_4 q t42 q3_1 q3_2 q3_3 q3_4 q3_5 q3_6))
def p_spec_l05Pursue_l3_s := fun l_list l_scales t6 vsome t24 q1_1 q1_2 q1_3 q1_4 q1_5 q1_6 t6_6 vsome_8 i q2_1 q2_2 q2_3 q2_4 q2_5 q2_6 k3_4 μ3 q t42 q3_1 q3_2 q3_3 q3_4 q3_5 q3_6 => @p_spec_l05Pursue_l3.eq_2 l_list l_scales t6 vsome t24 q1_1 q1_2 q1_3 q1_4 q1_5 q1_6 t6_6 vsome_8 i q2_1 q2_2 q2_3 q2_4 q2_5 q2_6 k3_4 q t42 q3_1 q3_2 q3_3 q3_4 q3_5 q3_6 μ3
def p_spec_l05Pursue_l2 (l_list : List Nat) (l_scales : List Nat) (t6 : Bool) (vsome : Bool) (t24 : Int) (q1_1 : Int) (q1_2 : Nat) (q1_3 : Nat) (q1_4 : Int) (q1_5 : Nat) (q1_6 : Nat) (k2_2 : Bool → Bool → Int → Int → Nat → Nat → Int → Nat → Nat → (Int × Nat × Nat × (List Nat) × Bool)) : Nat → Bool → Bool → Int → Int → Nat → Nat → Int → Nat → Nat → Int × Nat × Nat × (List Nat) × Bool
  | 0, _, _, _, _, _, _, _, _, _ => (0, 0, 0, [], false)
  | μ2 + 1, t6_6, vsome_8, i, q2_1, q2_2, q2_3, q2_4, q2_5, q2_6 => (bif decide ((i : Int) < (l_list.length : Int)) then (p_spec_l05Pursue_l3 l_list l_scales t6 vsome t24 q1_1 q1_2 q1_3 q1_4 q1_5 q1_6 t6_6 vsome_8 i q2_1 q2_2 q2_3 q2_4 q2_5 q2_6 (fun (q : Nat) (t42 : Int) (q3_1 : Int) (q3_2 : Nat) (q3_3 : Nat) (q3_4 : Int) (q3_5 : Nat) (q3_6 : Nat) => (bif !(p_spec_l01Finite q) then ((0 : Int), 0, 0, [], false) else (bif !vsome_8 then (p_spec_l05Pursue_l2 l_list l_scales t6 vsome t24 q1_1 q1_2 q1_3 q1_4 q1_5 q1_6 k2_2 μ2 t6_6 true (i + 1) q3_1 q3_2 q3_3 i (((l_scales).getD (t24 : Int).toNat 0)) q) else (bif flt .f32 (p_spec_l03Size q3_6) (p_spec_l03Size q) then (p_spec_l05Pursue_l2 l_list l_scales t6 vsome t24 q1_1 q1_2 q1_3 q1_4 q1_5 q1_6 k2_2 μ2 t6_6 true (i + 1) q3_1 q3_2 q3_3 i (((l_scales).getD (t24 : Int).toNat 0)) q) else (p_spec_l05Pursue_l2 l_list l_scales t6 vsome t24 q1_1 q1_2 q1_3 q1_4 q1_5 q1_6 k2_2 μ2 t6_6 vsome_8 (i + 1) q3_1 q3_2 q3_3 q3_4 q3_5 q3_6))))) (Int.toNat ((((p_spec_l05Of (l_list.length : Int) i (((l_scales).getD (t24 : Int).toNat 0)) 1065353216)).length : Int) - (0 : Int)) + 1) 0 (0 : Int) q2_1 q2_2 q2_3 q2_4 q2_5 q2_6) else (k2_2 t6_6 vsome_8 i q2_1 q2_2 q2_3 q2_4 q2_5 q2_6))
def p_spec_l05Pursue_l2_s := fun l_list l_scales t6 vsome t24 q1_1 q1_2 q1_3 q1_4 q1_5 q1_6 k2_2 μ2 t6_6 vsome_8 i q2_1 q2_2 q2_3 q2_4 q2_5 q2_6 => @p_spec_l05Pursue_l2.eq_2 l_list l_scales t6 vsome t24 q1_1 q1_2 q1_3 q1_4 q1_5 q1_6 k2_2 t6_6 vsome_8 i q2_1 q2_2 q2_3 q2_4 q2_5 q2_6 μ2
def p_spec_l05Pursue_l4 (l_list : List Nat) (l_scales : List Nat) (t6 : Bool) (vsome : Bool) (t24 : Int) (q1_1 : Int) (q1_2 : Nat) (q1_3 : Nat) (q1_4 : Int) (q1_5 : Nat) (q1_6 : Nat) (k4_6 : (List Nat) → Int → Int → Nat → Nat → (Int × Nat × Nat × (List Nat) × Bool)) : Nat → (List Nat) → Int → Int → Nat → Nat → Int × Nat × Nat × (List Nat) × Bool
  | 0, _, _, _, _, _ => (0, 0, 0, [], false)
  | μ4 + 1, l_left, t84, q4_1, q4_2, q4_3 => (bif decide ((t84 : Int) < (l_list.length : Int)) then (p_spec_l05Pursue_l4 l_list l_scales t6 vsome t24 q1_1 q1_2 q1_3 q1_4 q1_5 q1_6 k4_6 μ4 ((l_left ++ [(fsub .f32 (((l_list).getD (t84 : Int).toNat 0)) ((((p_spec_l05Of (l_list.length : Int) q1_4 q1_5 q1_6)).getD (t84 : Int).toNat 0)))])) (t84 + 1) q4_1 q4_2 q4_3) else (k4_6 l_left t84 q4_1 q4_2 q4_3))
def p_spec_l05Pursue_l4_s := fun l_list l_scales t6 vsome t24 q1_1 q1_2 q1_3 q1_4 q1_5 q1_6 k4_6 μ4 l_left t84 q4_1 q4_2 q4_3 => @p_spec_l05Pursue_l4.eq_2 l_list l_scales t6 vsome t24 q1_1 q1_2 q1_3 q1_4 q1_5 q1_6 k4_6 l_left t84 q4_1 q4_2 q4_3 μ4
def p_spec_l05Pursue_l1 (l_list : List Nat) (l_scales : List Nat) : Nat → Bool → Bool → Int → Int → Nat → Nat → Int → Nat → Nat → Int × Nat × Nat × (List Nat) × Bool
  | 0, _, _, _, _, _, _, _, _, _ => (0, 0, 0, [], false)
  | μ + 1, t6, vsome, t24, q1_1, q1_2, q1_3, q1_4, q1_5, q1_6 => (bif decide ((t24 : Int) < (l_scales.length : Int)) then (p_spec_l05Pursue_l2 l_list l_scales t6 vsome t24 q1_1 q1_2 q1_3 q1_4 q1_5 q1_6 (fun (t6_6 : Bool) (vsome_8 : Bool) (i : Int) (q2_1 : Int) (q2_2 : Nat) (q2_3 : Nat) (q2_4 : Int) (q2_5 : Nat) (q2_6 : Nat) => (p_spec_l05Pursue_l1 l_list l_scales μ t6_6 vsome_8 (t24 + 1) q2_1 q2_2 q2_3 q2_4 q2_5 q2_6)) (Int.toNat ((l_list.length : Int) - (0 : Int)) + 1) t6 vsome (0 : Int) q1_1 q1_2 q1_3 q1_4 q1_5 q1_6) else (p_spec_l05Pursue_l4 l_list l_scales t6 vsome t24 q1_1 q1_2 q1_3 q1_4 q1_5 q1_6 (fun (l_left : List Nat) (t84 : Int) (q4_1 : Int) (q4_2 : Nat) (q4_3 : Nat) => (bif !(p_spec_l02Finite l_left) then ((0 : Int), 0, 0, [], false) else (q1_4, q1_5, q1_6, l_left, true))) (Int.toNat ((l_list.length : Int) - (0 : Int)) + 1) ([] : List Nat) (0 : Int) q1_1 q1_2 q1_3))
def p_spec_l05Pursue_l1_s := fun l_list l_scales μ t6 vsome t24 q1_1 q1_2 q1_3 q1_4 q1_5 q1_6 => @p_spec_l05Pursue_l1.eq_2 l_list l_scales t6 vsome t24 q1_1 q1_2 q1_3 q1_4 q1_5 q1_6 μ
def p_spec_l05Pursue (l_list : List Nat) (l_scales : List Nat) : Int × Nat × Nat × (List Nat) × Bool := (p_spec_l05Pursue_l1 l_list l_scales (Int.toNat ((l_scales.length : Int) - (0 : Int)) + 1) false false (0 : Int) 0 0 0 0 0 0)
def p_spec_l05Pursue_eq := @p_spec_l05Pursue.eq_1
def T_spec_l05Pursue (list_a : Option Addr) (list_n : Nat) (list_e : Nat) (scales_a : Option Addr) (scales_n : Nat) (scales_e : Nat) (H : AHeap) (K : Int → Nat → Nat → (Option Addr) → Nat → Nat → Bool → AHeap → Prop) : Prop := ∃ (l_list : List Nat), ∃ (l_scales : List Nat), IsL fF H list_a list_n l_list ∧ IsL fF H scales_a scales_n l_scales ∧ l_list.length < 1073741824 ∧ l_scales.length < 1073741824 ∧ (∀ y ∈ l_scales, okS y) ∧ 1 ≤ l_list.length ∧ l_list.length ≤ 128 ∧ 1 ≤ l_scales.length ∧ ((∀ (r2_a : Option Addr) (r2_n r2_e : Nat), ∀ H' : AHeap, Grow H H' → OwnS fF H' H.length r2_a r2_n r2_e ((p_spec_l05Pursue l_list l_scales).2.2.2.1) → K ((p_spec_l05Pursue l_list l_scales).1) ((p_spec_l05Pursue l_list l_scales).2.1) ((p_spec_l05Pursue l_list l_scales).2.2.1) r2_a r2_n r2_e ((p_spec_l05Pursue l_list l_scales).2.2.2.2) H'))
theorem T_spec_l05Pursue_i {list_a : Option Addr} {list_n : Nat} {list_e : Nat} {scales_a : Option Addr} {scales_n : Nat} {scales_e : Nat} {H : AHeap} {K : Int → Nat → Nat → (Option Addr) → Nat → Nat → Bool → AHeap → Prop} (h : ∃ (l_list : List Nat), ∃ (l_scales : List Nat), IsL fF H list_a list_n l_list ∧ IsL fF H scales_a scales_n l_scales ∧ l_list.length < 1073741824 ∧ l_scales.length < 1073741824 ∧ (∀ y ∈ l_scales, okS y) ∧ 1 ≤ l_list.length ∧ l_list.length ≤ 128 ∧ 1 ≤ l_scales.length ∧ ((∀ (r2_a : Option Addr) (r2_n r2_e : Nat), ∀ H' : AHeap, Grow H H' → OwnS fF H' H.length r2_a r2_n r2_e ((p_spec_l05Pursue l_list l_scales).2.2.2.1) → K ((p_spec_l05Pursue l_list l_scales).1) ((p_spec_l05Pursue l_list l_scales).2.1) ((p_spec_l05Pursue l_list l_scales).2.2.1) r2_a r2_n r2_e ((p_spec_l05Pursue l_list l_scales).2.2.2.2) H'))) : T_spec_l05Pursue list_a list_n list_e scales_a scales_n scales_e H K := h
theorem spec_PO_l4 (N : Nat) (l sc : List Nat) (t6 fo : Bool) (t35 : Int) (a : Int) (b c : Nat) (d : Int) (e f : Nat) (K : List Nat → Int → Int → Nat → Nat → (Int × Nat × Nat × (List Nat) × Bool)) (hK : ∀ o t x y z, o.length ≤ N → RL N (K o t x y z)) :
    ∀ (μ : Nat) (o : List Nat) (t x : Int) (y z : Nat), o.length + μ ≤ N + 1 → RL N (p_spec_l05Pursue_l4 l sc t6 fo t35 a b c d e f K μ o t x y z) := by
  intro μ
  induction μ with
  | zero => intro o t x y z h; exact rl0 N
  | succ μ ih =>
    intro o t x y z h
    rw [p_spec_l05Pursue_l4_s]
    refine cnb (P := RL N) (fun _ => ih _ _ _ _ _ ?_) (fun _ => hK _ _ _ _ _ o3)
    rw [List.length_append, List.length_singleton]; omega
theorem spec_PO_l3 (N : Nat) (l sc : List Nat) (t6 fo : Bool) (t35 : Int) (a : Int) (b c : Nat) (d : Int) (e f : Nat) (t7 f8 : Bool) (t50 g : Int) (h i : Nat) (j : Int) (m n : Nat) (K : Nat → Int → Int → Nat → Nat → Int → Nat → Nat → (Int × Nat × Nat × (List Nat) × Bool)) (hK : ∀ q t x y z u v w, RL N (K q t x y z u v w)) :
    ∀ (μ q : Nat) (t x : Int) (y z : Nat) (u : Int) (v w : Nat), RL N (p_spec_l05Pursue_l3 l sc t6 fo t35 a b c d e f t7 f8 t50 g h i j m n K μ q t x y z u v w) := by
  intro μ
  induction μ with
  | zero => intro q t x y z u v w; exact rl0 N
  | succ μ ih =>
    intro q t x y z u v w
    rw [p_spec_l05Pursue_l3_s]
    exact cnb (P := RL N) (fun _ => ih _ _ _ _ _ _ _ _) (fun _ => hK _ _ _ _ _ _ _ _)
theorem spec_PO_l2 (N : Nat) (l sc : List Nat) (t6 fo : Bool) (t35 : Int) (a : Int) (b c : Nat) (d : Int) (e f : Nat) (K : Bool → Bool → Int → Int → Nat → Nat → Int → Nat → Nat → (Int × Nat × Nat × (List Nat) × Bool)) (hK : ∀ p q t x y z u v w, RL N (K p q t x y z u v w)) :
    ∀ (μ : Nat) (p q : Bool) (t x : Int) (y z : Nat) (u : Int) (v w : Nat), RL N (p_spec_l05Pursue_l2 l sc t6 fo t35 a b c d e f K μ p q t x y z u v w) := by
  intro μ
  induction μ with
  | zero => intro p q t x y z u v w; exact rl0 N
  | succ μ ih =>
    intro p q t x y z u v w
    rw [p_spec_l05Pursue_l2_s]
    refine cnb (P := RL N) (fun _ => ?_) (fun _ => hK _ _ _ _ _ _ _ _ _)
    refine spec_PO_l3 N _ _ _ _ _ _ _ _ _ _ _ _ _ _ _ _ _ _ _ _ _ (fun q t x y z u v w => ?_) _ _ _ _ _ _ _ _ _
    refine cnb (P := RL N) (fun _ => rl0 _) (fun _ => ?_)
    exact cnb (P := RL N) (fun _ => ih _ _ _ _ _ _ _ _ _) (fun _ => cnb (P := RL N) (fun _ => ih _ _ _ _ _ _ _ _ _) (fun _ => ih _ _ _ _ _ _ _ _ _))
theorem spec_PO_l1 (l sc : List Nat) : ∀ (μ : Nat) (t6 fo : Bool) (t35 : Int) (a : Int) (b c : Nat) (d : Int) (e f : Nat), RL l.length (p_spec_l05Pursue_l1 l sc μ t6 fo t35 a b c d e f) := by
  intro μ
  induction μ with
  | zero => intro t6 fo t35 a b c d e f; exact rl0 _
  | succ μ ih =>
    intro t6 fo t35 a b c d e f
    rw [p_spec_l05Pursue_l1_s]
    refine cnb (P := RL l.length) (fun _ => ?_) (fun _ => ?_)
    · exact spec_PO_l2 _ _ _ _ _ _ _ _ _ _ _ _ _ (fun p q t x y z u v w => ih _ _ _ _ _ _ _ _ _) _ _ _ _ _ _ _ _ _ _
    · refine spec_PO_l4 _ _ _ _ _ _ _ _ _ _ _ _ _ (fun o t x y z ho => ?_) _ _ _ _ _ _ o35
      exact cnb (P := RL l.length) (fun _ => rl0 _) (fun _ => ho)
theorem spec_l05Pursue_len (l sc : List Nat) : (p_spec_l05Pursue l sc).2.2.2.1.length ≤ l.length := by
  rw [p_spec_l05Pursue_eq]; exact spec_PO_l1 _ _ _ _ _ _ _ _ _ _ _ _
theorem o25 {P : Prop} (h : P := by rw [List.length_append, List.length_singleton]; omega) : P := h
theorem spec_PP_l4 (P : (Int × Nat × Nat × (List Nat) × Bool) → Prop) (h0 : P (0, 0, 0, [], false)) (l sc : List Nat) (t6 fo : Bool) (t35 : Int) (a : Int) (b c : Nat) (d : Int) (e f : Nat) (K : List Nat → Int → Int → Nat → Nat → (Int × Nat × Nat × (List Nat) × Bool)) (hK : ∀ o t x y z, o.length = l.length → P (K o t x y z)) :
    ∀ (μ : Nat) (o : List Nat) (t x : Int) (y z : Nat), (o.length : Int) = t → t ≤ (l.length : Int) → ((l.length : Int) - t).toNat < μ → P (p_spec_l05Pursue_l4 l sc t6 fo t35 a b c d e f K μ o t x y z) := by
  intro μ
  induction μ with
  | zero => intro o t x y z h1 h2 h3; omega
  | succ μ ih =>
    intro o t x y z h1 h2 h3
    rw [p_spec_l05Pursue_l4_s]
    by_cases ht : t < (l.length : Int)
    · rw [decide_eq_true ht, cond_true]
      exact ih _ _ _ _ _ o25 o3 o3
    · rw [decide_eq_false ht, cond_false]; exact hK _ _ _ _ _ o3
theorem spec_PP_l3 (P : (Int × Nat × Nat × (List Nat) × Bool) → Prop) (h0 : P (0, 0, 0, [], false)) (l sc : List Nat) (t6 fo : Bool) (t35 : Int) (a : Int) (b c : Nat) (d : Int) (e f : Nat) (t7 f8 : Bool) (t50 g : Int) (h i : Nat) (j : Int) (m n : Nat) (K : Nat → Int → Int → Nat → Nat → Int → Nat → Nat → (Int × Nat × Nat × (List Nat) × Bool)) (hK : ∀ q t x y z u v w, P (K q t x y z u v w)) :
    ∀ (μ q : Nat) (t x : Int) (y z : Nat) (u : Int) (v w : Nat), P (p_spec_l05Pursue_l3 l sc t6 fo t35 a b c d e f t7 f8 t50 g h i j m n K μ q t x y z u v w) := by
  intro μ
  induction μ with
  | zero => intro q t x y z u v w; exact h0
  | succ μ ih =>
    intro q t x y z u v w
    rw [p_spec_l05Pursue_l3_s]
    exact cnb (P := P) (fun _ => ih _ _ _ _ _ _ _ _) (fun _ => hK _ _ _ _ _ _ _ _)
theorem spec_PP_l2 (P : (Int × Nat × Nat × (List Nat) × Bool) → Prop) (h0 : P (0, 0, 0, [], false)) (l sc : List Nat) (t6 fo : Bool) (t35 : Int) (a : Int) (b c : Nat) (d : Int) (e f : Nat) (K : Bool → Bool → Int → Int → Nat → Nat → Int → Nat → Nat → (Int × Nat × Nat × (List Nat) × Bool)) (hK : ∀ p q t x y z u v w, P (K p q t x y z u v w)) :
    ∀ (μ : Nat) (p q : Bool) (t x : Int) (y z : Nat) (u : Int) (v w : Nat), P (p_spec_l05Pursue_l2 l sc t6 fo t35 a b c d e f K μ p q t x y z u v w) := by
  intro μ
  induction μ with
  | zero => intro p q t x y z u v w; exact h0
  | succ μ ih =>
    intro p q t x y z u v w
    rw [p_spec_l05Pursue_l2_s]
    refine cnb (P := P) (fun _ => ?_) (fun _ => hK _ _ _ _ _ _ _ _ _)
    refine spec_PP_l3 P h0 _ _ _ _ _ _ _ _ _ _ _ _ _ _ _ _ _ _ _ _ _ (fun q t x y z u v w => ?_) _ _ _ _ _ _ _ _ _
    refine cnb (P := P) (fun _ => h0) (fun _ => ?_)
    exact cnb (P := P) (fun _ => ih _ _ _ _ _ _ _ _ _) (fun _ => cnb (P := P) (fun _ => ih _ _ _ _ _ _ _ _ _) (fun _ => ih _ _ _ _ _ _ _ _ _))
/-- What holds of all that l05Pursue may return. -/
theorem spec_PP (P : (Int × Nat × Nat × (List Nat) × Bool) → Prop) (h0 : P (0, 0, 0, [], false)) (l sc : List Nat) (hK : ∀ (o : List Nat) (d : Int) (e f : Nat), o.length = l.length → P (bif !(p_spec_l02Finite o) then ((0 : Int), 0, 0, [], false) else (d, e, f, o, true))) : P (p_spec_l05Pursue l sc) := by
  have go : ∀ (μ : Nat) (t6 fo : Bool) (t35 : Int) (a : Int) (b c : Nat) (d : Int) (e f : Nat), P (p_spec_l05Pursue_l1 l sc μ t6 fo t35 a b c d e f) := by
    intro μ
    induction μ with
    | zero => intro t6 fo t35 a b c d e f; exact h0
    | succ μ ih =>
      intro t6 fo t35 a b c d e f
      rw [p_spec_l05Pursue_l1_s]
      refine cnb (P := P) (fun _ => ?_) (fun _ => ?_)
      · exact spec_PP_l2 P h0 _ _ _ _ _ _ _ _ _ _ _ _ (fun p q t x y z u v w => ih _ _ _ _ _ _ _ _ _) _ _ _ _ _ _ _ _ _ _
      · exact spec_PP_l4 P h0 _ _ _ _ _ _ _ _ _ _ _ _ (fun o t x y z ho => hK _ _ _ _ ho) _ _ _ _ _ _ (by rw [List.length_nil]; rfl) o3 o3
  rw [p_spec_l05Pursue_eq]; exact go _ _ _ _ _ _ _ _ _ _
theorem spec_l05Pursue_full {l sc : List Nat} (h : (p_spec_l05Pursue l sc).2.2.2.2 = true) : (p_spec_l05Pursue l sc).2.2.2.1.length = l.length := by
  revert h
  refine spec_PP (fun r => r.2.2.2.2 = true → r.2.2.2.1.length = l.length) (fun h => by cases h) l sc (fun o d e f ho => ?_)
  exact cnb (P := fun r : Int × Nat × Nat × (List Nat) × Bool => r.2.2.2.2 = true → r.2.2.2.1.length = l.length) (fun _ h => by cases h) (fun _ _ => ho)
/-! spec_l05Pursue: function 79 -/
def E_spec_l05Pursue : Env := envOf [(52, S_spec_l05Of), (73, S_spec_l01Finite), (107, S_spec_l03Size), (53, S_spec_l02Finite)]
def F_spec_l05Pursue : List Value → AHeap → (Value → AHeap → Prop) → Prop
  | [.slice list_a list_n list_e, .slice scales_a scales_n scales_e], H, K => T_spec_l05Pursue list_a list_n list_e scales_a scales_n scales_e H fun (r1_Place : Int) (r1_Scale : Nat) (r1_Size : Nat) (r2_a : Option Addr) (r2_n : Nat) (r2_e : Nat) (r3 : Bool) (H' : AHeap) => K (.tuple #[.agg #[.int .i64 r1_Place, .float .f32 r1_Scale, .float .f32 r1_Size], .slice r2_a r2_n r2_e, .bool r3]) H'
  | _, _, _ => False
def S_spec_l05Pursue : FSpec := { F := F_spec_l05Pursue, quiet := false, tame := true }
theorem spec_l05Pursue_vc (list_a : Option Addr) (list_n : Nat) (list_e : Nat) (scales_a : Option Addr) (scales_n : Nat) (scales_e : Nat) (H : AHeap) (K : Value → AHeap → Prop) : bodyK Try.prog E_spec_l05Pursue Try.f79 [.slice list_a list_n list_e, .slice scales_a scales_n scales_e] H K =
  (Al [.int .i64 0, .float .f32 0, .float .f32 0] H fun b1 H1 => Al [.int .i64 0, .float .f32 0, .float .f32 0] H1 fun b2 H2 => isOwn H2 b2 ∧ (∃ l, rdN H2 b2 0 3 = some l) ∧ Lt (setN H2 b2 0 [.int .i64 0, .float .f32 0, .float .f32 0]) fun H3 => loopK (exK Try.prog E_spec_l05Pursue (cl (cl (cr (cl (cr (cr (cr (cr (bodyC Try.f79)))))))))) [.slice list_a list_n list_e, .slice scales_a scales_n scales_e, undef, undef, .pointer (some ⟨b1, 0, none⟩), .slice none 0 0, .bool false, .pointer (some ⟨b2, 0, none⟩), .bool false, .int .i64 (list_n : Int), undef, undef, undef, undef, undef, undef, undef, undef, undef, .agg #[.int .i64 0, .float .f32 0, .float .f32 0], .slice list_a list_n list_e, .int .i64 (list_n : Int), .slice scales_a scales_n scales_e, .int .i64 (scales_n : Int), .int .i64 0, undef, undef, undef, undef, undef, undef, undef, undef, undef, undef, undef, undef, undef, undef, undef, undef, undef, undef, undef, undef, undef, undef, undef, undef, undef, undef, undef, undef, undef, undef, undef, undef, undef, undef, undef, undef, undef, undef, undef, undef, undef, undef, undef, undef, undef, undef, undef, undef, undef, undef, undef, undef, undef, undef, undef, undef, undef, undef, undef, undef, undef, undef, undef, undef, undef, undef, undef, undef, undef, undef, undef, undef, undef, undef, undef, undef, undef, undef, undef, undef, undef] H3 (blockQ 0 (seqQ (exK Try.prog E_spec_l05Pursue (cr (cr (cr (cr (cr (bodyC Try.f79))))))) (retK Try.prog Try.f79 K)))) := by kernel_rfl
abbrev spec_l05Pursue_P1 (b1 : Nat) (b2 : Nat) (list_a : Option Addr) (list_e : Nat) (list_n : Nat) (scales_a : Option Addr) (scales_e : Nat) (scales_n : Nat) (t5_a : Option Addr) (t5_n : Nat) (t5_e : Nat) (t6 : Bool) (vsome : Bool) (t24 : Int) (g10 g11 g12 g13 g14 g15 g25 g26 g27 g28 g29 g30 g31 g32 g33 g34 g35 g36 g37 g38 g39 g40 g41 g42 g43 g44 g45 g46 g47 g48 g49 g50 g51 g52 g53 g54 g55 g56 g57 g58 g59 g60 g61 g62 g63 g64 g65 g66 g67 g68 g69 g70 g71 g72 g73 g74 g75 g76 g77 g78 : Value) : List Value := [.slice list_a list_n list_e, .slice scales_a scales_n scales_e, undef, undef, .pointer (some ⟨b1, 0, none⟩), .slice t5_a t5_n t5_e, .bool t6, .pointer (some ⟨b2, 0, none⟩), .bool vsome, .int .i64 (list_n : Int), g10, g11, g12, g13, g14, g15, undef, undef, undef, .agg #[.int .i64 0, .float .f32 0, .float .f32 0], .slice list_a list_n list_e, .int .i64 (list_n : Int), .slice scales_a scales_n scales_e, .int .i64 (scales_n : Int), .int .i64 t24, g25, g26, g27, g28, g29, g30, g31, g32, g33, g34, g35, g36, g37, g38, g39, g40, g41, g42, g43, g44, g45, g46, g47, g48, g49, g50, g51, g52, g53, g54, g55, g56, g57, g58, g59, g60, g61, g62, g63, g64, g65, g66, g67, g68, g69, g70, g71, g72, g73, g74, g75, g76, g77, g78, undef, undef, undef, undef, undef, undef, undef, undef, undef, undef, undef, undef, undef, undef, undef, undef, undef, undef, undef, undef, undef, undef, undef, undef, undef, undef, undef]
theorem spec_l05Pursue_r1 (b1 : Nat) (b2 : Nat) (list_a : Option Addr) (list_e : Nat) (list_n : Nat) (scales_a : Option Addr) (scales_e : Nat) (scales_n : Nat) (t5_a : Option Addr) (t5_n : Nat) (t5_e : Nat) (t6 : Bool) (vsome : Bool) (t24 : Int) (g10 g11 g12 g13 g14 g15 g25 g26 g27 g28 g29 g30 g31 g32 g33 g34 g35 g36 g37 g38 g39 g40 g41 g42 g43 g44 g45 g46 g47 g48 g49 g50 g51 g52 g53 g54 g55 g56 g57 g58 g59 g60 g61 g62 g63 g64 g65 g66 g67 g68 g69 g70 g71 g72 g73 g74 g75 g76 g77 g78 : Value) (H : AHeap) (R : Post) : exK Try.prog E_spec_l05Pursue (cl (cl (cr (cl (cr (cr (cr (cr (bodyC Try.f79))))))))) (spec_l05Pursue_P1 b1 b2 list_a list_e list_n scales_a scales_e scales_n t5_a t5_n t5_e t6 vsome t24 g10 g11 g12 g13 g14 g15 g25 g26 g27 g28 g29 g30 g31 g32 g33 g34 g35 g36 g37 g38 g39 g40 g41 g42 g43 g44 g45 g46 g47 g48 g49 g50 g51 g52 g53 g54 g55 g56 g57 g58 g59 g60 g61 g62 g63 g64 g65 g66 g67 g68 g69 g70 g71 g72 g73 g74 g75 g76 g77 g78) H R =
  (Br (decide ((t24 : Int) < (scales_n : Int))) (loopK (exK Try.prog E_spec_l05Pursue (cl (cl (cr (cr (cl (cl (cr (cr (cl (cl (cr (cl (cr (cr (cr (cr (bodyC Try.f79)))))))))))))))))) [.slice list_a list_n list_e, .slice scales_a scales_n scales_e, undef, undef, .pointer (some ⟨b1, 0, none⟩), .slice t5_a t5_n t5_e, .bool t6, .pointer (some ⟨b2, 0, none⟩), .bool vsome, .int .i64 (list_n : Int), .int .i64 t24, .int .i64 0, g12, g13, g14, g15, undef, undef, undef, .agg #[.int .i64 0, .float .f32 0, .float .f32 0], .slice list_a list_n list_e, .int .i64 (list_n : Int), .slice scales_a scales_n scales_e, .int .i64 (scales_n : Int), .int .i64 t24, .bool (decide ((t24 : Int) < (scales_n : Int))), .int .i64 t24, g27, g28, g29, g30, g31, g32, g33, g34, g35, g36, g37, g38, g39, g40, g41, g42, g43, g44, g45, g46, g47, g48, g49, g50, g51, g52, g53, g54, g55, g56, g57, g58, g59, g60, g61, g62, g63, g64, g65, g66, g67, g68, g69, g70, g71, g72, g73, g74, g75, g76, g77, g78, undef, undef, undef, undef, undef, undef, undef, undef, undef, undef, undef, undef, undef, undef, undef, undef, undef, undef, undef, undef, undef, undef, undef, undef, undef, undef, undef] H (blockQ 2 (blockQ 1 (seqQ (exK Try.prog E_spec_l05Pursue (cr (cr (cr (cl (cl (cr (cl (cr (cr (cr (cr (bodyC Try.f79))))))))))))) (R))))) (R (.exit 0) [.slice list_a list_n list_e, .slice scales_a scales_n scales_e, undef, undef, .pointer (some ⟨b1, 0, none⟩), .slice t5_a t5_n t5_e, .bool t6, .pointer (some ⟨b2, 0, none⟩), .bool vsome, .int .i64 (list_n : Int), g10, g11, g12, g13, g14, g15, undef, undef, undef, .agg #[.int .i64 0, .float .f32 0, .float .f32 0], .slice list_a list_n list_e, .int .i64 (list_n : Int), .slice scales_a scales_n scales_e, .int .i64 (scales_n : Int), .int .i64 t24, .bool (decide ((t24 : Int) < (scales_n : Int))), g26, g27, g28, g29, g30, g31, g32, g33, g34, g35, g36, g37, g38, g39, g40, g41, g42, g43, g44, g45, g46, g47, g48, g49, g50, g51, g52, g53, g54, g55, g56, g57, g58, g59, g60, g61, g62, g63, g64, g65, g66, g67, g68, g69, g70, g71, g72, g73, g74, g75, g76, g77, g78, undef, undef, undef, undef, undef, undef, undef, undef, undef, undef, undef, undef, undef, undef, undef, undef, undef, undef, undef, undef, undef, undef, undef, undef, undef, undef, undef] H)) := by kernel_rfl
def spec_l05Pursue_I1 (b1 : Nat) (b2 : Nat) (list_a : Option Addr) (list_e : Nat) (list_n : Nat) (scales_a : Option Addr) (scales_e : Nat) (scales_n : Nat) (Inv : Nat → (Option Addr) → Nat → Nat → Bool → Bool → Int → AHeap → Prop) : Nat → List Value → AHeap → Prop := fun μ tm H => ∃ (t5_a : Option Addr), ∃ (t5_n : Nat), ∃ (t5_e : Nat), ∃ (t6 : Bool), ∃ (vsome : Bool), ∃ (t24 : Int), ∃ g10 g11 g12 g13 g14 g15 g25 g26 g27 g28 g29 g30 g31 g32 g33 g34 g35 g36 g37 g38 g39 g40 g41 g42 g43 g44 g45 g46 g47 g48 g49 g50 g51 g52 g53 g54 g55 g56 g57 g58 g59 g60 g61 g62 g63 g64 g65 g66 g67 g68 g69 g70 g71 g72 g73 g74 g75 g76 g77 g78, tm = (spec_l05Pursue_P1 b1 b2 list_a list_e list_n scales_a scales_e scales_n t5_a t5_n t5_e t6 vsome t24 g10 g11 g12 g13 g14 g15 g25 g26 g27 g28 g29 g30 g31 g32 g33 g34 g35 g36 g37 g38 g39 g40 g41 g42 g43 g44 g45 g46 g47 g48 g49 g50 g51 g52 g53 g54 g55 g56 g57 g58 g59 g60 g61 g62 g63 g64 g65 g66 g67 g68 g69 g70 g71 g72 g73 g74 g75 g76 g77 g78) ∧ Inv μ t5_a t5_n t5_e t6 vsome t24 H
theorem spec_l05Pursue_L1 (b1 : Nat) (b2 : Nat) (list_a : Option Addr) (list_e : Nat) (list_n : Nat) (scales_a : Option Addr) (scales_e : Nat) (scales_n : Nat) {Q : Post} (Inv : Nat → (Option Addr) → Nat → Nat → Bool → Bool → Int → AHeap → Prop) (ν : Nat) (t5_a : Option Addr) (t5_n : Nat) (t5_e : Nat) (t6 : Bool) (vsome : Bool) (t24 : Int) (g10 g11 g12 g13 g14 g15 g25 g26 g27 g28 g29 g30 g31 g32 g33 g34 g35 g36 g37 g38 g39 g40 g41 g42 g43 g44 g45 g46 g47 g48 g49 g50 g51 g52 g53 g54 g55 g56 g57 g58 g59 g60 g61 g62 g63 g64 g65 g66 g67 g68 g69 g70 g71 g72 g73 g74 g75 g76 g77 g78 : Value) (H : AHeap) (h0 : Inv ν t5_a t5_n t5_e t6 vsome t24 H)
    (hs : ∀ (μ : Nat) (t5_a : Option Addr) (t5_n : Nat) (t5_e : Nat) (t6 : Bool) (vsome : Bool) (t24 : Int) (g10 g11 g12 g13 g14 g15 g25 g26 g27 g28 g29 g30 g31 g32 g33 g34 g35 g36 g37 g38 g39 g40 g41 g42 g43 g44 g45 g46 g47 g48 g49 g50 g51 g52 g53 g54 g55 g56 g57 g58 g59 g60 g61 g62 g63 g64 g65 g66 g67 g68 g69 g70 g71 g72 g73 g74 g75 g76 g77 g78 : Value) (H : AHeap), Inv μ t5_a t5_n t5_e t6 vsome t24 H → exK Try.prog E_spec_l05Pursue (cl (cl (cr (cl (cr (cr (cr (cr (bodyC Try.f79))))))))) (spec_l05Pursue_P1 b1 b2 list_a list_e list_n scales_a scales_e scales_n t5_a t5_n t5_e t6 vsome t24 g10 g11 g12 g13 g14 g15 g25 g26 g27 g28 g29 g30 g31 g32 g33 g34 g35 g36 g37 g38 g39 g40 g41 g42 g43 g44 g45 g46 g47 g48 g49 g50 g51 g52 g53 g54 g55 g56 g57 g58 g59 g60 g61 g62 g63 g64 g65 g66 g67 g68 g69 g70 g71 g72 g73 g74 g75 g76 g77 g78) H (loopQ (spec_l05Pursue_I1 b1 b2 list_a list_e list_n scales_a scales_e scales_n Inv) μ Q)) : loopK (exK Try.prog E_spec_l05Pursue (cl (cl (cr (cl (cr (cr (cr (cr (bodyC Try.f79)))))))))) (spec_l05Pursue_P1 b1 b2 list_a list_e list_n scales_a scales_e scales_n t5_a t5_n t5_e t6 vsome t24 g10 g11 g12 g13 g14 g15 g25 g26 g27 g28 g29 g30 g31 g32 g33 g34 g35 g36 g37 g38 g39 g40 g41 g42 g43 g44 g45 g46 g47 g48 g49 g50 g51 g52 g53 g54 g55 g56 g57 g58 g59 g60 g61 g62 g63 g64 g65 g66 g67 g68 g69 g70 g71 g72 g73 g74 g75 g76 g77 g78) H Q :=
  ⟨spec_l05Pursue_I1 b1 b2 list_a list_e list_n scales_a scales_e scales_n Inv, ν, ⟨t5_a, t5_n, t5_e, t6, vsome, t24, g10, g11, g12, g13, g14, g15, g25, g26, g27, g28, g29, g30, g31, g32, g33, g34, g35, g36, g37, g38, g39, g40, g41, g42, g43, g44, g45, g46, g47, g48, g49, g50, g51, g52, g53, g54, g55, g56, g57, g58, g59, g60, g61, g62, g63, g64, g65, g66, g67, g68, g69, g70, g71, g72, g73, g74, g75, g76, g77, g78, rfl, h0⟩, fun μ tm H h => by obtain ⟨t5_a, t5_n, t5_e, t6, vsome, t24, g10, g11, g12, g13, g14, g15, g25, g26, g27, g28, g29, g30, g31, g32, g33, g34, g35, g36, g37, g38, g39, g40, g41, g42, g43, g44, g45, g46, g47, g48, g49, g50, g51, g52, g53, g54, g55, g56, g57, g58, g59, g60, g61, g62, g63, g64, g65, g66, g67, g68, g69, g70, g71, g72, g73, g74, g75, g76, g77, g78, rfl, hI⟩ := h; exact hs μ t5_a t5_n t5_e t6 vsome t24 g10 g11 g12 g13 g14 g15 g25 g26 g27 g28 g29 g30 g31 g32 g33 g34 g35 g36 g37 g38 g39 g40 g41 g42 g43 g44 g45 g46 g47 g48 g49 g50 g51 g52 g53 g54 g55 g56 g57 g58 g59 g60 g61 g62 g63 g64 g65 g66 g67 g68 g69 g70 g71 g72 g73 g74 g75 g76 g77 g78 H hI⟩
theorem spec_l05Pursue_n1 {b1 : Nat} {b2 : Nat} {list_a : Option Addr} {list_e : Nat} {list_n : Nat} {scales_a : Option Addr} {scales_e : Nat} {scales_n : Nat} {Q : Post} {Inv : Nat → (Option Addr) → Nat → Nat → Bool → Bool → Int → AHeap → Prop} {μ : Nat} (μ' : Nat) {t5_a : Option Addr} {t5_n : Nat} {t5_e : Nat} {t6 : Bool} {vsome : Bool} {t24 : Int} {g10 g11 g12 g13 g14 g15 g25 g26 g27 g28 g29 g30 g31 g32 g33 g34 g35 g36 g37 g38 g39 g40 g41 g42 g43 g44 g45 g46 g47 g48 g49 g50 g51 g52 g53 g54 g55 g56 g57 g58 g59 g60 g61 g62 g63 g64 g65 g66 g67 g68 g69 g70 g71 g72 g73 g74 g75 g76 g77 g78 : Value} {H : AHeap} (hm : μ' < μ) (hI : Inv μ' t5_a t5_n t5_e t6 vsome t24 H) : loopQ (spec_l05Pursue_I1 b1 b2 list_a list_e list_n scales_a scales_e scales_n Inv) μ Q .normal (spec_l05Pursue_P1 b1 b2 list_a list_e list_n scales_a scales_e scales_n t5_a t5_n t5_e t6 vsome t24 g10 g11 g12 g13 g14 g15 g25 g26 g27 g28 g29 g30 g31 g32 g33 g34 g35 g36 g37 g38 g39 g40 g41 g42 g43 g44 g45 g46 g47 g48 g49 g50 g51 g52 g53 g54 g55 g56 g57 g58 g59 g60 g61 g62 g63 g64 g65 g66 g67 g68 g69 g70 g71 g72 g73 g74 g75 g76 g77 g78) H := ⟨μ', hm, t5_a, t5_n, t5_e, t6, vsome, t24, g10, g11, g12, g13, g14, g15, g25, g26, g27, g28, g29, g30, g31, g32, g33, g34, g35, g36, g37, g38, g39, g40, g41, g42, g43, g44, g45, g46, g47, g48, g49, g50, g51, g52, g53, g54, g55, g56, g57, g58, g59, g60, g61, g62, g63, g64, g65, g66, g67, g68, g69, g70, g71, g72, g73, g74, g75, g76, g77, g78, rfl, hI⟩
theorem spec_l05Pursue_x1_0 (b1 : Nat) (b2 : Nat) (list_a : Option Addr) (list_e : Nat) (list_n : Nat) (scales_a : Option Addr) (scales_e : Nat) (scales_n : Nat) (t5_a : Option Addr) (t5_n : Nat) (t5_e : Nat) (t6 : Bool) (vsome : Bool) (t24 : Int) (g10 g11 g12 g13 g14 g15 g25 g26 g27 g28 g29 g30 g31 g32 g33 g34 g35 g36 g37 g38 g39 g40 g41 g42 g43 g44 g45 g46 g47 g48 g49 g50 g51 g52 g53 g54 g55 g56 g57 g58 g59 g60 g61 g62 g63 g64 g65 g66 g67 g68 g69 g70 g71 g72 g73 g74 g75 g76 g77 g78 : Value) (H : AHeap) (K : Value → AHeap → Prop)  {I : Nat → List Value → AHeap → Prop} {μ : Nat} : loopQ I μ (blockQ 0 (seqQ (exK Try.prog E_spec_l05Pursue (cr (cr (cr (cr (cr (bodyC Try.f79))))))) (retK Try.prog Try.f79 K))) (.exit 0) (spec_l05Pursue_P1 b1 b2 list_a list_e list_n scales_a scales_e scales_n t5_a t5_n t5_e t6 vsome t24 g10 g11 g12 g13 g14 g15 g25 g26 g27 g28 g29 g30 g31 g32 g33 g34 g35 g36 g37 g38 g39 g40 g41 g42 g43 g44 g45 g46 g47 g48 g49 g50 g51 g52 g53 g54 g55 g56 g57 g58 g59 g60 g61 g62 g63 g64 g65 g66 g67 g68 g69 g70 g71 g72 g73 g74 g75 g76 g77 g78) H =
  (T_spec_l05Of (list_n : Int) b2 H fun (a2 : Option Addr) (r6 : Nat) (r7 : Nat) (H13 : AHeap) => Al [] H13 fun b9 H14 => loopK (exK Try.prog E_spec_l05Pursue (cl (cl (cr (cl (cr (cr (cr (cr (cr (cr (cr (bodyC Try.f79))))))))))))) [.slice list_a list_n list_e, .slice scales_a scales_n scales_e, undef, undef, .pointer (some ⟨b1, 0, none⟩), .slice t5_a t5_n t5_e, .bool t6, .pointer (some ⟨b2, 0, none⟩), .bool vsome, .int .i64 (list_n : Int), g10, g11, g12, g13, g14, g15, .slice a2 r6 r7, .slice (some ⟨b9, 0, none⟩) 0 1, undef, .agg #[.int .i64 0, .float .f32 0, .float .f32 0], .slice list_a list_n list_e, .int .i64 (list_n : Int), .slice scales_a scales_n scales_e, .int .i64 (scales_n : Int), .int .i64 t24, g25, g26, g27, g28, g29, g30, g31, g32, g33, g34, g35, g36, g37, g38, g39, g40, g41, g42, g43, g44, g45, g46, g47, g48, g49, g50, g51, g52, g53, g54, g55, g56, g57, g58, g59, g60, g61, g62, g63, g64, g65, g66, g67, g68, g69, g70, g71, g72, g73, g74, g75, g76, g77, g78, .int .i64 (list_n : Int), .slice a2 r6 r7, .slice (some ⟨b9, 0, none⟩) 0 1, .slice list_a list_n list_e, .int .i64 (list_n : Int), .int .i64 0, undef, undef, undef, undef, undef, undef, undef, undef, undef, undef, undef, undef, undef, undef, undef, undef, undef, undef, undef, undef, undef] H14 (blockQ 6 (seqQ (exK Try.prog E_spec_l05Pursue (cr (cr (cr (cr (cr (cr (cr (cr (bodyC Try.f79)))))))))) (retK Try.prog Try.f79 K)))) := by kernel_rfl
theorem spec_l05Pursue_x1_ret (b1 : Nat) (b2 : Nat) (list_a : Option Addr) (list_e : Nat) (list_n : Nat) (scales_a : Option Addr) (scales_e : Nat) (scales_n : Nat) (t5_a : Option Addr) (t5_n : Nat) (t5_e : Nat) (t6 : Bool) (vsome : Bool) (t24 : Int) (g10 g11 g12 g13 g14 g15 g25 g26 g27 g28 g29 g30 g31 g32 g33 g34 g35 g36 g37 g38 g39 g40 g41 g42 g43 g44 g45 g46 g47 g48 g49 g50 g51 g52 g53 g54 g55 g56 g57 g58 g59 g60 g61 g62 g63 g64 g65 g66 g67 g68 g69 g70 g71 g72 g73 g74 g75 g76 g77 g78 : Value) (H : AHeap) (K : Value → AHeap → Prop)  {I : Nat → List Value → AHeap → Prop} {μ : Nat} : loopQ I μ (blockQ 0 (seqQ (exK Try.prog E_spec_l05Pursue (cr (cr (cr (cr (cr (bodyC Try.f79))))))) (retK Try.prog Try.f79 K))) .ret (spec_l05Pursue_P1 b1 b2 list_a list_e list_n scales_a scales_e scales_n t5_a t5_n t5_e t6 vsome t24 g10 g11 g12 g13 g14 g15 g25 g26 g27 g28 g29 g30 g31 g32 g33 g34 g35 g36 g37 g38 g39 g40 g41 g42 g43 g44 g45 g46 g47 g48 g49 g50 g51 g52 g53 g54 g55 g56 g57 g58 g59 g60 g61 g62 g63 g64 g65 g66 g67 g68 g69 g70 g71 g72 g73 g74 g75 g76 g77 g78) H =
  (∃ c10 : Int, ∃ c11 : Nat, ∃ c12 : Nat,  rdN H b1 0 3 = some [.int .i64 c10, .float .f32 c11, .float .f32 c12] ∧ K (.tuple #[.agg #[.int .i64 c10, .float .f32 c11, .float .f32 c12], .slice t5_a t5_n t5_e, .bool t6]) H) := by kernel_rfl
abbrev spec_l05Pursue_P2 (b1 : Nat) (b2 : Nat) (g78 : Value) (list_a : Option Addr) (list_e : Nat) (list_n : Nat) (scales_a : Option Addr) (scales_e : Nat) (scales_n : Nat) (t24 : Int) (t5_a : Option Addr) (t5_n : Nat) (t5_e : Nat) (t6_6 : Bool) (vsome_8 : Bool) (i : Int) (g12 g13 g14 g15 g27 g28 g29 g30 g31 g32 g33 g34 g35 g36 g37 g38 g39 g40 g41 g42 g43 g44 g45 g46 g47 g48 g49 g50 g51 g52 g53 g54 g55 g56 g57 g58 g59 g60 g61 g62 g63 g64 g65 g66 g67 g68 g69 g70 g71 g72 g73 g74 g75 g76 g77 : Value) : List Value := [.slice list_a list_n list_e, .slice scales_a scales_n scales_e, undef, undef, .pointer (some ⟨b1, 0, none⟩), .slice t5_a t5_n t5_e, .bool t6_6, .pointer (some ⟨b2, 0, none⟩), .bool vsome_8, .int .i64 (list_n : Int), .int .i64 t24, .int .i64 i, g12, g13, g14, g15, undef, undef, undef, .agg #[.int .i64 0, .float .f32 0, .float .f32 0], .slice list_a list_n list_e, .int .i64 (list_n : Int), .slice scales_a scales_n scales_e, .int .i64 (scales_n : Int), .int .i64 t24, .bool (decide ((t24 : Int) < (scales_n : Int))), .int .i64 t24, g27, g28, g29, g30, g31, g32, g33, g34, g35, g36, g37, g38, g39, g40, g41, g42, g43, g44, g45, g46, g47, g48, g49, g50, g51, g52, g53, g54, g55, g56, g57, g58, g59, g60, g61, g62, g63, g64, g65, g66, g67, g68, g69, g70, g71, g72, g73, g74, g75, g76, g77, g78, undef, undef, undef, undef, undef, undef, undef, undef, undef, undef, undef, undef, undef, undef, undef, undef, undef, undef, undef, undef, undef, undef, undef, undef, undef, undef, undef]
theorem spec_l05Pursue_r2 (b1 : Nat) (b2 : Nat) (g78 : Value) (list_a : Option Addr) (list_e : Nat) (list_n : Nat) (scales_a : Option Addr) (scales_e : Nat) (scales_n : Nat) (t24 : Int) (t5_a : Option Addr) (t5_n : Nat) (t5_e : Nat) (t6_6 : Bool) (vsome_8 : Bool) (i : Int) (g12 g13 g14 g15 g27 g28 g29 g30 g31 g32 g33 g34 g35 g36 g37 g38 g39 g40 g41 g42 g43 g44 g45 g46 g47 g48 g49 g50 g51 g52 g53 g54 g55 g56 g57 g58 g59 g60 g61 g62 g63 g64 g65 g66 g67 g68 g69 g70 g71 g72 g73 g74 g75 g76 g77 : Value) (H : AHeap) (R : Post) : exK Try.prog E_spec_l05Pursue (cl (cl (cr (cr (cl (cl (cr (cr (cl (cl (cr (cl (cr (cr (cr (cr (bodyC Try.f79))))))))))))))))) (spec_l05Pursue_P2 b1 b2 g78 list_a list_e list_n scales_a scales_e scales_n t24 t5_a t5_n t5_e t6_6 vsome_8 i g12 g13 g14 g15 g27 g28 g29 g30 g31 g32 g33 g34 g35 g36 g37 g38 g39 g40 g41 g42 g43 g44 g45 g46 g47 g48 g49 g50 g51 g52 g53 g54 g55 g56 g57 g58 g59 g60 g61 g62 g63 g64 g65 g66 g67 g68 g69 g70 g71 g72 g73 g74 g75 g76 g77) H R =
  (Br (decide ((i : Int) < (list_n : Int))) ((0 : Int) ≤ t24 ∧ t24 < (scales_n : Int) ∧ ∃ b3 f1, (scales_a : Option Addr) = some ⟨b3, f1, none⟩ ∧ ∃ x1 : Nat,  rdC H b3 (f1 + (t24 : Int).toNat * 1) = some (.float .f32 x1) ∧ Al [.int .i64 0, .float .f32 0, .float .f32 0] H fun b4 H4 => isOwn H4 b4 ∧ (∃ l, rdN H4 b4 0 3 = some l) ∧ Lt (setN H4 b4 0 [.int .i64 i, .float .f32 x1, .float .f32 1065353216]) fun H5 => T_spec_l05Of (list_n : Int) b4 H5 fun (a1 : Option Addr) (r1 : Nat) (r2 : Nat) (H6 : AHeap) => loopK (exK Try.prog E_spec_l05Pursue (cl (cl (cr (cl (cr (cr (cr (cl (cl (cr (cl (cl (cr (cr (cl (cl (cr (cr (cl (cl (cr (cl (cr (cr (cr (cr (bodyC Try.f79)))))))))))))))))))))))))))) [.slice list_a list_n list_e, .slice scales_a scales_n scales_e, undef, undef, .pointer (some ⟨b1, 0, none⟩), .slice t5_a t5_n t5_e, .bool t6_6, .pointer (some ⟨b2, 0, none⟩), .bool vsome_8, .int .i64 (list_n : Int), .int .i64 t24, .int .i64 i, .pointer (some ⟨b4, 0, none⟩), .slice a1 r1 r2, .float .f32 0, g15, undef, undef, undef, .agg #[.int .i64 0, .float .f32 0, .float .f32 0], .slice list_a list_n list_e, .int .i64 (list_n : Int), .slice scales_a scales_n scales_e, .int .i64 (scales_n : Int), .int .i64 t24, .bool (decide ((t24 : Int) < (scales_n : Int))), .int .i64 t24, .int .i64 i, .int .i64 (list_n : Int), .bool (decide ((i : Int) < (list_n : Int))), g30, g31, .int .i64 i, .slice scales_a scales_n scales_e, .int .i64 t24, .pointer (some ⟨b3, f1 + (t24 : Int).toNat * 1, none⟩), .float .f32 x1, .agg #[.int .i64 i, .float .f32 x1, .float .f32 1065353216], .int .i64 (list_n : Int), .slice a1 r1 r2, .slice a1 r1 r2, .int .i64 (r1 : Int), .int .i64 0, g43, g44, g45, g46, g47, g48, g49, g50, g51, g52, g53, g54, g55, g56, g57, g58, g59, g60, g61, g62, g63, g64, g65, g66, g67, g68, g69, g70, g71, g72, g73, g74, g75, g76, g77, g78, undef, undef, undef, undef, undef, undef, undef, undef, undef, undef, undef, undef, undef, undef, undef, undef, undef, undef, undef, undef, undef, undef, undef, undef, undef, undef, undef] H6 (blockQ 4 (seqQ (exK Try.prog E_spec_l05Pursue (cr (cr (cr (cr (cl (cl (cr (cl (cl (cr (cr (cl (cl (cr (cr (cl (cl (cr (cl (cr (cr (cr (cr (bodyC Try.f79))))))))))))))))))))))))) (blockQ 3 (seqQ (exK Try.prog E_spec_l05Pursue (cr (cr (cl (cl (cr (cr (cl (cl (cr (cr (cl (cl (cr (cl (cr (cr (cr (cr (bodyC Try.f79)))))))))))))))))))) (R)))))) (R (.exit 2) [.slice list_a list_n list_e, .slice scales_a scales_n scales_e, undef, undef, .pointer (some ⟨b1, 0, none⟩), .slice t5_a t5_n t5_e, .bool t6_6, .pointer (some ⟨b2, 0, none⟩), .bool vsome_8, .int .i64 (list_n : Int), .int .i64 t24, .int .i64 i, g12, g13, g14, g15, undef, undef, undef, .agg #[.int .i64 0, .float .f32 0, .float .f32 0], .slice list_a list_n list_e, .int .i64 (list_n : Int), .slice scales_a scales_n scales_e, .int .i64 (scales_n : Int), .int .i64 t24, .bool (decide ((t24 : Int) < (scales_n : Int))), .int .i64 t24, .int .i64 i, .int .i64 (list_n : Int), .bool (decide ((i : Int) < (list_n : Int))), g30, g31, g32, g33, g34, g35, g36, g37, g38, g39, g40, g41, g42, g43, g44, g45, g46, g47, g48, g49, g50, g51, g52, g53, g54, g55, g56, g57, g58, g59, g60, g61, g62, g63, g64, g65, g66, g67, g68, g69, g70, g71, g72, g73, g74, g75, g76, g77, g78, undef, undef, undef, undef, undef, undef, undef, undef, undef, undef, undef, undef, undef, undef, undef, undef, undef, undef, undef, undef, undef, undef, undef, undef, undef, undef, undef] H)) := by kernel_rfl
def spec_l05Pursue_I2 (b1 : Nat) (b2 : Nat) (g78 : Value) (list_a : Option Addr) (list_e : Nat) (list_n : Nat) (scales_a : Option Addr) (scales_e : Nat) (scales_n : Nat) (t24 : Int) (Inv : Nat → (Option Addr) → Nat → Nat → Bool → Bool → Int → AHeap → Prop) : Nat → List Value → AHeap → Prop := fun μ tm H => ∃ (t5_a : Option Addr), ∃ (t5_n : Nat), ∃ (t5_e : Nat), ∃ (t6_6 : Bool), ∃ (vsome_8 : Bool), ∃ (i : Int), ∃ g12 g13 g14 g15 g27 g28 g29 g30 g31 g32 g33 g34 g35 g36 g37 g38 g39 g40 g41 g42 g43 g44 g45 g46 g47 g48 g49 g50 g51 g52 g53 g54 g55 g56 g57 g58 g59 g60 g61 g62 g63 g64 g65 g66 g67 g68 g69 g70 g71 g72 g73 g74 g75 g76 g77, tm = (spec_l05Pursue_P2 b1 b2 g78 list_a list_e list_n scales_a scales_e scales_n t24 t5_a t5_n t5_e t6_6 vsome_8 i g12 g13 g14 g15 g27 g28 g29 g30 g31 g32 g33 g34 g35 g36 g37 g38 g39 g40 g41 g42 g43 g44 g45 g46 g47 g48 g49 g50 g51 g52 g53 g54 g55 g56 g57 g58 g59 g60 g61 g62 g63 g64 g65 g66 g67 g68 g69 g70 g71 g72 g73 g74 g75 g76 g77) ∧ Inv μ t5_a t5_n t5_e t6_6 vsome_8 i H
theorem spec_l05Pursue_L2 (b1 : Nat) (b2 : Nat) (g78 : Value) (list_a : Option Addr) (list_e : Nat) (list_n : Nat) (scales_a : Option Addr) (scales_e : Nat) (scales_n : Nat) (t24 : Int) {Q : Post} (Inv : Nat → (Option Addr) → Nat → Nat → Bool → Bool → Int → AHeap → Prop) (ν : Nat) (t5_a : Option Addr) (t5_n : Nat) (t5_e : Nat) (t6_6 : Bool) (vsome_8 : Bool) (i : Int) (g12 g13 g14 g15 g27 g28 g29 g30 g31 g32 g33 g34 g35 g36 g37 g38 g39 g40 g41 g42 g43 g44 g45 g46 g47 g48 g49 g50 g51 g52 g53 g54 g55 g56 g57 g58 g59 g60 g61 g62 g63 g64 g65 g66 g67 g68 g69 g70 g71 g72 g73 g74 g75 g76 g77 : Value) (H : AHeap) (h0 : Inv ν t5_a t5_n t5_e t6_6 vsome_8 i H)
    (hs : ∀ (μ : Nat) (t5_a : Option Addr) (t5_n : Nat) (t5_e : Nat) (t6_6 : Bool) (vsome_8 : Bool) (i : Int) (g12 g13 g14 g15 g27 g28 g29 g30 g31 g32 g33 g34 g35 g36 g37 g38 g39 g40 g41 g42 g43 g44 g45 g46 g47 g48 g49 g50 g51 g52 g53 g54 g55 g56 g57 g58 g59 g60 g61 g62 g63 g64 g65 g66 g67 g68 g69 g70 g71 g72 g73 g74 g75 g76 g77 : Value) (H : AHeap), Inv μ t5_a t5_n t5_e t6_6 vsome_8 i H → exK Try.prog E_spec_l05Pursue (cl (cl (cr (cr (cl (cl (cr (cr (cl (cl (cr (cl (cr (cr (cr (cr (bodyC Try.f79))))))))))))))))) (spec_l05Pursue_P2 b1 b2 g78 list_a list_e list_n scales_a scales_e scales_n t24 t5_a t5_n t5_e t6_6 vsome_8 i g12 g13 g14 g15 g27 g28 g29 g30 g31 g32 g33 g34 g35 g36 g37 g38 g39 g40 g41 g42 g43 g44 g45 g46 g47 g48 g49 g50 g51 g52 g53 g54 g55 g56 g57 g58 g59 g60 g61 g62 g63 g64 g65 g66 g67 g68 g69 g70 g71 g72 g73 g74 g75 g76 g77) H (loopQ (spec_l05Pursue_I2 b1 b2 g78 list_a list_e list_n scales_a scales_e scales_n t24 Inv) μ Q)) : loopK (exK Try.prog E_spec_l05Pursue (cl (cl (cr (cr (cl (cl (cr (cr (cl (cl (cr (cl (cr (cr (cr (cr (bodyC Try.f79)))))))))))))))))) (spec_l05Pursue_P2 b1 b2 g78 list_a list_e list_n scales_a scales_e scales_n t24 t5_a t5_n t5_e t6_6 vsome_8 i g12 g13 g14 g15 g27 g28 g29 g30 g31 g32 g33 g34 g35 g36 g37 g38 g39 g40 g41 g42 g43 g44 g45 g46 g47 g48 g49 g50 g51 g52 g53 g54 g55 g56 g57 g58 g59 g60 g61 g62 g63 g64 g65 g66 g67 g68 g69 g70 g71 g72 g73 g74 g75 g76 g77) H Q :=
  ⟨spec_l05Pursue_I2 b1 b2 g78 list_a list_e list_n scales_a scales_e scales_n t24 Inv, ν, ⟨t5_a, t5_n, t5_e, t6_6, vsome_8, i, g12, g13, g14, g15, g27, g28, g29, g30, g31, g32, g33, g34, g35, g36, g37, g38, g39, g40, g41, g42, g43, g44, g45, g46, g47, g48, g49, g50, g51, g52, g53, g54, g55, g56, g57, g58, g59, g60, g61, g62, g63, g64, g65, g66, g67, g68, g69, g70, g71, g72, g73, g74, g75, g76, g77, rfl, h0⟩, fun μ tm H h => by obtain ⟨t5_a, t5_n, t5_e, t6_6, vsome_8, i, g12, g13, g14, g15, g27, g28, g29, g30, g31, g32, g33, g34, g35, g36, g37, g38, g39, g40, g41, g42, g43, g44, g45, g46, g47, g48, g49, g50, g51, g52, g53, g54, g55, g56, g57, g58, g59, g60, g61, g62, g63, g64, g65, g66, g67, g68, g69, g70, g71, g72, g73, g74, g75, g76, g77, rfl, hI⟩ := h; exact hs μ t5_a t5_n t5_e t6_6 vsome_8 i g12 g13 g14 g15 g27 g28 g29 g30 g31 g32 g33 g34 g35 g36 g37 g38 g39 g40 g41 g42 g43 g44 g45 g46 g47 g48 g49 g50 g51 g52 g53 g54 g55 g56 g57 g58 g59 g60 g61 g62 g63 g64 g65 g66 g67 g68 g69 g70 g71 g72 g73 g74 g75 g76 g77 H hI⟩
theorem spec_l05Pursue_n2 {b1 : Nat} {b2 : Nat} {g78 : Value} {list_a : Option Addr} {list_e : Nat} {list_n : Nat} {scales_a : Option Addr} {scales_e : Nat} {scales_n : Nat} {t24 : Int} {Q : Post} {Inv : Nat → (Option Addr) → Nat → Nat → Bool → Bool → Int → AHeap → Prop} {μ : Nat} (μ' : Nat) {t5_a : Option Addr} {t5_n : Nat} {t5_e : Nat} {t6_6 : Bool} {vsome_8 : Bool} {i : Int} {g12 g13 g14 g15 g27 g28 g29 g30 g31 g32 g33 g34 g35 g36 g37 g38 g39 g40 g41 g42 g43 g44 g45 g46 g47 g48 g49 g50 g51 g52 g53 g54 g55 g56 g57 g58 g59 g60 g61 g62 g63 g64 g65 g66 g67 g68 g69 g70 g71 g72 g73 g74 g75 g76 g77 : Value} {H : AHeap} (hm : μ' < μ) (hI : Inv μ' t5_a t5_n t5_e t6_6 vsome_8 i H) : loopQ (spec_l05Pursue_I2 b1 b2 g78 list_a list_e list_n scales_a scales_e scales_n t24 Inv) μ Q .normal (spec_l05Pursue_P2 b1 b2 g78 list_a list_e list_n scales_a scales_e scales_n t24 t5_a t5_n t5_e t6_6 vsome_8 i g12 g13 g14 g15 g27 g28 g29 g30 g31 g32 g33 g34 g35 g36 g37 g38 g39 g40 g41 g42 g43 g44 g45 g46 g47 g48 g49 g50 g51 g52 g53 g54 g55 g56 g57 g58 g59 g60 g61 g62 g63 g64 g65 g66 g67 g68 g69 g70 g71 g72 g73 g74 g75 g76 g77) H := ⟨μ', hm, t5_a, t5_n, t5_e, t6_6, vsome_8, i, g12, g13, g14, g15, g27, g28, g29, g30, g31, g32, g33, g34, g35, g36, g37, g38, g39, g40, g41, g42, g43, g44, g45, g46, g47, g48, g49, g50, g51, g52, g53, g54, g55, g56, g57, g58, g59, g60, g61, g62, g63, g64, g65, g66, g67, g68, g69, g70, g71, g72, g73, g74, g75, g76, g77, rfl, hI⟩
theorem spec_l05Pursue_x2_2 (b1 : Nat) (b2 : Nat) (g78 : Value) (list_a : Option Addr) (list_e : Nat) (list_n : Nat) (scales_a : Option Addr) (scales_e : Nat) (scales_n : Nat) (t24 : Int) (t5_a : Option Addr) (t5_n : Nat) (t5_e : Nat) (t6_6 : Bool) (vsome_8 : Bool) (i : Int) (g12 g13 g14 g15 g27 g28 g29 g30 g31 g32 g33 g34 g35 g36 g37 g38 g39 g40 g41 g42 g43 g44 g45 g46 g47 g48 g49 g50 g51 g52 g53 g54 g55 g56 g57 g58 g59 g60 g61 g62 g63 g64 g65 g66 g67 g68 g69 g70 g71 g72 g73 g74 g75 g76 g77 : Value) (H : AHeap)  (R : Post) {I : Nat → List Value → AHeap → Prop} {μ : Nat} : loopQ I μ (blockQ 2 (blockQ 1 (seqQ (exK Try.prog E_spec_l05Pursue (cr (cr (cr (cl (cl (cr (cl (cr (cr (cr (cr (bodyC Try.f79))))))))))))) (R)))) (.exit 2) (spec_l05Pursue_P2 b1 b2 g78 list_a list_e list_n scales_a scales_e scales_n t24 t5_a t5_n t5_e t6_6 vsome_8 i g12 g13 g14 g15 g27 g28 g29 g30 g31 g32 g33 g34 g35 g36 g37 g38 g39 g40 g41 g42 g43 g44 g45 g46 g47 g48 g49 g50 g51 g52 g53 g54 g55 g56 g57 g58 g59 g60 g61 g62 g63 g64 g65 g66 g67 g68 g69 g70 g71 g72 g73 g74 g75 g76 g77) H =
  (R .normal [.slice list_a list_n list_e, .slice scales_a scales_n scales_e, undef, undef, .pointer (some ⟨b1, 0, none⟩), .slice t5_a t5_n t5_e, .bool t6_6, .pointer (some ⟨b2, 0, none⟩), .bool vsome_8, .int .i64 (list_n : Int), .int .i64 t24, .int .i64 i, g12, g13, g14, g15, undef, undef, undef, .agg #[.int .i64 0, .float .f32 0, .float .f32 0], .slice list_a list_n list_e, .int .i64 (list_n : Int), .slice scales_a scales_n scales_e, .int .i64 (scales_n : Int), .int .i64 (IntKind.wrap .i64 (t24 + 1)), .bool (decide ((t24 : Int) < (scales_n : Int))), .int .i64 t24, g27, g28, g29, g30, g31, g32, g33, g34, g35, g36, g37, g38, g39, g40, g41, g42, g43, g44, g45, g46, g47, g48, g49, g50, g51, g52, g53, g54, g55, g56, g57, g58, g59, g60, g61, g62, g63, g64, g65, g66, g67, g68, g69, g70, g71, g72, g73, g74, g75, g76, g77, .int .i64 (IntKind.wrap .i64 (t24 + 1)), undef, undef, undef, undef, undef, undef, undef, undef, undef, undef, undef, undef, undef, undef, undef, undef, undef, undef, undef, undef, undef, undef, undef, undef, undef, undef, undef] H) := by kernel_rfl
theorem spec_l05Pursue_x2_ret (b1 : Nat) (b2 : Nat) (g78 : Value) (list_a : Option Addr) (list_e : Nat) (list_n : Nat) (scales_a : Option Addr) (scales_e : Nat) (scales_n : Nat) (t24 : Int) (t5_a : Option Addr) (t5_n : Nat) (t5_e : Nat) (t6_6 : Bool) (vsome_8 : Bool) (i : Int) (g12 g13 g14 g15 g27 g28 g29 g30 g31 g32 g33 g34 g35 g36 g37 g38 g39 g40 g41 g42 g43 g44 g45 g46 g47 g48 g49 g50 g51 g52 g53 g54 g55 g56 g57 g58 g59 g60 g61 g62 g63 g64 g65 g66 g67 g68 g69 g70 g71 g72 g73 g74 g75 g76 g77 : Value) (H : AHeap)  (R : Post) {I : Nat → List Value → AHeap → Prop} {μ : Nat} : loopQ I μ (blockQ 2 (blockQ 1 (seqQ (exK Try.prog E_spec_l05Pursue (cr (cr (cr (cl (cl (cr (cl (cr (cr (cr (cr (bodyC Try.f79))))))))))))) (R)))) .ret (spec_l05Pursue_P2 b1 b2 g78 list_a list_e list_n scales_a scales_e scales_n t24 t5_a t5_n t5_e t6_6 vsome_8 i g12 g13 g14 g15 g27 g28 g29 g30 g31 g32 g33 g34 g35 g36 g37 g38 g39 g40 g41 g42 g43 g44 g45 g46 g47 g48 g49 g50 g51 g52 g53 g54 g55 g56 g57 g58 g59 g60 g61 g62 g63 g64 g65 g66 g67 g68 g69 g70 g71 g72 g73 g74 g75 g76 g77) H =
  (R .ret [.slice list_a list_n list_e, .slice scales_a scales_n scales_e, undef, undef, .pointer (some ⟨b1, 0, none⟩), .slice t5_a t5_n t5_e, .bool t6_6, .pointer (some ⟨b2, 0, none⟩), .bool vsome_8, .int .i64 (list_n : Int), .int .i64 t24, .int .i64 i, g12, g13, g14, g15, undef, undef, undef, .agg #[.int .i64 0, .float .f32 0, .float .f32 0], .slice list_a list_n list_e, .int .i64 (list_n : Int), .slice scales_a scales_n scales_e, .int .i64 (scales_n : Int), .int .i64 t24, .bool (decide ((t24 : Int) < (scales_n : Int))), .int .i64 t24, g27, g28, g29, g30, g31, g32, g33, g34, g35, g36, g37, g38, g39, g40, g41, g42, g43, g44, g45, g46, g47, g48, g49, g50, g51, g52, g53, g54, g55, g56, g57, g58, g59, g60, g61, g62, g63, g64, g65, g66, g67, g68, g69, g70, g71, g72, g73, g74, g75, g76, g77, g78, undef, undef, undef, undef, undef, undef, undef, undef, undef, undef, undef, undef, undef, undef, undef, undef, undef, undef, undef, undef, undef, undef, undef, undef, undef, undef, undef] H) := by kernel_rfl
abbrev spec_l05Pursue_P3 (a1 : Option Addr) (b1 : Nat) (b2 : Nat) (b3 : Nat) (b4 : Nat) (f1 : Nat) (g30 : Value) (g31 : Value) (g57 : Value) (g58 : Value) (g59 : Value) (g60 : Value) (g61 : Value) (g62 : Value) (g63 : Value) (g64 : Value) (g65 : Value) (g66 : Value) (g67 : Value) (g68 : Value) (g69 : Value) (g70 : Value) (g71 : Value) (g72 : Value) (g73 : Value) (g74 : Value) (g75 : Value) (g76 : Value) (g77 : Value) (g78 : Value) (i : Int) (list_a : Option Addr) (list_e : Nat) (list_n : Nat) (r1 : Nat) (r2 : Nat) (scales_a : Option Addr) (scales_e : Nat) (scales_n : Nat) (t24 : Int) (t5_a : Option Addr) (t5_e : Nat) (t5_n : Nat) (t6_6 : Bool) (vsome_8 : Bool) (x1 : Nat) (q : Nat) (t42 : Int) (g15 g43 g44 g45 g46 g47 g48 g49 g50 g51 g52 g53 g54 g55 g56 : Value) : List Value := [.slice list_a list_n list_e, .slice scales_a scales_n scales_e, undef, undef, .pointer (some ⟨b1, 0, none⟩), .slice t5_a t5_n t5_e, .bool t6_6, .pointer (some ⟨b2, 0, none⟩), .bool vsome_8, .int .i64 (list_n : Int), .int .i64 t24, .int .i64 i, .pointer (some ⟨b4, 0, none⟩), .slice a1 r1 r2, .float .f32 q, g15, undef, undef, undef, .agg #[.int .i64 0, .float .f32 0, .float .f32 0], .slice list_a list_n list_e, .int .i64 (list_n : Int), .slice scales_a scales_n scales_e, .int .i64 (scales_n : Int), .int .i64 t24, .bool (decide ((t24 : Int) < (scales_n : Int))), .int .i64 t24, .int .i64 i, .int .i64 (list_n : Int), .bool (decide ((i : Int) < (list_n : Int))), g30, g31, .int .i64 i, .slice scales_a scales_n scales_e, .int .i64 t24, .pointer (some ⟨b3, f1 + (t24 : Int).toNat * 1, none⟩), .float .f32 x1, .agg #[.int .i64 i, .float .f32 x1, .float .f32 1065353216], .int .i64 (list_n : Int), .slice a1 r1 r2, .slice a1 r1 r2, .int .i64 (r1 : Int), .int .i64 t42, g43, g44, g45, g46, g47, g48, g49, g50, g51, g52, g53, g54, g55, g56, g57, g58, g59, g60, g61, g62, g63, g64, g65, g66, g67, g68, g69, g70, g71, g72, g73, g74, g75, g76, g77, g78, undef, undef, undef, undef, undef, undef, undef, undef, undef, undef, undef, undef, undef, undef, undef, undef, undef, undef, undef, undef, undef, undef, undef, undef, undef, undef, undef]
theorem spec_l05Pursue_r3 (a1 : Option Addr) (b1 : Nat) (b2 : Nat) (b3 : Nat) (b4 : Nat) (f1 : Nat) (g30 : Value) (g31 : Value) (g57 : Value) (g58 : Value) (g59 : Value) (g60 : Value) (g61 : Value) (g62 : Value) (g63 : Value) (g64 : Value) (g65 : Value) (g66 : Value) (g67 : Value) (g68 : Value) (g69 : Value) (g70 : Value) (g71 : Value) (g72 : Value) (g73 : Value) (g74 : Value) (g75 : Value) (g76 : Value) (g77 : Value) (g78 : Value) (i : Int) (list_a : Option Addr) (list_e : Nat) (list_n : Nat) (r1 : Nat) (r2 : Nat) (scales_a : Option Addr) (scales_e : Nat) (scales_n : Nat) (t24 : Int) (t5_a : Option Addr) (t5_e : Nat) (t5_n : Nat) (t6_6 : Bool) (vsome_8 : Bool) (x1 : Nat) (q : Nat) (t42 : Int) (g15 g43 g44 g45 g46 g47 g48 g49 g50 g51 g52 g53 g54 g55 g56 : Value) (H : AHeap) (R : Post) : exK Try.prog E_spec_l05Pursue (cl (cl (cr (cl (cr (cr (cr (cl (cl (cr (cl (cl (cr (cr (cl (cl (cr (cr (cl (cl (cr (cl (cr (cr (cr (cr (bodyC Try.f79))))))))))))))))))))))))))) (spec_l05Pursue_P3 a1 b1 b2 b3 b4 f1 g30 g31 g57 g58 g59 g60 g61 g62 g63 g64 g65 g66 g67 g68 g69 g70 g71 g72 g73 g74 g75 g76 g77 g78 i list_a list_e list_n r1 r2 scales_a scales_e scales_n t24 t5_a t5_e t5_n t6_6 vsome_8 x1 q t42 g15 g43 g44 g45 g46 g47 g48 g49 g50 g51 g52 g53 g54 g55 g56) H R =
  (Br (decide ((t42 : Int) < (r1 : Int))) ((0 : Int) ≤ t42 ∧ t42 < (r1 : Int) ∧ ∃ b5 f2, (a1 : Option Addr) = some ⟨b5, f2, none⟩ ∧ ∃ x2 : Nat,  rdC H b5 (f2 + (t42 : Int).toNat * 1) = some (.float .f32 x2) ∧ (0 : Int) ≤ t42 ∧ t42 < (list_n : Int) ∧ ∃ b6 f3, (list_a : Option Addr) = some ⟨b6, f3, none⟩ ∧ ∃ x3 : Nat,  rdC H b6 (f3 + (t42 : Int).toNat * 1) = some (.float .f32 x3) ∧ R .normal [.slice list_a list_n list_e, .slice scales_a scales_n scales_e, undef, undef, .pointer (some ⟨b1, 0, none⟩), .slice t5_a t5_n t5_e, .bool t6_6, .pointer (some ⟨b2, 0, none⟩), .bool vsome_8, .int .i64 (list_n : Int), .int .i64 t24, .int .i64 i, .pointer (some ⟨b4, 0, none⟩), .slice a1 r1 r2, .float .f32 (fadd .f32 q (fmul .f32 x2 x3)), .int .i64 t42, undef, undef, undef, .agg #[.int .i64 0, .float .f32 0, .float .f32 0], .slice list_a list_n list_e, .int .i64 (list_n : Int), .slice scales_a scales_n scales_e, .int .i64 (scales_n : Int), .int .i64 t24, .bool (decide ((t24 : Int) < (scales_n : Int))), .int .i64 t24, .int .i64 i, .int .i64 (list_n : Int), .bool (decide ((i : Int) < (list_n : Int))), g30, g31, .int .i64 i, .slice scales_a scales_n scales_e, .int .i64 t24, .pointer (some ⟨b3, f1 + (t24 : Int).toNat * 1, none⟩), .float .f32 x1, .agg #[.int .i64 i, .float .f32 x1, .float .f32 1065353216], .int .i64 (list_n : Int), .slice a1 r1 r2, .slice a1 r1 r2, .int .i64 (r1 : Int), .int .i64 (IntKind.wrap .i64 (t42 + 1)), .bool (decide ((t42 : Int) < (r1 : Int))), .int .i64 t42, .float .f32 q, .slice a1 r1 r2, .int .i64 t42, .pointer (some ⟨b5, f2 + (t42 : Int).toNat * 1, none⟩), .float .f32 x2, .slice list_a list_n list_e, .int .i64 t42, .pointer (some ⟨b6, f3 + (t42 : Int).toNat * 1, none⟩), .float .f32 x3, .float .f32 (fmul .f32 x2 x3), .float .f32 (fadd .f32 q (fmul .f32 x2 x3)), .int .i64 (IntKind.wrap .i64 (t42 + 1)), g57, g58, g59, g60, g61, g62, g63, g64, g65, g66, g67, g68, g69, g70, g71, g72, g73, g74, g75, g76, g77, g78, undef, undef, undef, undef, undef, undef, undef, undef, undef, undef, undef, undef, undef, undef, undef, undef, undef, undef, undef, undef, undef, undef, undef, undef, undef, undef, undef] H) (R (.exit 4) [.slice list_a list_n list_e, .slice scales_a scales_n scales_e, undef, undef, .pointer (some ⟨b1, 0, none⟩), .slice t5_a t5_n t5_e, .bool t6_6, .pointer (some ⟨b2, 0, none⟩), .bool vsome_8, .int .i64 (list_n : Int), .int .i64 t24, .int .i64 i, .pointer (some ⟨b4, 0, none⟩), .slice a1 r1 r2, .float .f32 q, g15, undef, undef, undef, .agg #[.int .i64 0, .float .f32 0, .float .f32 0], .slice list_a list_n list_e, .int .i64 (list_n : Int), .slice scales_a scales_n scales_e, .int .i64 (scales_n : Int), .int .i64 t24, .bool (decide ((t24 : Int) < (scales_n : Int))), .int .i64 t24, .int .i64 i, .int .i64 (list_n : Int), .bool (decide ((i : Int) < (list_n : Int))), g30, g31, .int .i64 i, .slice scales_a scales_n scales_e, .int .i64 t24, .pointer (some ⟨b3, f1 + (t24 : Int).toNat * 1, none⟩), .float .f32 x1, .agg #[.int .i64 i, .float .f32 x1, .float .f32 1065353216], .int .i64 (list_n : Int), .slice a1 r1 r2, .slice a1 r1 r2, .int .i64 (r1 : Int), .int .i64 t42, .bool (decide ((t42 : Int) < (r1 : Int))), g44, g45, g46, g47, g48, g49, g50, g51, g52, g53, g54, g55, g56, g57, g58, g59, g60, g61, g62, g63, g64, g65, g66, g67, g68, g69, g70, g71, g72, g73, g74, g75, g76, g77, g78, undef, undef, undef, undef, undef, undef, undef, undef, undef, undef, undef, undef, undef, undef, undef, undef, undef, undef, undef, undef, undef, undef, undef, undef, undef, undef, undef] H)) := by kernel_rfl
def spec_l05Pursue_I3 (a1 : Option Addr) (b1 : Nat) (b2 : Nat) (b3 : Nat) (b4 : Nat) (f1 : Nat) (g30 : Value) (g31 : Value) (g57 : Value) (g58 : Value) (g59 : Value) (g60 : Value) (g61 : Value) (g62 : Value) (g63 : Value) (g64 : Value) (g65 : Value) (g66 : Value) (g67 : Value) (g68 : Value) (g69 : Value) (g70 : Value) (g71 : Value) (g72 : Value) (g73 : Value) (g74 : Value) (g75 : Value) (g76 : Value) (g77 : Value) (g78 : Value) (i : Int) (list_a : Option Addr) (list_e : Nat) (list_n : Nat) (r1 : Nat) (r2 : Nat) (scales_a : Option Addr) (scales_e : Nat) (scales_n : Nat) (t24 : Int) (t5_a : Option Addr) (t5_e : Nat) (t5_n : Nat) (t6_6 : Bool) (vsome_8 : Bool) (x1 : Nat) (Inv : Nat → Nat → Int → AHeap → Prop) : Nat → List Value → AHeap → Prop := fun μ tm H => ∃ (q : Nat), ∃ (t42 : Int), ∃ g15 g43 g44 g45 g46 g47 g48 g49 g50 g51 g52 g53 g54 g55 g56, tm = (spec_l05Pursue_P3 a1 b1 b2 b3 b4 f1 g30 g31 g57 g58 g59 g60 g61 g62 g63 g64 g65 g66 g67 g68 g69 g70 g71 g72 g73 g74 g75 g76 g77 g78 i list_a list_e list_n r1 r2 scales_a scales_e scales_n t24 t5_a t5_e t5_n t6_6 vsome_8 x1 q t42 g15 g43 g44 g45 g46 g47 g48 g49 g50 g51 g52 g53 g54 g55 g56) ∧ Inv μ q t42 H
theorem spec_l05Pursue_L3 (a1 : Option Addr) (b1 : Nat) (b2 : Nat) (b3 : Nat) (b4 : Nat) (f1 : Nat) (g30 : Value) (g31 : Value) (g57 : Value) (g58 : Value) (g59 : Value) (g60 : Value) (g61 : Value) (g62 : Value) (g63 : Value) (g64 : Value) (g65 : Value) (g66 : Value) (g67 : Value) (g68 : Value) (g69 : Value) (g70 : Value) (g71 : Value) (g72 : Value) (g73 : Value) (g74 : Value) (g75 : Value) (g76 : Value) (g77 : Value) (g78 : Value) (i : Int) (list_a : Option Addr) (list_e : Nat) (list_n : Nat) (r1 : Nat) (r2 : Nat) (scales_a : Option Addr) (scales_e : Nat) (scales_n : Nat) (t24 : Int) (t5_a : Option Addr) (t5_e : Nat) (t5_n : Nat) (t6_6 : Bool) (vsome_8 : Bool) (x1 : Nat) {Q : Post} (Inv : Nat → Nat → Int → AHeap → Prop) (ν : Nat) (q : Nat) (t42 : Int) (g15 g43 g44 g45 g46 g47 g48 g49 g50 g51 g52 g53 g54 g55 g56 : Value) (H : AHeap) (h0 : Inv ν q t42 H)
    (hs : ∀ (μ : Nat) (q : Nat) (t42 : Int) (g15 g43 g44 g45 g46 g47 g48 g49 g50 g51 g52 g53 g54 g55 g56 : Value) (H : AHeap), Inv μ q t42 H → exK Try.prog E_spec_l05Pursue (cl (cl (cr (cl (cr (cr (cr (cl (cl (cr (cl (cl (cr (cr (cl (cl (cr (cr (cl (cl (cr (cl (cr (cr (cr (cr (bodyC Try.f79))))))))))))))))))))))))))) (spec_l05Pursue_P3 a1 b1 b2 b3 b4 f1 g30 g31 g57 g58 g59 g60 g61 g62 g63 g64 g65 g66 g67 g68 g69 g70 g71 g72 g73 g74 g75 g76 g77 g78 i list_a list_e list_n r1 r2 scales_a scales_e scales_n t24 t5_a t5_e t5_n t6_6 vsome_8 x1 q t42 g15 g43 g44 g45 g46 g47 g48 g49 g50 g51 g52 g53 g54 g55 g56) H (loopQ (spec_l05Pursue_I3 a1 b1 b2 b3 b4 f1 g30 g31 g57 g58 g59 g60 g61 g62 g63 g64 g65 g66 g67 g68 g69 g70 g71 g72 g73 g74 g75 g76 g77 g78 i list_a list_e list_n r1 r2 scales_a scales_e scales_n t24 t5_a t5_e t5_n t6_6 vsome_8 x1 Inv) μ Q)) : loopK (exK Try.prog E_spec_l05Pursue (cl (cl (cr (cl (cr (cr (cr (cl (cl (cr (cl (cl (cr (cr (cl (cl (cr (cr (cl (cl (cr (cl (cr (cr (cr (cr (bodyC Try.f79)))))))))))))))))))))))))))) (spec_l05Pursue_P3 a1 b1 b2 b3 b4 f1 g30 g31 g57 g58 g59 g60 g61 g62 g63 g64 g65 g66 g67 g68 g69 g70 g71 g72 g73 g74 g75 g76 g77 g78 i list_a list_e list_n r1 r2 scales_a scales_e scales_n t24 t5_a t5_e t5_n t6_6 vsome_8 x1 q t42 g15 g43 g44 g45 g46 g47 g48 g49 g50 g51 g52 g53 g54 g55 g56) H Q :=
  ⟨spec_l05Pursue_I3 a1 b1 b2 b3 b4 f1 g30 g31 g57 g58 g59 g60 g61 g62 g63 g64 g65 g66 g67 g68 g69 g70 g71 g72 g73 g74 g75 g76 g77 g78 i list_a list_e list_n r1 r2 scales_a scales_e scales_n t24 t5_a t5_e t5_n t6_6 vsome_8 x1 Inv, ν, ⟨q, t42, g15, g43, g44, g45, g46, g47, g48, g49, g50, g51, g52, g53, g54, g55, g56, rfl, h0⟩, fun μ tm H h => by obtain ⟨q, t42, g15, g43, g44, g45, g46, g47, g48, g49, g50, g51, g52, g53, g54, g55, g56, rfl, hI⟩ := h; exact hs μ q t42 g15 g43 g44 g45 g46 g47 g48 g49 g50 g51 g52 g53 g54 g55 g56 H hI⟩
theorem spec_l05Pursue_n3 {a1 : Option Addr} {b1 : Nat} {b2 : Nat} {b3 : Nat} {b4 : Nat} {f1 : Nat} {g30 : Value} {g31 : Value} {g57 : Value} {g58 : Value} {g59 : Value} {g60 : Value} {g61 : Value} {g62 : Value} {g63 : Value} {g64 : Value} {g65 : Value} {g66 : Value} {g67 : Value} {g68 : Value} {g69 : Value} {g70 : Value} {g71 : Value} {g72 : Value} {g73 : Value} {g74 : Value} {g75 : Value} {g76 : Value} {g77 : Value} {g78 : Value} {i : Int} {list_a : Option Addr} {list_e : Nat} {list_n : Nat} {r1 : Nat} {r2 : Nat} {scales_a : Option Addr} {scales_e : Nat} {scales_n : Nat} {t24 : Int} {t5_a : Option Addr} {t5_e : Nat} {t5_n : Nat} {t6_6 : Bool} {vsome_8 : Bool} {x1 : Nat} {Q : Post} {Inv : Nat → Nat → Int → AHeap → Prop} {μ : Nat} (μ' : Nat) {q : Nat} {t42 : Int} {g15 g43 g44 g45 g46 g47 g48 g49 g50 g51 g52 g53 g54 g55 g56 : Value} {H : AHeap} (hm : μ' < μ) (hI : Inv μ' q t42 H) : loopQ (spec_l05Pursue_I3 a1 b1 b2 b3 b4 f1 g30 g31 g57 g58 g59 g60 g61 g62 g63 g64 g65 g66 g67 g68 g69 g70 g71 g72 g73 g74 g75 g76 g77 g78 i list_a list_e list_n r1 r2 scales_a scales_e scales_n t24 t5_a t5_e t5_n t6_6 vsome_8 x1 Inv) μ Q .normal (spec_l05Pursue_P3 a1 b1 b2 b3 b4 f1 g30 g31 g57 g58 g59 g60 g61 g62 g63 g64 g65 g66 g67 g68 g69 g70 g71 g72 g73 g74 g75 g76 g77 g78 i list_a list_e list_n r1 r2 scales_a scales_e scales_n t24 t5_a t5_e t5_n t6_6 vsome_8 x1 q t42 g15 g43 g44 g45 g46 g47 g48 g49 g50 g51 g52 g53 g54 g55 g56) H := ⟨μ', hm, q, t42, g15, g43, g44, g45, g46, g47, g48, g49, g50, g51, g52, g53, g54, g55, g56, rfl, hI⟩
theorem spec_l05Pursue_x3_4 (a1 : Option Addr) (b1 : Nat) (b2 : Nat) (b3 : Nat) (b4 : Nat) (f1 : Nat) (g30 : Value) (g31 : Value) (g57 : Value) (g58 : Value) (g59 : Value) (g60 : Value) (g61 : Value) (g62 : Value) (g63 : Value) (g64 : Value) (g65 : Value) (g66 : Value) (g67 : Value) (g68 : Value) (g69 : Value) (g70 : Value) (g71 : Value) (g72 : Value) (g73 : Value) (g74 : Value) (g75 : Value) (g76 : Value) (g77 : Value) (g78 : Value) (i : Int) (list_a : Option Addr) (list_e : Nat) (list_n : Nat) (r1 : Nat) (r2 : Nat) (scales_a : Option Addr) (scales_e : Nat) (scales_n : Nat) (t24 : Int) (t5_a : Option Addr) (t5_e : Nat) (t5_n : Nat) (t6_6 : Bool) (vsome_8 : Bool) (x1 : Nat) (q : Nat) (t42 : Int) (g15 g43 g44 g45 g46 g47 g48 g49 g50 g51 g52 g53 g54 g55 g56 : Value) (H : AHeap)  (R : Post) {I : Nat → List Value → AHeap → Prop} {μ : Nat} : loopQ I μ (blockQ 4 (seqQ (exK Try.prog E_spec_l05Pursue (cr (cr (cr (cr (cl (cl (cr (cl (cl (cr (cr (cl (cl (cr (cr (cl (cl (cr (cl (cr (cr (cr (cr (bodyC Try.f79))))))))))))))))))))))))) (blockQ 3 (seqQ (exK Try.prog E_spec_l05Pursue (cr (cr (cl (cl (cr (cr (cl (cl (cr (cr (cl (cl (cr (cl (cr (cr (cr (cr (bodyC Try.f79)))))))))))))))))))) (R))))) (.exit 4) (spec_l05Pursue_P3 a1 b1 b2 b3 b4 f1 g30 g31 g57 g58 g59 g60 g61 g62 g63 g64 g65 g66 g67 g68 g69 g70 g71 g72 g73 g74 g75 g76 g77 g78 i list_a list_e list_n r1 r2 scales_a scales_e scales_n t24 t5_a t5_e t5_n t6_6 vsome_8 x1 q t42 g15 g43 g44 g45 g46 g47 g48 g49 g50 g51 g52 g53 g54 g55 g56) H =
  (T_spec_l01Finite q H fun (r3 : Bool) (H7 : AHeap) => Br (!r3) (isOwn H7 b1 ∧ (∃ l, rdN H7 b1 0 3 = some l) ∧ Lt (setN H7 b1 0 [.int .i64 0, .float .f32 0, .float .f32 0]) fun H8 => R .ret [.slice list_a list_n list_e, .slice scales_a scales_n scales_e, undef, undef, .pointer (some ⟨b1, 0, none⟩), .slice none 0 0, .bool false, .pointer (some ⟨b2, 0, none⟩), .bool vsome_8, .int .i64 (list_n : Int), .int .i64 t24, .int .i64 i, .pointer (some ⟨b4, 0, none⟩), .slice a1 r1 r2, .float .f32 q, g15, undef, undef, undef, .agg #[.int .i64 0, .float .f32 0, .float .f32 0], .slice list_a list_n list_e, .int .i64 (list_n : Int), .slice scales_a scales_n scales_e, .int .i64 (scales_n : Int), .int .i64 t24, .bool (decide ((t24 : Int) < (scales_n : Int))), .int .i64 t24, .int .i64 i, .int .i64 (list_n : Int), .bool (decide ((i : Int) < (list_n : Int))), g30, g31, .int .i64 i, .slice scales_a scales_n scales_e, .int .i64 t24, .pointer (some ⟨b3, f1 + (t24 : Int).toNat * 1, none⟩), .float .f32 x1, .agg #[.int .i64 i, .float .f32 x1, .float .f32 1065353216], .int .i64 (list_n : Int), .slice a1 r1 r2, .slice a1 r1 r2, .int .i64 (r1 : Int), .int .i64 t42, g43, g44, g45, g46, g47, g48, g49, g50, g51, g52, g53, g54, g55, g56, .float .f32 q, .bool r3, .bool (!r3), .agg #[.int .i64 0, .float .f32 0, .float .f32 0], g61, g62, g63, g64, g65, g66, g67, g68, g69, g70, g71, g72, g73, g74, g75, g76, g77, g78, undef, undef, undef, undef, undef, undef, undef, undef, undef, undef, undef, undef, undef, undef, undef, undef, undef, undef, undef, undef, undef, undef, undef, undef, undef, undef, undef] H8) (Br (!vsome_8) ((0 : Int) ≤ t24 ∧ t24 < (scales_n : Int) ∧ ∃ b7 f4, (scales_a : Option Addr) = some ⟨b7, f4, none⟩ ∧ ∃ x4 : Nat,  rdC H7 b7 (f4 + (t24 : Int).toNat * 1) = some (.float .f32 x4) ∧ isOwn H7 b2 ∧ (∃ l, rdN H7 b2 0 3 = some l) ∧ Lt (setN H7 b2 0 [.int .i64 i, .float .f32 x4, .float .f32 q]) fun H9 => R .normal [.slice list_a list_n list_e, .slice scales_a scales_n scales_e, undef, undef, .pointer (some ⟨b1, 0, none⟩), .slice t5_a t5_n t5_e, .bool t6_6, .pointer (some ⟨b2, 0, none⟩), .bool true, .int .i64 (list_n : Int), .int .i64 t24, .int .i64 (IntKind.wrap .i64 (i + 1)), .pointer (some ⟨b4, 0, none⟩), .slice a1 r1 r2, .float .f32 q, g15, undef, undef, undef, .agg #[.int .i64 0, .float .f32 0, .float .f32 0], .slice list_a list_n list_e, .int .i64 (list_n : Int), .slice scales_a scales_n scales_e, .int .i64 (scales_n : Int), .int .i64 t24, .bool (decide ((t24 : Int) < (scales_n : Int))), .int .i64 t24, .int .i64 i, .int .i64 (list_n : Int), .bool (decide ((i : Int) < (list_n : Int))), .int .i64 i, .int .i64 (IntKind.wrap .i64 (i + 1)), .int .i64 i, .slice scales_a scales_n scales_e, .int .i64 t24, .pointer (some ⟨b3, f1 + (t24 : Int).toNat * 1, none⟩), .float .f32 x1, .agg #[.int .i64 i, .float .f32 x1, .float .f32 1065353216], .int .i64 (list_n : Int), .slice a1 r1 r2, .slice a1 r1 r2, .int .i64 (r1 : Int), .int .i64 t42, g43, g44, g45, g46, g47, g48, g49, g50, g51, g52, g53, g54, g55, g56, .float .f32 q, .bool r3, .bool (!r3), g60, .bool vsome_8, .bool (!vsome_8), .bool true, undef, undef, undef, undef, undef, undef, .bool true, .int .i64 i, .slice scales_a scales_n scales_e, .int .i64 t24, .pointer (some ⟨b7, f4 + (t24 : Int).toNat * 1, none⟩), .float .f32 x4, .float .f32 q, .agg #[.int .i64 i, .float .f32 x4, .float .f32 q], g78, undef, undef, undef, undef, undef, undef, undef, undef, undef, undef, undef, undef, undef, undef, undef, undef, undef, undef, undef, undef, undef, undef, undef, undef, undef, undef, undef] H9) (T_spec_l03Size q H7 fun (r4 : Nat) (H10 : AHeap) => ∃ x5 : Nat,  rdC H10 b2 2 = some (.float .f32 x5) ∧ T_spec_l03Size x5 H10 fun (r5 : Nat) (H11 : AHeap) => Br (flt .f32 r5 r4) ((0 : Int) ≤ t24 ∧ t24 < (scales_n : Int) ∧ ∃ b8 f5, (scales_a : Option Addr) = some ⟨b8, f5, none⟩ ∧ ∃ x6 : Nat,  rdC H11 b8 (f5 + (t24 : Int).toNat * 1) = some (.float .f32 x6) ∧ isOwn H11 b2 ∧ (∃ l, rdN H11 b2 0 3 = some l) ∧ Lt (setN H11 b2 0 [.int .i64 i, .float .f32 x6, .float .f32 q]) fun H12 => R .normal [.slice list_a list_n list_e, .slice scales_a scales_n scales_e, undef, undef, .pointer (some ⟨b1, 0, none⟩), .slice t5_a t5_n t5_e, .bool t6_6, .pointer (some ⟨b2, 0, none⟩), .bool true, .int .i64 (list_n : Int), .int .i64 t24, .int .i64 (IntKind.wrap .i64 (i + 1)), .pointer (some ⟨b4, 0, none⟩), .slice a1 r1 r2, .float .f32 q, g15, undef, undef, undef, .agg #[.int .i64 0, .float .f32 0, .float .f32 0], .slice list_a list_n list_e, .int .i64 (list_n : Int), .slice scales_a scales_n scales_e, .int .i64 (scales_n : Int), .int .i64 t24, .bool (decide ((t24 : Int) < (scales_n : Int))), .int .i64 t24, .int .i64 i, .int .i64 (list_n : Int), .bool (decide ((i : Int) < (list_n : Int))), .int .i64 i, .int .i64 (IntKind.wrap .i64 (i + 1)), .int .i64 i, .slice scales_a scales_n scales_e, .int .i64 t24, .pointer (some ⟨b3, f1 + (t24 : Int).toNat * 1, none⟩), .float .f32 x1, .agg #[.int .i64 i, .float .f32 x1, .float .f32 1065353216], .int .i64 (list_n : Int), .slice a1 r1 r2, .slice a1 r1 r2, .int .i64 (r1 : Int), .int .i64 t42, g43, g44, g45, g46, g47, g48, g49, g50, g51, g52, g53, g54, g55, g56, .float .f32 q, .bool r3, .bool (!r3), g60, .bool vsome_8, .bool (!vsome_8), .bool false, .float .f32 q, .float .f32 r4, .pointer (some ⟨b2, 2, none⟩), .float .f32 x5, .float .f32 r5, .bool (flt .f32 r5 r4), .bool (flt .f32 r5 r4), .int .i64 i, .slice scales_a scales_n scales_e, .int .i64 t24, .pointer (some ⟨b8, f5 + (t24 : Int).toNat * 1, none⟩), .float .f32 x6, .float .f32 q, .agg #[.int .i64 i, .float .f32 x6, .float .f32 q], g78, undef, undef, undef, undef, undef, undef, undef, undef, undef, undef, undef, undef, undef, undef, undef, undef, undef, undef, undef, undef, undef, undef, undef, undef, undef, undef, undef] H12) (R .normal [.slice list_a list_n list_e, .slice scales_a scales_n scales_e, undef, undef, .pointer (some ⟨b1, 0, none⟩), .slice t5_a t5_n t5_e, .bool t6_6, .pointer (some ⟨b2, 0, none⟩), .bool vsome_8, .int .i64 (list_n : Int), .int .i64 t24, .int .i64 (IntKind.wrap .i64 (i + 1)), .pointer (some ⟨b4, 0, none⟩), .slice a1 r1 r2, .float .f32 q, g15, undef, undef, undef, .agg #[.int .i64 0, .float .f32 0, .float .f32 0], .slice list_a list_n list_e, .int .i64 (list_n : Int), .slice scales_a scales_n scales_e, .int .i64 (scales_n : Int), .int .i64 t24, .bool (decide ((t24 : Int) < (scales_n : Int))), .int .i64 t24, .int .i64 i, .int .i64 (list_n : Int), .bool (decide ((i : Int) < (list_n : Int))), .int .i64 i, .int .i64 (IntKind.wrap .i64 (i + 1)), .int .i64 i, .slice scales_a scales_n scales_e, .int .i64 t24, .pointer (some ⟨b3, f1 + (t24 : Int).toNat * 1, none⟩), .float .f32 x1, .agg #[.int .i64 i, .float .f32 x1, .float .f32 1065353216], .int .i64 (list_n : Int), .slice a1 r1 r2, .slice a1 r1 r2, .int .i64 (r1 : Int), .int .i64 t42, g43, g44, g45, g46, g47, g48, g49, g50, g51, g52, g53, g54, g55, g56, .float .f32 q, .bool r3, .bool (!r3), g60, .bool vsome_8, .bool (!vsome_8), .bool false, .float .f32 q, .float .f32 r4, .pointer (some ⟨b2, 2, none⟩), .float .f32 x5, .float .f32 r5, .bool (flt .f32 r5 r4), .bool (flt .f32 r5 r4), g71, g72, g73, g74, g75, g76, g77, g78, undef, undef, undef, undef, undef, undef, undef, undef, undef, undef, undef, undef, undef, undef, undef, undef, undef, undef, undef, undef, undef, undef, undef, undef, undef, undef, undef] H11)))) := by kernel_rfl
abbrev spec_l05Pursue_P4 (a2 : Option Addr) (b1 : Nat) (b2 : Nat) (b9 : Nat) (g10 : Value) (g11 : Value) (g12 : Value) (g13 : Value) (g14 : Value) (g15 : Value) (g25 : Value) (g26 : Value) (g27 : Value) (g28 : Value) (g29 : Value) (g30 : Value) (g31 : Value) (g32 : Value) (g33 : Value) (g34 : Value) (g35 : Value) (g36 : Value) (g37 : Value) (g38 : Value) (g39 : Value) (g40 : Value) (g41 : Value) (g42 : Value) (g43 : Value) (g44 : Value) (g45 : Value) (g46 : Value) (g47 : Value) (g48 : Value) (g49 : Value) (g50 : Value) (g51 : Value) (g52 : Value) (g53 : Value) (g54 : Value) (g55 : Value) (g56 : Value) (g57 : Value) (g58 : Value) (g59 : Value) (g60 : Value) (g61 : Value) (g62 : Value) (g63 : Value) (g64 : Value) (g65 : Value) (g66 : Value) (g67 : Value) (g68 : Value) (g69 : Value) (g70 : Value) (g71 : Value) (g72 : Value) (g73 : Value) (g74 : Value) (g75 : Value) (g76 : Value) (g77 : Value) (g78 : Value) (list_a : Option Addr) (list_e : Nat) (list_n : Nat) (r6 : Nat) (r7 : Nat) (scales_a : Option Addr) (scales_e : Nat) (scales_n : Nat) (t24 : Int) (t5_a : Option Addr) (t5_e : Nat) (t5_n : Nat) (t6 : Bool) (vsome : Bool) (left_a : Option Addr) (left_n : Nat) (left_e : Nat) (t84 : Int) (g18 g85 g86 g87 g88 g89 g90 g91 g92 g93 g94 g95 g96 g97 g98 g99 : Value) : List Value := [.slice list_a list_n list_e, .slice scales_a scales_n scales_e, undef, undef, .pointer (some ⟨b1, 0, none⟩), .slice t5_a t5_n t5_e, .bool t6, .pointer (some ⟨b2, 0, none⟩), .bool vsome, .int .i64 (list_n : Int), g10, g11, g12, g13, g14, g15, .slice a2 r6 r7, .slice left_a left_n left_e, g18, .agg #[.int .i64 0, .float .f32 0, .float .f32 0], .slice list_a list_n list_e, .int .i64 (list_n : Int), .slice scales_a scales_n scales_e, .int .i64 (scales_n : Int), .int .i64 t24, g25, g26, g27, g28, g29, g30, g31, g32, g33, g34, g35, g36, g37, g38, g39, g40, g41, g42, g43, g44, g45, g46, g47, g48, g49, g50, g51, g52, g53, g54, g55, g56, g57, g58, g59, g60, g61, g62, g63, g64, g65, g66, g67, g68, g69, g70, g71, g72, g73, g74, g75, g76, g77, g78, .int .i64 (list_n : Int), .slice a2 r6 r7, .slice (some ⟨b9, 0, none⟩) 0 1, .slice list_a list_n list_e, .int .i64 (list_n : Int), .int .i64 t84, g85, g86, g87, g88, g89, g90, g91, g92, g93, g94, g95, g96, g97, g98, g99, undef, undef, undef, undef, undef, undef]
theorem spec_l05Pursue_r4 (a2 : Option Addr) (b1 : Nat) (b2 : Nat) (b9 : Nat) (g10 : Value) (g11 : Value) (g12 : Value) (g13 : Value) (g14 : Value) (g15 : Value) (g25 : Value) (g26 : Value) (g27 : Value) (g28 : Value) (g29 : Value) (g30 : Value) (g31 : Value) (g32 : Value) (g33 : Value) (g34 : Value) (g35 : Value) (g36 : Value) (g37 : Value) (g38 : Value) (g39 : Value) (g40 : Value) (g41 : Value) (g42 : Value) (g43 : Value) (g44 : Value) (g45 : Value) (g46 : Value) (g47 : Value) (g48 : Value) (g49 : Value) (g50 : Value) (g51 : Value) (g52 : Value) (g53 : Value) (g54 : Value) (g55 : Value) (g56 : Value) (g57 : Value) (g58 : Value) (g59 : Value) (g60 : Value) (g61 : Value) (g62 : Value) (g63 : Value) (g64 : Value) (g65 : Value) (g66 : Value) (g67 : Value) (g68 : Value) (g69 : Value) (g70 : Value) (g71 : Value) (g72 : Value) (g73 : Value) (g74 : Value) (g75 : Value) (g76 : Value) (g77 : Value) (g78 : Value) (list_a : Option Addr) (list_e : Nat) (list_n : Nat) (r6 : Nat) (r7 : Nat) (scales_a : Option Addr) (scales_e : Nat) (scales_n : Nat) (t24 : Int) (t5_a : Option Addr) (t5_e : Nat) (t5_n : Nat) (t6 : Bool) (vsome : Bool) (left_a : Option Addr) (left_n : Nat) (left_e : Nat) (t84 : Int) (g18 g85 g86 g87 g88 g89 g90 g91 g92 g93 g94 g95 g96 g97 g98 g99 : Value) (H : AHeap) (R : Post) : exK Try.prog E_spec_l05Pursue (cl (cl (cr (cl (cr (cr (cr (cr (cr (cr (cr (bodyC Try.f79)))))))))))) (spec_l05Pursue_P4 a2 b1 b2 b9 g10 g11 g12 g13 g14 g15 g25 g26 g27 g28 g29 g30 g31 g32 g33 g34 g35 g36 g37 g38 g39 g40 g41 g42 g43 g44 g45 g46 g47 g48 g49 g50 g51 g52 g53 g54 g55 g56 g57 g58 g59 g60 g61 g62 g63 g64 g65 g66 g67 g68 g69 g70 g71 g72 g73 g74 g75 g76 g77 g78 list_a list_e list_n r6 r7 scales_a scales_e scales_n t24 t5_a t5_e t5_n t6 vsome left_a left_n left_e t84 g18 g85 g86 g87 g88 g89 g90 g91 g92 g93 g94 g95 g96 g97 g98 g99) H R =
  (Br (decide ((t84 : Int) < (list_n : Int))) ((0 : Int) ≤ t84 ∧ t84 < (list_n : Int) ∧ ∃ b10 f6, (list_a : Option Addr) = some ⟨b10, f6, none⟩ ∧ ∃ x7 : Nat,  rdC H b10 (f6 + (t84 : Int).toNat * 1) = some (.float .f32 x7) ∧ (0 : Int) ≤ t84 ∧ t84 < (r6 : Int) ∧ ∃ b11 f7, (a2 : Option Addr) = some ⟨b11, f7, none⟩ ∧ ∃ x8 : Nat,  rdC H b11 (f7 + (t84 : Int).toNat * 1) = some (.float .f32 x8) ∧ Al [.float .f32 (fsub .f32 x7 x8)] H fun b12 H15 => ∃ o1 w1 : List Value, ownB H15 left_a left_n left_e 1 = some o1 ∧ rdS H15 (some ⟨b12, 0, none⟩) (1 * 1) = some w1 ∧ ((left_a : Option Addr) = none → 0 < (1 : Nat)) ∧ (left_n : Nat) + 1 < most ∧ Ap H15 (killB H15 left_a ++ [some ⟨o1 ++ w1, true⟩]) fun b13 H16 => R .normal [.slice list_a list_n list_e, .slice scales_a scales_n scales_e, undef, undef, .pointer (some ⟨b1, 0, none⟩), .slice t5_a t5_n t5_e, .bool t6, .pointer (some ⟨b2, 0, none⟩), .bool vsome, .int .i64 (list_n : Int), g10, g11, g12, g13, g14, g15, .slice a2 r6 r7, .slice (some ⟨b13, 0, none⟩) (left_n + 1) 1, .int .i64 t84, .agg #[.int .i64 0, .float .f32 0, .float .f32 0], .slice list_a list_n list_e, .int .i64 (list_n : Int), .slice scales_a scales_n scales_e, .int .i64 (scales_n : Int), .int .i64 t24, g25, g26, g27, g28, g29, g30, g31, g32, g33, g34, g35, g36, g37, g38, g39, g40, g41, g42, g43, g44, g45, g46, g47, g48, g49, g50, g51, g52, g53, g54, g55, g56, g57, g58, g59, g60, g61, g62, g63, g64, g65, g66, g67, g68, g69, g70, g71, g72, g73, g74, g75, g76, g77, g78, .int .i64 (list_n : Int), .slice a2 r6 r7, .slice (some ⟨b9, 0, none⟩) 0 1, .slice list_a list_n list_e, .int .i64 (list_n : Int), .int .i64 (IntKind.wrap .i64 (t84 + 1)), .bool (decide ((t84 : Int) < (list_n : Int))), .int .i64 t84, .slice left_a left_n left_e, .slice list_a list_n list_e, .int .i64 t84, .pointer (some ⟨b10, f6 + (t84 : Int).toNat * 1, none⟩), .float .f32 x7, .slice a2 r6 r7, .int .i64 t84, .pointer (some ⟨b11, f7 + (t84 : Int).toNat * 1, none⟩), .float .f32 x8, .float .f32 (fsub .f32 x7 x8), .slice (some ⟨b12, 0, none⟩) 1 1, .slice (some ⟨b13, 0, none⟩) (left_n + 1) 1, .int .i64 (IntKind.wrap .i64 (t84 + 1)), undef, undef, undef, undef, undef, undef] H16) (R (.exit 6) [.slice list_a list_n list_e, .slice scales_a scales_n scales_e, undef, undef, .pointer (some ⟨b1, 0, none⟩), .slice t5_a t5_n t5_e, .bool t6, .pointer (some ⟨b2, 0, none⟩), .bool vsome, .int .i64 (list_n : Int), g10, g11, g12, g13, g14, g15, .slice a2 r6 r7, .slice left_a left_n left_e, g18, .agg #[.int .i64 0, .float .f32 0, .float .f32 0], .slice list_a list_n list_e, .int .i64 (list_n : Int), .slice scales_a scales_n scales_e, .int .i64 (scales_n : Int), .int .i64 t24, g25, g26, g27, g28, g29, g30, g31, g32, g33, g34, g35, g36, g37, g38, g39, g40, g41, g42, g43, g44, g45, g46, g47, g48, g49, g50, g51, g52, g53, g54, g55, g56, g57, g58, g59, g60, g61, g62, g63, g64, g65, g66, g67, g68, g69, g70, g71, g72, g73, g74, g75, g76, g77, g78, .int .i64 (list_n : Int), .slice a2 r6 r7, .slice (some ⟨b9, 0, none⟩) 0 1, .slice list_a list_n list_e, .int .i64 (list_n : Int), .int .i64 t84, .bool (decide ((t84 : Int) < (list_n : Int))), g86, g87, g88, g89, g90, g91, g92, g93, g94, g95, g96, g97, g98, g99, undef, undef, undef, undef, undef, undef] H)) := by kernel_rfl
def spec_l05Pursue_I4 (a2 : Option Addr) (b1 : Nat) (b2 : Nat) (b9 : Nat) (g10 : Value) (g11 : Value) (g12 : Value) (g13 : Value) (g14 : Value) (g15 : Value) (g25 : Value) (g26 : Value) (g27 : Value) (g28 : Value) (g29 : Value) (g30 : Value) (g31 : Value) (g32 : Value) (g33 : Value) (g34 : Value) (g35 : Value) (g36 : Value) (g37 : Value) (g38 : Value) (g39 : Value) (g40 : Value) (g41 : Value) (g42 : Value) (g43 : Value) (g44 : Value) (g45 : Value) (g46 : Value) (g47 : Value) (g48 : Value) (g49 : Value) (g50 : Value) (g51 : Value) (g52 : Value) (g53 : Value) (g54 : Value) (g55 : Value) (g56 : Value) (g57 : Value) (g58 : Value) (g59 : Value) (g60 : Value) (g61 : Value) (g62 : Value) (g63 : Value) (g64 : Value) (g65 : Value) (g66 : Value) (g67 : Value) (g68 : Value) (g69 : Value) (g70 : Value) (g71 : Value) (g72 : Value) (g73 : Value) (g74 : Value) (g75 : Value) (g76 : Value) (g77 : Value) (g78 : Value) (list_a : Option Addr) (list_e : Nat) (list_n : Nat) (r6 : Nat) (r7 : Nat) (scales_a : Option Addr) (scales_e : Nat) (scales_n : Nat) (t24 : Int) (t5_a : Option Addr) (t5_e : Nat) (t5_n : Nat) (t6 : Bool) (vsome : Bool) (Inv : Nat → (Option Addr) → Nat → Nat → Int → AHeap → Prop) : Nat → List Value → AHeap → Prop := fun μ tm H => ∃ (left_a : Option Addr), ∃ (left_n : Nat), ∃ (left_e : Nat), ∃ (t84 : Int), ∃ g18 g85 g86 g87 g88 g89 g90 g91 g92 g93 g94 g95 g96 g97 g98 g99, tm = (spec_l05Pursue_P4 a2 b1 b2 b9 g10 g11 g12 g13 g14 g15 g25 g26 g27 g28 g29 g30 g31 g32 g33 g34 g35 g36 g37 g38 g39 g40 g41 g42 g43 g44 g45 g46 g47 g48 g49 g50 g51 g52 g53 g54 g55 g56 g57 g58 g59 g60 g61 g62 g63 g64 g65 g66 g67 g68 g69 g70 g71 g72 g73 g74 g75 g76 g77 g78 list_a list_e list_n r6 r7 scales_a scales_e scales_n t24 t5_a t5_e t5_n t6 vsome left_a left_n left_e t84 g18 g85 g86 g87 g88 g89 g90 g91 g92 g93 g94 g95 g96 g97 g98 g99) ∧ Inv μ left_a left_n left_e t84 H
theorem spec_l05Pursue_L4 (a2 : Option Addr) (b1 : Nat) (b2 : Nat) (b9 : Nat) (g10 : Value) (g11 : Value) (g12 : Value) (g13 : Value) (g14 : Value) (g15 : Value) (g25 : Value) (g26 : Value) (g27 : Value) (g28 : Value) (g29 : Value) (g30 : Value) (g31 : Value) (g32 : Value) (g33 : Value) (g34 : Value) (g35 : Value) (g36 : Value) (g37 : Value) (g38 : Value) (g39 : Value) (g40 : Value) (g41 : Value) (g42 : Value) (g43 : Value) (g44 : Value) (g45 : Value) (g46 : Value) (g47 : Value) (g48 : Value) (g49 : Value) (g50 : Value) (g51 : Value) (g52 : Value) (g53 : Value) (g54 : Value) (g55 : Value) (g56 : Value) (g57 : Value) (g58 : Value) (g59 : Value) (g60 : Value) (g61 : Value) (g62 : Value) (g63 : Value) (g64 : Value) (g65 : Value) (g66 : Value) (g67 : Value) (g68 : Value) (g69 : Value) (g70 : Value) (g71 : Value) (g72 : Value) (g73 : Value) (g74 : Value) (g75 : Value) (g76 : Value) (g77 : Value) (g78 : Value) (list_a : Option Addr) (list_e : Nat) (list_n : Nat) (r6 : Nat) (r7 : Nat) (scales_a : Option Addr) (scales_e : Nat) (scales_n : Nat) (t24 : Int) (t5_a : Option Addr) (t5_e : Nat) (t5_n : Nat) (t6 : Bool) (vsome : Bool) {Q : Post} (Inv : Nat → (Option Addr) → Nat → Nat → Int → AHeap → Prop) (ν : Nat) (left_a : Option Addr) (left_n : Nat) (left_e : Nat) (t84 : Int) (g18 g85 g86 g87 g88 g89 g90 g91 g92 g93 g94 g95 g96 g97 g98 g99 : Value) (H : AHeap) (h0 : Inv ν left_a left_n left_e t84 H)
    (hs : ∀ (μ : Nat) (left_a : Option Addr) (left_n : Nat) (left_e : Nat) (t84 : Int) (g18 g85 g86 g87 g88 g89 g90 g91 g92 g93 g94 g95 g96 g97 g98 g99 : Value) (H : AHeap), Inv μ left_a left_n left_e t84 H → exK Try.prog E_spec_l05Pursue (cl (cl (cr (cl (cr (cr (cr (cr (cr (cr (cr (bodyC Try.f79)))))))))))) (spec_l05Pursue_P4 a2 b1 b2 b9 g10 g11 g12 g13 g14 g15 g25 g26 g27 g28 g29 g30 g31 g32 g33 g34 g35 g36 g37 g38 g39 g40 g41 g42 g43 g44 g45 g46 g47 g48 g49 g50 g51 g52 g53 g54 g55 g56 g57 g58 g59 g60 g61 g62 g63 g64 g65 g66 g67 g68 g69 g70 g71 g72 g73 g74 g75 g76 g77 g78 list_a list_e list_n r6 r7 scales_a scales_e scales_n t24 t5_a t5_e t5_n t6 vsome left_a left_n left_e t84 g18 g85 g86 g87 g88 g89 g90 g91 g92 g93 g94 g95 g96 g97 g98 g99) H (loopQ (spec_l05Pursue_I4 a2 b1 b2 b9 g10 g11 g12 g13 g14 g15 g25 g26 g27 g28 g29 g30 g31 g32 g33 g34 g35 g36 g37 g38 g39 g40 g41 g42 g43 g44 g45 g46 g47 g48 g49 g50 g51 g52 g53 g54 g55 g56 g57 g58 g59 g60 g61 g62 g63 g64 g65 g66 g67 g68 g69 g70 g71 g72 g73 g74 g75 g76 g77 g78 list_a list_e list_n r6 r7 scales_a scales_e scales_n t24 t5_a t5_e t5_n t6 vsome Inv) μ Q)) : loopK (exK Try.prog E_spec_l05Pursue (cl (cl (cr (cl (cr (cr (cr (cr (cr (cr (cr (bodyC Try.f79))))))))))))) (spec_l05Pursue_P4 a2 b1 b2 b9 g10 g11 g12 g13 g14 g15 g25 g26 g27 g28 g29 g30 g31 g32 g33 g34 g35 g36 g37 g38 g39 g40 g41 g42 g43 g44 g45 g46 g47 g48 g49 g50 g51 g52 g53 g54 g55 g56 g57 g58 g59 g60 g61 g62 g63 g64 g65 g66 g67 g68 g69 g70 g71 g72 g73 g74 g75 g76 g77 g78 list_a list_e list_n r6 r7 scales_a scales_e scales_n t24 t5_a t5_e t5_n t6 vsome left_a left_n left_e t84 g18 g85 g86 g87 g88 g89 g90 g91 g92 g93 g94 g95 g96 g97 g98 g99) H Q :=
  ⟨spec_l05Pursue_I4 a2 b1 b2 b9 g10 g11 g12 g13 g14 g15 g25 g26 g27 g28 g29 g30 g31 g32 g33 g34 g35 g36 g37 g38 g39 g40 g41 g42 g43 g44 g45 g46 g47 g48 g49 g50 g51 g52 g53 g54 g55 g56 g57 g58 g59 g60 g61 g62 g63 g64 g65 g66 g67 g68 g69 g70 g71 g72 g73 g74 g75 g76 g77 g78 list_a list_e list_n r6 r7 scales_a scales_e scales_n t24 t5_a t5_e t5_n t6 vsome Inv, ν, ⟨left_a, left_n, left_e, t84, g18, g85, g86, g87, g88, g89, g90, g91, g92, g93, g94, g95, g96, g97, g98, g99, rfl, h0⟩, fun μ tm H h => by obtain ⟨left_a, left_n, left_e, t84, g18, g85, g86, g87, g88, g89, g90, g91, g92, g93, g94, g95, g96, g97, g98, g99, rfl, hI⟩ := h; exact hs μ left_a left_n left_e t84 g18 g85 g86 g87 g88 g89 g90 g91 g92 g93 g94 g95 g96 g97 g98 g99 H hI⟩
theorem spec_l05Pursue_n4 {a2 : Option Addr} {b1 : Nat} {b2 : Nat} {b9 : Nat} {g10 : Value} {g11 : Value} {g12 : Value} {g13 : Value} {g14 : Value} {g15 : Value} {g25 : Value} {g26 : Value} {g27 : Value} {g28 : Value} {g29 : Value} {g30 : Value} {g31 : Value} {g32 : Value} {g33 : Value} {g34 : Value} {g35 : Value} {g36 : Value} {g37 : Value} {g38 : Value} {g39 : Value} {g40 : Value} {g41 : Value} {g42 : Value} {g43 : Value} {g44 : Value} {g45 : Value} {g46 : Value} {g47 : Value} {g48 : Value} {g49 : Value} {g50 : Value} {g51 : Value} {g52 : Value} {g53 : Value} {g54 : Value} {g55 : Value} {g56 : Value} {g57 : Value} {g58 : Value} {g59 : Value} {g60 : Value} {g61 : Value} {g62 : Value} {g63 : Value} {g64 : Value} {g65 : Value} {g66 : Value} {g67 : Value} {g68 : Value} {g69 : Value} {g70 : Value} {g71 : Value} {g72 : Value} {g73 : Value} {g74 : Value} {g75 : Value} {g76 : Value} {g77 : Value} {g78 : Value} {list_a : Option Addr} {list_e : Nat} {list_n : Nat} {r6 : Nat} {r7 : Nat} {scales_a : Option Addr} {scales_e : Nat} {scales_n : Nat} {t24 : Int} {t5_a : Option Addr} {t5_e : Nat} {t5_n : Nat} {t6 : Bool} {vsome : Bool} {Q : Post} {Inv : Nat → (Option Addr) → Nat → Nat → Int → AHeap → Prop} {μ : Nat} (μ' : Nat) {left_a : Option Addr} {left_n : Nat} {left_e : Nat} {t84 : Int} {g18 g85 g86 g87 g88 g89 g90 g91 g92 g93 g94 g95 g96 g97 g98 g99 : Value} {H : AHeap} (hm : μ' < μ) (hI : Inv μ' left_a left_n left_e t84 H) : loopQ (spec_l05Pursue_I4 a2 b1 b2 b9 g10 g11 g12 g13 g14 g15 g25 g26 g27 g28 g29 g30 g31 g32 g33 g34 g35 g36 g37 g38 g39 g40 g41 g42 g43 g44 g45 g46 g47 g48 g49 g50 g51 g52 g53 g54 g55 g56 g57 g58 g59 g60 g61 g62 g63 g64 g65 g66 g67 g68 g69 g70 g71 g72 g73 g74 g75 g76 g77 g78 list_a list_e list_n r6 r7 scales_a scales_e scales_n t24 t5_a t5_e t5_n t6 vsome Inv) μ Q .normal (spec_l05Pursue_P4 a2 b1 b2 b9 g10 g11 g12 g13 g14 g15 g25 g26 g27 g28 g29 g30 g31 g32 g33 g34 g35 g36 g37 g38 g39 g40 g41 g42 g43 g44 g45 g46 g47 g48 g49 g50 g51 g52 g53 g54 g55 g56 g57 g58 g59 g60 g61 g62 g63 g64 g65 g66 g67 g68 g69 g70 g71 g72 g73 g74 g75 g76 g77 g78 list_a list_e list_n r6 r7 scales_a scales_e scales_n t24 t5_a t5_e t5_n t6 vsome left_a left_n left_e t84 g18 g85 g86 g87 g88 g89 g90 g91 g92 g93 g94 g95 g96 g97 g98 g99) H := ⟨μ', hm, left_a, left_n, left_e, t84, g18, g85, g86, g87, g88, g89, g90, g91, g92, g93, g94, g95, g96, g97, g98, g99, rfl, hI⟩
theorem spec_l05Pursue_x4_6 (a2 : Option Addr) (b1 : Nat) (b2 : Nat) (b9 : Nat) (g10 : Value) (g11 : Value) (g12 : Value) (g13 : Value) (g14 : Value) (g15 : Value) (g25 : Value) (g26 : Value) (g27 : Value) (g28 : Value) (g29 : Value) (g30 : Value) (g31 : Value) (g32 : Value) (g33 : Value) (g34 : Value) (g35 : Value) (g36 : Value) (g37 : Value) (g38 : Value) (g39 : Value) (g40 : Value) (g41 : Value) (g42 : Value) (g43 : Value) (g44 : Value) (g45 : Value) (g46 : Value) (g47 : Value) (g48 : Value) (g49 : Value) (g50 : Value) (g51 : Value) (g52 : Value) (g53 : Value) (g54 : Value) (g55 : Value) (g56 : Value) (g57 : Value) (g58 : Value) (g59 : Value) (g60 : Value) (g61 : Value) (g62 : Value) (g63 : Value) (g64 : Value) (g65 : Value) (g66 : Value) (g67 : Value) (g68 : Value) (g69 : Value) (g70 : Value) (g71 : Value) (g72 : Value) (g73 : Value) (g74 : Value) (g75 : Value) (g76 : Value) (g77 : Value) (g78 : Value) (list_a : Option Addr) (list_e : Nat) (list_n : Nat) (r6 : Nat) (r7 : Nat) (scales_a : Option Addr) (scales_e : Nat) (scales_n : Nat) (t24 : Int) (t5_a : Option Addr) (t5_e : Nat) (t5_n : Nat) (t6 : Bool) (vsome : Bool) (left_a : Option Addr) (left_n : Nat) (left_e : Nat) (t84 : Int) (g18 g85 g86 g87 g88 g89 g90 g91 g92 g93 g94 g95 g96 g97 g98 g99 : Value) (H : AHeap) (K : Value → AHeap → Prop)  {I : Nat → List Value → AHeap → Prop} {μ : Nat} : loopQ I μ (blockQ 6 (seqQ (exK Try.prog E_spec_l05Pursue (cr (cr (cr (cr (cr (cr (cr (cr (bodyC Try.f79)))))))))) (retK Try.prog Try.f79 K))) (.exit 6) (spec_l05Pursue_P4 a2 b1 b2 b9 g10 g11 g12 g13 g14 g15 g25 g26 g27 g28 g29 g30 g31 g32 g33 g34 g35 g36 g37 g38 g39 g40 g41 g42 g43 g44 g45 g46 g47 g48 g49 g50 g51 g52 g53 g54 g55 g56 g57 g58 g59 g60 g61 g62 g63 g64 g65 g66 g67 g68 g69 g70 g71 g72 g73 g74 g75 g76 g77 g78 list_a list_e list_n r6 r7 scales_a scales_e scales_n t24 t5_a t5_e t5_n t6 vsome left_a left_n left_e t84 g18 g85 g86 g87 g88 g89 g90 g91 g92 g93 g94 g95 g96 g97 g98 g99) H =
  (T_spec_l02Finite left_a left_n left_e H fun (r8 : Bool) (H17 : AHeap) => Br (!r8) (isOwn H17 b1 ∧ (∃ l, rdN H17 b1 0 3 = some l) ∧ Lt (setN H17 b1 0 [.int .i64 0, .float .f32 0, .float .f32 0]) fun H18 => ∃ c1 : Int, ∃ c2 : Nat, ∃ c3 : Nat,  rdN H18 b1 0 3 = some [.int .i64 c1, .float .f32 c2, .float .f32 c3] ∧ K (.tuple #[.agg #[.int .i64 c1, .float .f32 c2, .float .f32 c3], .slice none 0 0, .bool false]) H18) (∃ c4 : Int, ∃ c5 : Nat, ∃ c6 : Nat,  rdN H17 b2 0 3 = some [.int .i64 c4, .float .f32 c5, .float .f32 c6] ∧ isOwn H17 b1 ∧ (∃ l, rdN H17 b1 0 3 = some l) ∧ Lt (setN H17 b1 0 [.int .i64 c4, .float .f32 c5, .float .f32 c6]) fun H19 => ∃ c7 : Int, ∃ c8 : Nat, ∃ c9 : Nat,  rdN H19 b1 0 3 = some [.int .i64 c7, .float .f32 c8, .float .f32 c9] ∧ K (.tuple #[.agg #[.int .i64 c7, .float .f32 c8, .float .f32 c9], .slice left_a left_n left_e, .bool true]) H19)) := by kernel_rfl
theorem E_spec_l05Pursue_ok : ∀ g, FnOk Try.prog g (E_spec_l05Pursue g) := FnOk.envOf (by
  intro x hx
  simp only [List.mem_cons, List.not_mem_nil, or_false] at hx
  rcases hx with rfl | rfl | rfl | rfl
  · exact spec_l05Of_ok
  · exact spec_l01Finite_ok
  · exact spec_l03Size_ok
  · exact spec_l02Finite_ok)
theorem o24 {P : Prop} (h : P := by first | omega | (simp; done) | (simp; omega) | (first | exact Or.inl ⟨rfl, rfl⟩ | exact PI.into (by assumption) (fun h => by omega))) : P := h
theorem o18 {P : Prop} (h : P := by first | omega | (simp; done) | (simp; omega) | (first | exact PI.into (by assumption) (fun h => ⟨h, rfl⟩) | exact Or.inr ⟨rfl, by omega, by omega, scale_at (by assumption) (by omega) (by omega)⟩ | exact PI.keep (by assumption) (by assumption))) : P := h
theorem o33 {P : Prop} (h : P := by first | omega | (simp; done) | (simp; omega) | (assumption)) : P := h
theorem o21 {P : Prop} (h : P := by first | omega | (assumption) | (simp only [List.length_append, List.length_cons, List.length_nil, List.length_set]; done) | (simp only [List.length_append, List.length_cons, List.length_nil, List.length_set]; omega)) : P := h
theorem o15 {P : Prop} (h : P := by first | exact OwnS.nil _ _ _ _ | exact OwnT.nil _ _ _) : P := h
theorem o5 {P : Prop} (h : P := by first | omega | (first | exact PI.into (by assumption) (fun h => ⟨h, rfl⟩) | exact Or.inr ⟨rfl, by omega, by omega, scale_at (by assumption) (by omega) (by omega)⟩ | exact PI.keep (by assumption) (by assumption)) | (simp only [List.length_append, List.length_cons, List.length_nil, List.length_set]; done) | (simp only [List.length_append, List.length_cons, List.length_nil, List.length_set]; omega)) : P := h
theorem o13 {P : Prop} (h : P := by first | omega | (first | exact Or.inl ⟨rfl, rfl⟩ | exact PI.into (by assumption) (fun h => by omega)) | (simp only [List.length_append, List.length_cons, List.length_nil, List.length_set]; done) | (simp only [List.length_append, List.length_cons, List.length_nil, List.length_set]; omega)) : P := h
set_option maxHeartbeats 1000000 in
theorem spec_l05Pursue_main (list_a : Option Addr) (list_n : Nat) (list_e : Nat) (scales_a : Option Addr) (scales_n : Nat) (scales_e : Nat) (H : AHeap) (K : Value → AHeap → Prop) (h : T_spec_l05Pursue list_a list_n list_e scales_a scales_n scales_e H fun (r1_Place : Int) (r1_Scale : Nat) (r1_Size : Nat) (r2_a : Option Addr) (r2_n : Nat) (r2_e : Nat) (r3 : Bool) (H' : AHeap) => K (.tuple #[.agg #[.int .i64 r1_Place, .float .f32 r1_Scale, .float .f32 r1_Size], .slice r2_a r2_n r2_e, .bool r3]) H') : bodyK Try.prog E_spec_l05Pursue Try.f79 [.slice list_a list_n list_e, .slice scales_a scales_n scales_e] H K := by
  rw [spec_l05Pursue_vc]
  obtain ⟨l_list, l_scales, i_list, i_scales, bd_284, bd_285, pr0, pr1, pr2, pr3, hk⟩ := h
  obtain rfl := i_list.eqn
  obtain rfl := i_scales.eqn
  have e : (p_spec_l05Pursue l_list l_scales) = _ := rfl
  have e := e.trans (p_spec_l05Pursue_eq l_list l_scales)
  have g0 := Grow.refl H
  refine Al.intro (fun b_1 H_1 hb_2 hl_3 g_4 o_5 => ?_)
  have l_7 := g_4.1
  have g_8 := g0.trans g_4
  have l_9 := g_8.1
  have w_283 := o_5.lt
  refine Al.intro (fun b_10 H_2 hb_11 hl_12 g_13 o_14 => ?_)
  have l_16 := g_13.1
  have g_17 := g_8.trans g_13
  have l_18 := g_17.1
  have o_19 := o_5.grow g_13
  have w_20 := o_19.lt
  have w_282 := o_14.lt
  refine Lt.setN (n := 3) o_14 (Nat.le_of_ble_eq_true rfl) rfl (fun H_3 hl_21 o_23 k_22 => ?_)
  have o_23 : Own H_3 b_10 [.int .i64 0, .float .f32 0, .float .f32 0] := o_23
  have l_24 := k_22.1
  have g_25 := g_17.keep (b := b_10) o3 k_22
  have l_26 := g_25.1
  have o_27 := o_19.keep o3 k_22
  have w_28 := o_27.lt
  have w_281 := o_23.lt
  refine spec_l05Pursue_L1 _ _ _ _ _ _ _ _ (fun (μ : Nat) (t5_a : Option Addr) (t5_n : Nat) (t5_e : Nat) (t6 : Bool) (vsome : Bool) (t24 : Int) (H_4 : AHeap) => ∃ (q1_1 : Int), ∃ (q1_2 : Nat), ∃ (q1_3 : Nat), ∃ (q1_4 : Int), ∃ (q1_5 : Nat), ∃ (q1_6 : Nat), t5_a = none ∧ t5_n = 0 ∧ t5_e = 0 ∧ Own H_4 b_1 [.int .i64 q1_1, .float .f32 q1_2, .float .f32 q1_3] ∧ Own H_4 b_10 [.int .i64 q1_4, .float .f32 q1_5, .float .f32 q1_6] ∧ (b_10 ≠ b_1) ∧ Grow H H_4 ∧ (0 : Int) ≤ t24 ∧ t24 ≤ (l_scales.length : Int) ∧ PI (t24 = 0) vsome q1_4 l_list.length q1_5 ∧ (l_scales.length : Int) - t24 ≤ (μ : Int) ∧ p_spec_l05Pursue l_list l_scales = p_spec_l05Pursue_l1 l_list l_scales (μ + 1) t6 vsome t24 q1_1 q1_2 q1_3 q1_4 q1_5 q1_6) (Int.toNat ((l_scales.length : Int) - (0 : Int))) _ _ _ _ _ _ _ _ _ _ _ _ _ _ _ _ _ _ _ _ _ _ _ _ _ _ _ _ _ _ _ _ _ _ _ _ _ _ _ _ _ _ _ _ _ _ _ _ _ _ _ _ _ _ _ _ _ _ _ _ _ _ _ _ _ _ H_3 ?_ ?_
  · exact ⟨_, _, _, _, _, _, rfl, rfl, rfl, o_27, o_23, o3, g_25, o24, o24, o24, o3, e⟩
  · intro μ t5_a t5_n t5_e t6 vsome t24 g10 g11 g12 g13 g14 g15 g25 g26 g27 g28 g29 g30 g31 g32 g33 g34 g35 g36 g37 g38 g39 g40 g41 g42 g43 g44 g45 g46 g47 g48 g49 g50 g51 g52 g53 g54 g55 g56 g57 g58 g59 g60 g61 g62 g63 g64 g65 g66 g67 g68 g69 g70 g71 g72 g73 g74 g75 g76 g77 g78 H_4 hI
    obtain ⟨q1_1, q1_2, q1_3, q1_4, q1_5, q1_6, rfl, rfl, rfl, o_29, o_30, n_31, g_32, v_33, v_34, v_35, hμ, e⟩ := hI
    rw [spec_l05Pursue_r1]
    have e := e.trans (p_spec_l05Pursue_l1_s l_list l_scales μ t6 vsome t24 q1_1 q1_2 q1_3 q1_4 q1_5 q1_6)
    have w_36 := o_29.lt
    have w_37 := o_30.lt
    have l_38 := g_32.1
    refine Br.intro (fun c_39 => ?_) (fun c_39 => ?_)
    · have e := e.trans (cond_t c_39)
      have c_39' := of_decide_eq_true c_39
      refine spec_l05Pursue_L2 _ _ _ _ _ _ _ _ _ _ (fun (μ2 : Nat) (t5_a : Option Addr) (t5_n : Nat) (t5_e : Nat) (t6_6 : Bool) (vsome_8 : Bool) (i : Int) (H_5 : AHeap) => ∃ (q2_1 : Int), ∃ (q2_2 : Nat), ∃ (q2_3 : Nat), ∃ (q2_4 : Int), ∃ (q2_5 : Nat), ∃ (q2_6 : Nat), t5_a = none ∧ t5_n = 0 ∧ t5_e = 0 ∧ Own H_5 b_1 [.int .i64 q2_1, .float .f32 q2_2, .float .f32 q2_3] ∧ Own H_5 b_10 [.int .i64 q2_4, .float .f32 q2_5, .float .f32 q2_6] ∧ (b_10 ≠ b_1) ∧ Grow H H_5 ∧ (0 : Int) ≤ i ∧ i ≤ (l_list.length : Int) ∧ PI (t24 = 0 ∧ i = 0) vsome_8 q2_4 l_list.length q2_5 ∧ (l_list.length : Int) - i ≤ (μ2 : Int) ∧ p_spec_l05Pursue l_list l_scales = p_spec_l05Pursue_l2 l_list l_scales t6 vsome t24 q1_1 q1_2 q1_3 q1_4 q1_5 q1_6 (fun (t6_6 : Bool) (vsome_8 : Bool) (i : Int) (q2_1 : Int) (q2_2 : Nat) (q2_3 : Nat) (q2_4 : Int) (q2_5 : Nat) (q2_6 : Nat) => (p_spec_l05Pursue_l1 l_list l_scales μ t6_6 vsome_8 (t24 + 1) q2_1 q2_2 q2_3 q2_4 q2_5 q2_6)) (μ2 + 1) t6_6 vsome_8 i q2_1 q2_2 q2_3 q2_4 q2_5 q2_6) (Int.toNat ((l_list.length : Int) - (0 : Int))) _ _ _ _ _ _ _ _ _ _ _ _ _ _ _ _ _ _ _ _ _ _ _ _ _ _ _ _ _ _ _ _ _ _ _ _ _ _ _ _ _ _ _ _ _ _ _ _ _ _ _ _ _ _ _ _ _ _ _ _ _ H_4 ?_ ?_
      · exact ⟨_, _, _, _, _, _, rfl, rfl, rfl, o_29, o_30, o3, g_32, o18, o18, o18, o3, e⟩
      · intro μ2 t5_a t5_n t5_e t6_6 vsome_8 i g12 g13 g14 g15 g27 g28 g29 g30 g31 g32 g33 g34 g35 g36 g37 g38 g39 g40 g41 g42 g43 g44 g45 g46 g47 g48 g49 g50 g51 g52 g53 g54 g55 g56 g57 g58 g59 g60 g61 g62 g63 g64 g65 g66 g67 g68 g69 g70 g71 g72 g73 g74 g75 g76 g77 H_5 hI
        obtain ⟨q2_1, q2_2, q2_3, q2_4, q2_5, q2_6, rfl, rfl, rfl, o_40, o_41, n_42, g_43, v_44, v_45, v_46, hμ, e⟩ := hI
        rw [spec_l05Pursue_r2]
        have e := e.trans (p_spec_l05Pursue_l2_s l_list l_scales t6 vsome t24 q1_1 q1_2 q1_3 q1_4 q1_5 q1_6 (fun (t6_6 : Bool) (vsome_8 : Bool) (i : Int) (q2_1 : Int) (q2_2 : Nat) (q2_3 : Nat) (q2_4 : Int) (q2_5 : Nat) (q2_6 : Nat) => (p_spec_l05Pursue_l1 l_list l_scales μ t6_6 vsome_8 (t24 + 1) q2_1 q2_2 q2_3 q2_4 q2_5 q2_6)) μ2 t6_6 vsome_8 i q2_1 q2_2 q2_3 q2_4 q2_5 q2_6)
        have w_47 := o_40.lt
        have w_48 := o_41.lt
        have l_49 := g_43.1
        refine Br.intro (fun c_50 => ?_) (fun c_50 => ?_)
        · have e := e.trans (cond_t c_50)
          have c_50' := of_decide_eq_true c_50
          obtain ⟨b_51, f_52, q_53⟩ := ((i_scales.grow g_43)).pos o0
          refine ⟨by omega, by omega, b_51, f_52, q_53, ?_⟩
          refine ⟨((l_scales).getD (t24 : Int).toNat 0), (i_scales).rd g_43 q_53 o3 _, ?_⟩
          refine Al.intro (fun b_54 H_6 hb_55 hl_56 g_57 o_58 => ?_)
          have l_60 := g_57.1
          have g_61 := g_43.trans g_57
          have l_62 := g_61.1
          have o_63 := o_40.grow g_57
          have w_64 := o_63.lt
          have o_65 := o_41.grow g_57
          have w_66 := o_65.lt
          have w_164 := o_58.lt
          refine Lt.setN (n := 3) o_58 (Nat.le_of_ble_eq_true rfl) rfl (fun H_7 hl_67 o_69 k_68 => ?_)
          have o_69 : Own H_7 b_54 [.int .i64 i, .float .f32 (((l_scales).getD (t24 : Int).toNat 0)), .float .f32 1065353216] := o_69
          have l_70 := k_68.1
          have g_71 := g_61.keep (b := b_54) o3 k_68
          have l_72 := g_71.1
          have o_73 := o_63.keep o3 k_68
          have w_74 := o_73.lt
          have o_75 := o_65.keep o3 k_68
          have w_76 := o_75.lt
          have w_163 := o_69.lt
          refine T_spec_l05Of_i ⟨i, ((l_scales).getD (t24 : Int).toNat 0), 1065353216, ((o_69.rdN (Nat.le_of_ble_eq_true rfl)).trans rfl), (by first | assumption | omega | (simp; omega) | (first | exact (atom_in (by assumption)).2.1 | (have := atom_in (by assumption); omega)) | (first | exact scale_at (by assumption) (by omega) (by omega) | (have := PI.fin (by assumption) (by omega); omega) | exact (PI.fin (by assumption) (by omega)).2.2)), (by first | assumption | omega | (simp; omega) | (first | exact (atom_in (by assumption)).2.1 | (have := atom_in (by assumption); omega)) | (first | exact scale_at (by assumption) (by omega) (by omega) | (have := PI.fin (by assumption) (by omega); omega) | exact (PI.fin (by assumption) (by omega)).2.2)), (by first | assumption | omega | (simp; omega) | (first | exact (atom_in (by assumption)).2.1 | (have := atom_in (by assumption); omega)) | (first | exact scale_at (by assumption) (by omega) (by omega) | (have := PI.fin (by assumption) (by omega); omega) | exact (PI.fin (by assumption) (by omega)).2.2)), (by first | assumption | omega | (simp; omega) | (first | exact (atom_in (by assumption)).2.1 | (have := atom_in (by assumption); omega)) | (first | exact scale_at (by assumption) (by omega) (by omega) | (have := PI.fin (by assumption) (by omega); omega) | exact (PI.fin (by assumption) (by omega)).2.2)), (by first | assumption | omega | (simp; omega) | (first | exact (atom_in (by assumption)).2.1 | (have := atom_in (by assumption); omega)) | (first | exact scale_at (by assumption) (by omega) (by omega) | (have := PI.fin (by assumption) (by omega); omega) | exact (PI.fin (by assumption) (by omega)).2.2)), fun a_77 n_78 e_79 H_8 g_82 r_80 => ?_⟩
          have z_81 := spec_l05Of_full (l_list.length : Int) i (((l_scales).getD (t24 : Int).toNat 0)) 1065353216 o34
          have l_83 := g_82.1
          have g_84 := g_71.trans g_82
          have l_85 := g_84.1
          have o_86 := o_73.grow g_82
          have w_87 := o_86.lt
          have o_88 := o_75.grow g_82
          have w_89 := o_88.lt
          have o_90 := o_69.grow g_82
          have w_91 := o_90.lt
          obtain rfl := r_80.isL.eqn
          have u_92 := r_80.up
          have u_93 := r_80.lo
          refine spec_l05Pursue_L3 _ _ _ _ _ _ _ _ _ _ _ _ _ _ _ _ _ _ _ _ _ _ _ _ _ _ _ _ _ _ _ _ _ _ _ _ _ _ _ _ _ _ _ _ _ _ (fun (μ3 : Nat) (q : Nat) (t42 : Int) (H_9 : AHeap) => ∃ (q3_1 : Int), ∃ (q3_2 : Nat), ∃ (q3_3 : Nat), ∃ (q3_4 : Int), ∃ (q3_5 : Nat), ∃ (q3_6 : Nat), Own H_9 b_1 [.int .i64 q3_1, .float .f32 q3_2, .float .f32 q3_3] ∧ Own H_9 b_10 [.int .i64 q3_4, .float .f32 q3_5, .float .f32 q3_6] ∧ Own H_9 b_54 ([.int .i64 i, .float .f32 (((l_scales).getD (t24 : Int).toNat 0)), .float .f32 1065353216]) ∧ OwnS fF H_9 H_7.length a_77 (((p_spec_l05Of (l_list.length : Int) i (((l_scales).getD (t24 : Int).toNat 0)) 1065353216)).length) e_79 ((p_spec_l05Of (l_list.length : Int) i (((l_scales).getD (t24 : Int).toNat 0)) 1065353216)) ∧ (b_10 ≠ b_1) ∧ (b_54 ≠ b_1) ∧ (b_54 ≠ b_10) ∧ H_8.length ≤ H_9.length ∧ Grow H H_9 ∧ (0 : Int) ≤ t42 ∧ t42 ≤ (((p_spec_l05Of (l_list.length : Int) i (((l_scales).getD (t24 : Int).toNat 0)) 1065353216)).length : Int) ∧ PI (t24 = 0 ∧ i = 0) vsome_8 q3_4 l_list.length q3_5 ∧ (((p_spec_l05Of (l_list.length : Int) i (((l_scales).getD (t24 : Int).toNat 0)) 1065353216)).length : Int) - t42 ≤ (μ3 : Int) ∧ p_spec_l05Pursue l_list l_scales = p_spec_l05Pursue_l3 l_list l_scales t6 vsome t24 q1_1 q1_2 q1_3 q1_4 q1_5 q1_6 t6_6 vsome_8 i q2_1 q2_2 q2_3 q2_4 q2_5 q2_6 (fun (q : Nat) (t42 : Int) (q3_1 : Int) (q3_2 : Nat) (q3_3 : Nat) (q3_4 : Int) (q3_5 : Nat) (q3_6 : Nat) => (bif !(p_spec_l01Finite q) then ((0 : Int), 0, 0, [], false) else (bif !vsome_8 then (p_spec_l05Pursue_l2 l_list l_scales t6 vsome t24 q1_1 q1_2 q1_3 q1_4 q1_5 q1_6 (fun (t6_6 : Bool) (vsome_8 : Bool) (i : Int) (q2_1 : Int) (q2_2 : Nat) (q2_3 : Nat) (q2_4 : Int) (q2_5 : Nat) (q2_6 : Nat) => (p_spec_l05Pursue_l1 l_list l_scales μ t6_6 vsome_8 (t24 + 1) q2_1 q2_2 q2_3 q2_4 q2_5 q2_6)) μ2 t6_6 true (i + 1) q3_1 q3_2 q3_3 i (((l_scales).getD (t24 : Int).toNat 0)) q) else (bif flt .f32 (p_spec_l03Size q3_6) (p_spec_l03Size q) then (p_spec_l05Pursue_l2 l_list l_scales t6 vsome t24 q1_1 q1_2 q1_3 q1_4 q1_5 q1_6 (fun (t6_6 : Bool) (vsome_8 : Bool) (i : Int) (q2_1 : Int) (q2_2 : Nat) (q2_3 : Nat) (q2_4 : Int) (q2_5 : Nat) (q2_6 : Nat) => (p_spec_l05Pursue_l1 l_list l_scales μ t6_6 vsome_8 (t24 + 1) q2_1 q2_2 q2_3 q2_4 q2_5 q2_6)) μ2 t6_6 true (i + 1) q3_1 q3_2 q3_3 i (((l_scales).getD (t24 : Int).toNat 0)) q) else (p_spec_l05Pursue_l2 l_list l_scales t6 vsome t24 q1_1 q1_2 q1_3 q1_4 q1_5 q1_6 (fun (t6_6 : Bool) (vsome_8 : Bool) (i : Int) (q2_1 : Int) (q2_2 : Nat) (q2_3 : Nat) (q2_4 : Int) (q2_5 : Nat) (q2_6 : Nat) => (p_spec_l05Pursue_l1 l_list l_scales μ t6_6 vsome_8 (t24 + 1) q2_1 q2_2 q2_3 q2_4 q2_5 q2_6)) μ2 t6_6 vsome_8 (i + 1) q3_1 q3_2 q3_3 q3_4 q3_5 q3_6))))) (μ3 + 1) q t42 q3_1 q3_2 q3_3 q3_4 q3_5 q3_6) (Int.toNat ((((p_spec_l05Of (l_list.length : Int) i (((l_scales).getD (t24 : Int).toNat 0)) 1065353216)).length : Int) - (0 : Int))) _ _ _ _ _ _ _ _ _ _ _ _ _ _ _ _ _ H_8 ?_ ?_
          · exact ⟨_, _, _, _, _, _, o_86, o_88, o_90, r_80, o3, o3, o3, o3, g_84, o33, o33, o33, o3, e⟩
          · intro μ3 q t42 g15 g43 g44 g45 g46 g47 g48 g49 g50 g51 g52 g53 g54 g55 g56 H_9 hI
            obtain ⟨q3_1, q3_2, q3_3, q3_4, q3_5, q3_6, o_95, o_96, o_97, r_98, n_99, n_100, n_101, n_102, g_103, v_104, v_105, v_106, hμ, e⟩ := hI
            rw [spec_l05Pursue_r3]
            have e := e.trans (p_spec_l05Pursue_l3_s l_list l_scales t6 vsome t24 q1_1 q1_2 q1_3 q1_4 q1_5 q1_6 t6_6 vsome_8 i q2_1 q2_2 q2_3 q2_4 q2_5 q2_6 (fun (q : Nat) (t42 : Int) (q3_1 : Int) (q3_2 : Nat) (q3_3 : Nat) (q3_4 : Int) (q3_5 : Nat) (q3_6 : Nat) => (bif !(p_spec_l01Finite q) then ((0 : Int), 0, 0, [], false) else (bif !vsome_8 then (p_spec_l05Pursue_l2 l_list l_scales t6 vsome t24 q1_1 q1_2 q1_3 q1_4 q1_5 q1_6 (fun (t6_6 : Bool) (vsome_8 : Bool) (i : Int) (q2_1 : Int) (q2_2 : Nat) (q2_3 : Nat) (q2_4 : Int) (q2_5 : Nat) (q2_6 : Nat) => (p_spec_l05Pursue_l1 l_list l_scales μ t6_6 vsome_8 (t24 + 1) q2_1 q2_2 q2_3 q2_4 q2_5 q2_6)) μ2 t6_6 true (i + 1) q3_1 q3_2 q3_3 i (((l_scales).getD (t24 : Int).toNat 0)) q) else (bif flt .f32 (p_spec_l03Size q3_6) (p_spec_l03Size q) then (p_spec_l05Pursue_l2 l_list l_scales t6 vsome t24 q1_1 q1_2 q1_3 q1_4 q1_5 q1_6 (fun (t6_6 : Bool) (vsome_8 : Bool) (i : Int) (q2_1 : Int) (q2_2 : Nat) (q2_3 : Nat) (q2_4 : Int) (q2_5 : Nat) (q2_6 : Nat) => (p_spec_l05Pursue_l1 l_list l_scales μ t6_6 vsome_8 (t24 + 1) q2_1 q2_2 q2_3 q2_4 q2_5 q2_6)) μ2 t6_6 true (i + 1) q3_1 q3_2 q3_3 i (((l_scales).getD (t24 : Int).toNat 0)) q) else (p_spec_l05Pursue_l2 l_list l_scales t6 vsome t24 q1_1 q1_2 q1_3 q1_4 q1_5 q1_6 (fun (t6_6 : Bool) (vsome_8 : Bool) (i : Int) (q2_1 : Int) (q2_2 : Nat) (q2_3 : Nat) (q2_4 : Int) (q2_5 : Nat) (q2_6 : Nat) => (p_spec_l05Pursue_l1 l_list l_scales μ t6_6 vsome_8 (t24 + 1) q2_1 q2_2 q2_3 q2_4 q2_5 q2_6)) μ2 t6_6 vsome_8 (i + 1) q3_1 q3_2 q3_3 q3_4 q3_5 q3_6))))) μ3 q t42 q3_1 q3_2 q3_3 q3_4 q3_5 q3_6)
            have w_107 := o_95.lt
            have w_108 := o_96.lt
            have w_109 := o_97.lt
            have l_110 := g_103.1
            refine Br.intro (fun c_111 => ?_) (fun c_111 => ?_)
            · have e := e.trans (cond_t c_111)
              have c_111' := of_decide_eq_true c_111
              obtain ⟨b_112, f_113, q_114⟩ := (r_98.isL).pos o0
              refine ⟨by omega, by omega, b_112, f_113, q_114, ?_⟩
              refine ⟨(((p_spec_l05Of (l_list.length : Int) i (((l_scales).getD (t24 : Int).toNat 0)) 1065353216)).getD (t42 : Int).toNat 0), (r_98.isL).rd (Grow.refl _) q_114 o3 _, ?_⟩
              obtain ⟨b_115, f_116, q_117⟩ := ((i_list.grow g_103)).pos o0
              refine ⟨by omega, by omega, b_115, f_116, q_117, ?_⟩
              refine ⟨((l_list).getD (t42 : Int).toNat 0), (i_list).rd g_103 q_117 o3 _, ?_⟩
              rw [show IntKind.wrap .i64 (t42 + 1) = (t42 + 1) from wrap64 o3 o3]
              refine spec_l05Pursue_n3 (μ3 - 1) o11 ⟨_, _, _, _, _, _, o_95, o_96, o_97, r_98, o3, o3, o3, o3, g_103, o21, o21, o21, o11, (by rw [show μ3 - 1 + 1 = μ3 from by first | omega]; exact e)⟩
            · have e := e.trans (cond_f c_111)
              have c_111' := of_decide_eq_false c_111
              rw [spec_l05Pursue_x3_4]
              refine T_spec_l01Finite_i ?_
              refine Br.intro (fun c_118 => ?_) (fun c_118 => ?_)
              · have e := e.trans (cond_t c_118)
                have c_118n := nf_of_t c_118
                refine Lt.setN (n := 3) o_95 (Nat.le_of_ble_eq_true rfl) rfl (fun H_10 hl_119 o_121 k_120 => ?_)
                have o_121 : Own H_10 b_1 [.int .i64 0, .float .f32 0, .float .f32 0] := o_121
                have l_122 := k_120.1
                have g_123 := g_103.keep (b := b_1) o3 k_120
                have l_124 := g_123.1
                have o_125 := o_96.keep o3 k_120
                have w_126 := o_125.lt
                have o_127 := o_97.keep o3 k_120
                have w_128 := o_127.lt
                have r_129 := r_98.keep u_92 o3 k_120
                have w_130 := o_121.lt
                rw [spec_l05Pursue_x2_ret]
                rw [spec_l05Pursue_x1_ret]
                refine ⟨0, 0, 0, (o_121.rdN (Nat.le_of_ble_eq_true rfl)).trans rfl, ?_⟩
                rw [e] at hk
                exact hk _ _ _ H_10 g_123 o15
              · have e := e.trans (cond_f c_118)
                have c_118n := nt_of_f c_118
                refine Br.intro (fun c_131 => ?_) (fun c_131 => ?_)
                · have e := e.trans (cond_t c_131)
                  have c_131n := nf_of_t c_131
                  obtain ⟨b_132, f_133, q_134⟩ := ((i_scales.grow g_103)).pos o0
                  refine ⟨by omega, by omega, b_132, f_133, q_134, ?_⟩
                  refine ⟨((l_scales).getD (t24 : Int).toNat 0), (i_scales).rd g_103 q_134 o3 _, ?_⟩
                  refine Lt.setN (n := 3) o_96 (Nat.le_of_ble_eq_true rfl) rfl (fun H_11 hl_135 o_137 k_136 => ?_)
                  have o_137 : Own H_11 b_10 [.int .i64 i, .float .f32 (((l_scales).getD (t24 : Int).toNat 0)), .float .f32 q] := o_137
                  have l_138 := k_136.1
                  have g_139 := g_103.keep (b := b_10) o3 k_136
                  have l_140 := g_139.1
                  have o_141 := o_95.keep o3 k_136
                  have w_142 := o_141.lt
                  have o_143 := o_97.keep o3 k_136
                  have w_144 := o_143.lt
                  have r_145 := r_98.keep u_92 o3 k_136
                  have w_146 := o_137.lt
                  rw [show IntKind.wrap .i64 (i + 1) = (i + 1) from wrap64 o3 o3]
                  refine spec_l05Pursue_n2 (μ2 - 1) o11 ⟨_, _, _, _, _, _, rfl, rfl, rfl, o_141, o_137, o3, g_139, o5, o5, o5, o11, (by rw [show μ2 - 1 + 1 = μ2 from by first | omega]; exact e)⟩
                · have e := e.trans (cond_f c_131)
                  have c_131n := nt_of_f c_131
                  refine T_spec_l03Size_i ?_
                  refine ⟨q3_6, (o_96.rdC _).trans rfl, ?_⟩
                  refine T_spec_l03Size_i ?_
                  refine Br.intro (fun c_147 => ?_) (fun c_147 => ?_)
                  · have e := e.trans (cond_t c_147)
                    obtain ⟨b_148, f_149, q_150⟩ := ((i_scales.grow g_103)).pos o0
                    refine ⟨by omega, by omega, b_148, f_149, q_150, ?_⟩
                    refine ⟨((l_scales).getD (t24 : Int).toNat 0), (i_scales).rd g_103 q_150 o3 _, ?_⟩
                    refine Lt.setN (n := 3) o_96 (Nat.le_of_ble_eq_true rfl) rfl (fun H_12 hl_151 o_153 k_152 => ?_)
                    have o_153 : Own H_12 b_10 [.int .i64 i, .float .f32 (((l_scales).getD (t24 : Int).toNat 0)), .float .f32 q] := o_153
                    have l_154 := k_152.1
                    have g_155 := g_103.keep (b := b_10) o3 k_152
                    have l_156 := g_155.1
                    have o_157 := o_95.keep o3 k_152
                    have w_158 := o_157.lt
                    have o_159 := o_97.keep o3 k_152
                    have w_160 := o_159.lt
                    have r_161 := r_98.keep u_92 o3 k_152
                    have w_162 := o_153.lt
                    rw [show IntKind.wrap .i64 (i + 1) = (i + 1) from wrap64 o3 o3]
                    refine spec_l05Pursue_n2 (μ2 - 1) o11 ⟨_, _, _, _, _, _, rfl, rfl, rfl, o_157, o_153, o3, g_155, o5, o5, o5, o11, (by rw [show μ2 - 1 + 1 = μ2 from by first | omega]; exact e)⟩
                  · have e := e.trans (cond_f c_147)
                    rw [show IntKind.wrap .i64 (i + 1) = (i + 1) from wrap64 o3 o3]
                    refine spec_l05Pursue_n2 (μ2 - 1) o11 ⟨_, _, _, _, _, _, rfl, rfl, rfl, o_95, o_96, o3, g_103, o5, o5, o5, o11, (by rw [show μ2 - 1 + 1 = μ2 from by first | omega]; exact e)⟩
        · have e := e.trans (cond_f c_50)
          have c_50' := of_decide_eq_false c_50
          rw [spec_l05Pursue_x2_2]
          rw [show IntKind.wrap .i64 (t24 + 1) = (t24 + 1) from wrap64 o3 o3]
          refine spec_l05Pursue_n1 (μ - 1) o11 ⟨_, _, _, _, _, _, rfl, rfl, rfl, o_40, o_41, o3, g_43, o13, o13, o13, o11, (by rw [show μ - 1 + 1 = μ from by first | omega]; exact e)⟩
    · have e := e.trans (cond_f c_39)
      have c_39' := of_decide_eq_false c_39
      rw [spec_l05Pursue_x1_0]
      refine T_spec_l05Of_i ⟨q1_4, q1_5, q1_6, ((o_30.rdN (Nat.le_of_ble_eq_true rfl)).trans rfl), (by first | assumption | omega | (simp; omega) | (first | exact (atom_in (by assumption)).2.1 | (have := atom_in (by assumption); omega)) | (first | exact scale_at (by assumption) (by omega) (by omega) | (have := PI.fin (by assumption) (by omega); omega) | exact (PI.fin (by assumption) (by omega)).2.2)), (by first | assumption | omega | (simp; omega) | (first | exact (atom_in (by assumption)).2.1 | (have := atom_in (by assumption); omega)) | (first | exact scale_at (by assumption) (by omega) (by omega) | (have := PI.fin (by assumption) (by omega); omega) | exact (PI.fin (by assumption) (by omega)).2.2)), (by first | assumption | omega | (simp; omega) | (first | exact (atom_in (by assumption)).2.1 | (have := atom_in (by assumption); omega)) | (first | exact scale_at (by assumption) (by omega) (by omega) | (have := PI.fin (by assumption) (by omega); omega) | exact (PI.fin (by assumption) (by omega)).2.2)), (by first | assumption | omega | (simp; omega) | (first | exact (atom_in (by assumption)).2.1 | (have := atom_in (by assumption); omega)) | (first | exact scale_at (by assumption) (by omega) (by omega) | (have := PI.fin (by assumption) (by omega); omega) | exact (PI.fin (by assumption) (by omega)).2.2)), (by first | assumption | omega | (simp; omega) | (first | exact (atom_in (by assumption)).2.1 | (have := atom_in (by assumption); omega)) | (first | exact scale_at (by assumption) (by omega) (by omega) | (have := PI.fin (by assumption) (by omega); omega) | exact (PI.fin (by assumption) (by omega)).2.2)), fun a_165 n_166 e_167 H_13 g_170 r_168 => ?_⟩
      have z_169 := spec_l05Of_full (l_list.length : Int) q1_4 q1_5 q1_6 o34
      have l_171 := g_170.1
      have g_172 := g_32.trans g_170
      have l_173 := g_172.1
      have o_174 := o_29.grow g_170
      have w_175 := o_174.lt
      have o_176 := o_30.grow g_170
      have w_177 := o_176.lt
      obtain rfl := r_168.isL.eqn
      have u_178 := r_168.up
      have u_179 := r_168.lo
      refine Al.intro (fun b_181 H_14 hb_182 hl_183 g_184 o_185 => ?_)
      have o_185 : Own H_14 b_181 ((([] : List Nat)).map fF) := o_185
      have l_187 := g_184.1
      have g_188 := g_172.trans g_184
      have l_189 := g_188.1
      have o_190 := o_174.grow g_184
      have w_191 := o_190.lt
      have o_192 := o_176.grow g_184
      have w_193 := o_192.lt
      have r_194 := r_168.grow g_184
      have w_280 := o_185.lt
      refine spec_l05Pursue_L4 _ _ _ _ _ _ _ _ _ _ _ _ _ _ _ _ _ _ _ _ _ _ _ _ _ _ _ _ _ _ _ _ _ _ _ _ _ _ _ _ _ _ _ _ _ _ _ _ _ _ _ _ _ _ _ _ _ _ _ _ _ _ _ _ _ _ _ _ _ _ _ _ _ _ _ _ _ _ (fun (μ4 : Nat) (left_a : Option Addr) (left_n : Nat) (left_e : Nat) (t84 : Int) (H_15 : AHeap) => ∃ (l_left : List Nat), ∃ (b_195 : Nat), ∃ (q4_1 : Int), ∃ (q4_2 : Nat), ∃ (q4_3 : Nat), left_a = some ⟨b_195, 0, none⟩ ∧ left_n = l_left.length ∧ left_e = 1 ∧ Own H_15 b_195 (l_left.map fF) ∧ Own H_15 b_1 [.int .i64 q4_1, .float .f32 q4_2, .float .f32 q4_3] ∧ Own H_15 b_10 ([.int .i64 q1_4, .float .f32 q1_5, .float .f32 q1_6]) ∧ OwnS fF H_15 H_4.length a_165 (((p_spec_l05Of (l_list.length : Int) q1_4 q1_5 q1_6)).length) e_167 ((p_spec_l05Of (l_list.length : Int) q1_4 q1_5 q1_6)) ∧ (b_10 ≠ b_1) ∧ (b_195 ≠ b_1) ∧ (b_195 ≠ b_10) ∧ H_13.length ≤ H_15.length ∧ (b_195 < H_4.length ∨ H_13.length ≤ b_195) ∧ Grow H H_15 ∧ H.length ≤ b_195 ∧ (0 : Int) ≤ t84 ∧ t84 ≤ (l_list.length : Int) ∧ (l_left.length : Int) ≤ t84 - (0 : Int) + 0 ∧ (l_list.length : Int) - t84 ≤ (μ4 : Int) ∧ p_spec_l05Pursue l_list l_scales = p_spec_l05Pursue_l4 l_list l_scales t6 vsome t24 q1_1 q1_2 q1_3 q1_4 q1_5 q1_6 (fun (l_left : List Nat) (t84 : Int) (q4_1 : Int) (q4_2 : Nat) (q4_3 : Nat) => (bif !(p_spec_l02Finite l_left) then ((0 : Int), 0, 0, [], false) else (q1_4, q1_5, q1_6, l_left, true))) (μ4 + 1) l_left t84 q4_1 q4_2 q4_3) (Int.toNat ((l_list.length : Int) - (0 : Int))) _ _ _ _ _ _ _ _ _ _ _ _ _ _ _ _ _ _ _ _ H_14 ?_ ?_
      · exact ⟨_, _, _, _, _, rfl, o7, rfl, o_185, o_190, o_192, r_194, o3, o3, o3, o3, o3, g_188, o3, o6, o6, o6, o3, e⟩
      · intro μ4 left_a left_n left_e t84 g18 g85 g86 g87 g88 g89 g90 g91 g92 g93 g94 g95 g96 g97 g98 g99 H_15 hI
        obtain ⟨l_left, b_195, q4_1, q4_2, q4_3, rfl, rfl, rfl, o_196, o_197, o_198, r_199, n_200, n_201, n_202, n_203, n_204, g_205, l_206, v_207, v_208, v_209, hμ, e⟩ := hI
        rw [spec_l05Pursue_r4]
        have e := e.trans (p_spec_l05Pursue_l4_s l_list l_scales t6 vsome t24 q1_1 q1_2 q1_3 q1_4 q1_5 q1_6 (fun (l_left : List Nat) (t84 : Int) (q4_1 : Int) (q4_2 : Nat) (q4_3 : Nat) => (bif !(p_spec_l02Finite l_left) then ((0 : Int), 0, 0, [], false) else (q1_4, q1_5, q1_6, l_left, true))) μ4 l_left t84 q4_1 q4_2 q4_3)
        have w_210 := o_197.lt
        have w_211 := o_198.lt
        have w_212 := o_196.lt
        have l_213 := g_205.1
        refine Br.intro (fun c_214 => ?_) (fun c_214 => ?_)
        · have e := e.trans (cond_t c_214)
          have c_214' := of_decide_eq_true c_214
          obtain ⟨b_215, f_216, q_217⟩ := ((i_list.grow g_205)).pos o0
          refine ⟨by omega, by omega, b_215, f_216, q_217, ?_⟩
          refine ⟨((l_list).getD (t84 : Int).toNat 0), (i_list).rd g_205 q_217 o3 _, ?_⟩
          obtain ⟨b_218, f_219, q_220⟩ := (r_199.isL).pos o0
          refine ⟨by omega, by omega, b_218, f_219, q_220, ?_⟩
          refine ⟨(((p_spec_l05Of (l_list.length : Int) q1_4 q1_5 q1_6)).getD (t84 : Int).toNat 0), (r_199.isL).rd (Grow.refl _) q_220 o3 _, ?_⟩
          refine Al.intro (fun b_221 H_16 hb_222 hl_223 g_224 o_225 => ?_)
          have o_225 : Own H_16 b_221 (([(fsub .f32 (((l_list).getD (t84 : Int).toNat 0)) ((((p_spec_l05Of (l_list.length : Int) q1_4 q1_5 q1_6)).getD (t84 : Int).toNat 0)))]).map fF) := o_225
          have l_227 := g_224.1
          have g_228 := g_205.trans g_224
          have l_229 := g_228.1
          have o_230 := o_197.grow g_224
          have w_231 := o_230.lt
          have o_232 := o_198.grow g_224
          have w_233 := o_232.lt
          have o_234 := o_196.grow g_224
          have w_235 := o_234.lt
          have r_236 := r_199.grow g_224
          have w_254 := o_225.lt
          refine ⟨_, _, o_234.ownB o8 rfl, (isl_rdS (o_225.isL o7)), (fun h => by cases h), o29, ?_⟩
          refine Ap.app o_234 rfl rfl (fun b_241 H_17 q_252 hl_237 o_238 k_239 => ?_)
          have o_238 := map_snoc o_238
          have l_242 := k_239.1
          have g_243 := g_228.keep (b := b_195) o3 k_239
          have l_244 := g_243.1
          have o_245 := o_230.keep o3 k_239
          have w_246 := o_245.lt
          have o_247 := o_232.keep o3 k_239
          have w_248 := o_247.lt
          have o_249 := o_225.keep o3 k_239
          have w_250 := o_249.lt
          have r_251 := r_236.keep u_178 o3 k_239
          have w_253 := o_238.lt
          rw [show IntKind.wrap .i64 (t84 + 1) = (t84 + 1) from wrap64 o3 o3]
          refine spec_l05Pursue_n4 (μ4 - 1) o11 ⟨_, _, _, _, _, rfl, o9, rfl, o_238, o_245, o_247, r_251, o3, o3, o3, o3, o3, g_243, o3, o1, o1, o1, o11, (by rw [show μ4 - 1 + 1 = μ4 from by first | omega]; exact e)⟩
        · have e := e.trans (cond_f c_214)
          have c_214' := of_decide_eq_false c_214
          rw [spec_l05Pursue_x4_6]
          refine T_spec_l02Finite_i ⟨_, (o_196.isL o7), o0, ?_⟩
          refine Br.intro (fun c_255 => ?_) (fun c_255 => ?_)
          · have e := e.trans (cond_t c_255)
            have c_255n := nf_of_t c_255
            refine Lt.setN (n := 3) o_197 (Nat.le_of_ble_eq_true rfl) rfl (fun H_18 hl_256 o_258 k_257 => ?_)
            have o_258 : Own H_18 b_1 [.int .i64 0, .float .f32 0, .float .f32 0] := o_258
            have l_259 := k_257.1
            have g_260 := g_205.keep (b := b_1) o3 k_257
            have l_261 := g_260.1
            have o_262 := o_198.keep o3 k_257
            have w_263 := o_262.lt
            have o_264 := o_196.keep o3 k_257
            have w_265 := o_264.lt
            have r_266 := r_199.keep u_178 o3 k_257
            have w_267 := o_258.lt
            refine ⟨0, 0, 0, (o_258.rdN (Nat.le_of_ble_eq_true rfl)).trans rfl, ?_⟩
            rw [e] at hk
            exact hk _ _ _ H_18 g_260 o15
          · have e := e.trans (cond_f c_255)
            have c_255n := nt_of_f c_255
            refine ⟨q1_4, q1_5, q1_6, (o_198.rdN (Nat.le_of_ble_eq_true rfl)).trans rfl, ?_⟩
            refine Lt.setN (n := 3) o_197 (Nat.le_of_ble_eq_true rfl) rfl (fun H_19 hl_268 o_270 k_269 => ?_)
            have o_270 : Own H_19 b_1 [.int .i64 q1_4, .float .f32 q1_5, .float .f32 q1_6] := o_270
            have l_271 := k_269.1
            have g_272 := g_205.keep (b := b_1) o3 k_269
            have l_273 := g_272.1
            have o_274 := o_198.keep o3 k_269
            have w_275 := o_274.lt
            have o_276 := o_196.keep o3 k_269
            have w_277 := o_276.lt
            have r_278 := r_199.keep u_178 o3 k_269
            have w_279 := o_270.lt
            refine ⟨q1_4, q1_5, q1_6, (o_270.rdN (Nat.le_of_ble_eq_true rfl)).trans rfl, ?_⟩
            rw [e] at hk
            exact hk _ _ _ H_19 g_272 (o_276.ownS o7 o3)
theorem spec_l05Pursue_ok : FnOk Try.prog 79 S_spec_l05Pursue := by
  refine FnOk.body mix_ok E_spec_l05Pursue_ok Try.func79 rfl (by kernel_rfl) (by kernel_rfl) ?_ ?_ ?_ ?_ ?_
  · intro args H K K' h hk
    simp only [S_spec_l05Pursue] at *
    unfold F_spec_l05Pursue at *
    split at hk
    · obtain ⟨l_list, l_scales, i_list, i_scales, bd_284, bd_285, pr0, pr1, pr2, pr3, k⟩ := hk
      exact ⟨l_list, l_scales, i_list, i_scales, bd_284, bd_285, pr0, pr1, pr2, pr3, (fun r2_a r2_n r2_e H' gg ow0 => h _ _ (k r2_a r2_n r2_e H' gg ow0))⟩
    · exact hk.elim
  · intro hq; cases hq
  · intro args H K hk
    simp only [S_spec_l05Pursue] at *
    unfold F_spec_l05Pursue at *
    split at hk
    · obtain ⟨l_list, l_scales, i_list, i_scales, bd_284, bd_285, pr0, pr1, pr2, pr3, k⟩ := hk
      exact liveS fun a n e H1 g o => ⟨_, _, k a n e H1 g o⟩
    · exact hk.elim
  · intro _ args H K hk
    simp only [S_spec_l05Pursue] at *
    unfold F_spec_l05Pursue at *
    split at hk
    · obtain ⟨l_list, l_scales, i_list, i_scales, bd_284, bd_285, pr0, pr1, pr2, pr3, k⟩ := hk
      exact ⟨l_list, l_scales, i_list, i_scales, bd_284, bd_285, pr0, pr1, pr2, pr3, (fun r2_a r2_n r2_e H' gg ow0 => ⟨gg, k r2_a r2_n r2_e H' gg ow0⟩)⟩
    · exact hk.elim
  · have mm := @spec_l05Pursue_main
    revert mm
    generalize bodyK Try.prog E_spec_l05Pursue Try.f79 = Q
    intro mm args H K hk
    simp only [S_spec_l05Pursue] at *
    unfold F_spec_l05Pursue at *
    split at hk
    · exact mm _ _ _ _ _ _ H K hk
    · exact hk.elim

def p_spec_PursueOnce (l_list : List Nat) (l_scales : List Nat) : Int × Nat × Nat × (List Nat) × Bool := (bif !(p_spec_l03Long l_list) then ((0 : Int), 0, 0, [], false) else (bif !(p_spec_l05Scales l_scales) then ((0 : Int), 0, 0, [], false) else ((p_spec_l05Pursue l_list l_scales).1, (p_spec_l05Pursue l_list l_scales).2.1, (p_spec_l05Pursue l_list l_scales).2.2.1, (p_spec_l05Pursue l_list l_scales).2.2.2.1, (p_spec_l05Pursue l_list l_scales).2.2.2.2)))
def p_spec_PursueOnce_eq := @p_spec_PursueOnce.eq_1
def T_spec_PursueOnce (list_a : Option Addr) (list_n : Nat) (list_e : Nat) (scales_a : Option Addr) (scales_n : Nat) (scales_e : Nat) (H : AHeap) (K : Int → Nat → Nat → (Option Addr) → Nat → Nat → Bool → AHeap → Prop) : Prop := ∃ (l_list : List Nat), ∃ (l_scales : List Nat), IsL fF H list_a list_n l_list ∧ IsL fF H scales_a scales_n l_scales ∧ l_list.length < 1073741824 ∧ l_scales.length < 1073741824 ∧ ((∀ (r2_a : Option Addr) (r2_n r2_e : Nat), ∀ H' : AHeap, Grow H H' → OwnS fF H' H.length r2_a r2_n r2_e ((p_spec_PursueOnce l_list l_scales).2.2.2.1) → K ((p_spec_PursueOnce l_list l_scales).1) ((p_spec_PursueOnce l_list l_scales).2.1) ((p_spec_PursueOnce l_list l_scales).2.2.1) r2_a r2_n r2_e ((p_spec_PursueOnce l_list l_scales).2.2.2.2) H'))
theorem T_spec_PursueOnce_i {list_a : Option Addr} {list_n : Nat} {list_e : Nat} {scales_a : Option Addr} {scales_n : Nat} {scales_e : Nat} {H : AHeap} {K : Int → Nat → Nat → (Option Addr) → Nat → Nat → Bool → AHeap → Prop} (h : ∃ (l_list : List Nat), ∃ (l_scales : List Nat), IsL fF H list_a list_n l_list ∧ IsL fF H scales_a scales_n l_scales ∧ l_list.length < 1073741824 ∧ l_scales.length < 1073741824 ∧ ((∀ (r2_a : Option Addr) (r2_n r2_e : Nat), ∀ H' : AHeap, Grow H H' → OwnS fF H' H.length r2_a r2_n r2_e ((p_spec_PursueOnce l_list l_scales).2.2.2.1) → K ((p_spec_PursueOnce l_list l_scales).1) ((p_spec_PursueOnce l_list l_scales).2.1) ((p_spec_PursueOnce l_list l_scales).2.2.1) r2_a r2_n r2_e ((p_spec_PursueOnce l_list l_scales).2.2.2.2) H'))) : T_spec_PursueOnce list_a list_n list_e scales_a scales_n scales_e H K := h
theorem spec_PursueOnce_len (l sc : List Nat) : (p_spec_PursueOnce l sc).2.2.2.1.length ≤ l.length := by
  rw [p_spec_PursueOnce_eq]
  refine cnb (P := RL l.length) (fun _ => rl0 _) (fun _ => ?_)
  exact cnb (P := RL l.length) (fun _ => rl0 _) (fun _ => spec_l05Pursue_len l sc)
/-! spec_PursueOnce: function 44 -/
def E_spec_PursueOnce : Env := envOf [(72, S_spec_l03Long), (78, S_spec_l05Scales), (79, S_spec_l05Pursue)]
def F_spec_PursueOnce : List Value → AHeap → (Value → AHeap → Prop) → Prop
  | [.slice list_a list_n list_e, .slice scales_a scales_n scales_e], H, K => T_spec_PursueOnce list_a list_n list_e scales_a scales_n scales_e H fun (r1_Place : Int) (r1_Scale : Nat) (r1_Size : Nat) (r2_a : Option Addr) (r2_n : Nat) (r2_e : Nat) (r3 : Bool) (H' : AHeap) => K (.tuple #[.agg #[.int .i64 r1_Place, .float .f32 r1_Scale, .float .f32 r1_Size], .slice r2_a r2_n r2_e, .bool r3]) H'
  | _, _, _ => False
def S_spec_PursueOnce : FSpec := { F := F_spec_PursueOnce, quiet := false, tame := true }
theorem spec_PursueOnce_vc (list_a : Option Addr) (list_n : Nat) (list_e : Nat) (scales_a : Option Addr) (scales_n : Nat) (scales_e : Nat) (H : AHeap) (K : Value → AHeap → Prop) : bodyK Try.prog E_spec_PursueOnce Try.f44 [.slice list_a list_n list_e, .slice scales_a scales_n scales_e] H K =
  (Al [.int .i64 0, .float .f32 0, .float .f32 0] H fun b1 H1 => T_spec_l03Long list_a list_n list_e H1 fun (r1 : Bool) (H2 : AHeap) => Br (!r1) (isOwn H2 b1 ∧ (∃ l, rdN H2 b1 0 3 = some l) ∧ Lt (setN H2 b1 0 [.int .i64 0, .float .f32 0, .float .f32 0]) fun H3 => ∃ c1 : Int, ∃ c2 : Nat, ∃ c3 : Nat,  rdN H3 b1 0 3 = some [.int .i64 c1, .float .f32 c2, .float .f32 c3] ∧ K (.tuple #[.agg #[.int .i64 c1, .float .f32 c2, .float .f32 c3], .slice none 0 0, .bool false]) H3) (T_spec_l05Scales scales_a scales_n scales_e H2 fun (r2 : Bool) (H4 : AHeap) => Br (!r2) (isOwn H4 b1 ∧ (∃ l, rdN H4 b1 0 3 = some l) ∧ Lt (setN H4 b1 0 [.int .i64 0, .float .f32 0, .float .f32 0]) fun H5 => ∃ c4 : Int, ∃ c5 : Nat, ∃ c6 : Nat,  rdN H5 b1 0 3 = some [.int .i64 c4, .float .f32 c5, .float .f32 c6] ∧ K (.tuple #[.agg #[.int .i64 c4, .float .f32 c5, .float .f32 c6], .slice none 0 0, .bool false]) H5) (T_spec_l05Pursue list_a list_n list_e scales_a scales_n scales_e H4 fun (r3 : Int) (r4 : Nat) (r5 : Nat) (a1 : Option Addr) (r6 : Nat) (r7 : Nat) (r8 : Bool) (H6 : AHeap) => isOwn H6 b1 ∧ (∃ l, rdN H6 b1 0 3 = some l) ∧ Lt (setN H6 b1 0 [.int .i64 r3, .float .f32 r4, .float .f32 r5]) fun H7 => ∃ c7 : Int, ∃ c8 : Nat, ∃ c9 : Nat,  rdN H7 b1 0 3 = some [.int .i64 c7, .float .f32 c8, .float .f32 c9] ∧ K (.tuple #[.agg #[.int .i64 c7, .float .f32 c8, .float .f32 c9], .slice a1 r6 r7, .bool r8]) H7))) := by kernel_rfl
theorem E_spec_PursueOnce_ok : ∀ g, FnOk Try.prog g (E_spec_PursueOnce g) := FnOk.envOf (by
  intro x hx
  simp only [List.mem_cons, List.not_mem_nil, or_false] at hx
  rcases hx with rfl | rfl | rfl
  · exact spec_l03Long_ok
  · exact spec_l05Scales_ok
  · exact spec_l05Pursue_ok)
theorem o19 {P : Prop} (h : P := by first | assumption | omega | (simp; omega) | (first | exact (scales_all (by assumption)).1 | exact (scales_all (by assumption)).2.1 | (have := scales_all (by assumption); omega))) : P := h
set_option maxHeartbeats 1000000 in
theorem spec_PursueOnce_main (list_a : Option Addr) (list_n : Nat) (list_e : Nat) (scales_a : Option Addr) (scales_n : Nat) (scales_e : Nat) (H : AHeap) (K : Value → AHeap → Prop) (h : T_spec_PursueOnce list_a list_n list_e scales_a scales_n scales_e H fun (r1_Place : Int) (r1_Scale : Nat) (r1_Size : Nat) (r2_a : Option Addr) (r2_n : Nat) (r2_e : Nat) (r3 : Bool) (H' : AHeap) => K (.tuple #[.agg #[.int .i64 r1_Place, .float .f32 r1_Scale, .float .f32 r1_Size], .slice r2_a r2_n r2_e, .bool r3]) H') : bodyK Try.prog E_spec_PursueOnce Try.f44 [.slice list_a list_n list_e, .slice scales_a scales_n scales_e] H K := by
  rw [spec_PursueOnce_vc]
  obtain ⟨l_list, l_scales, i_list, i_scales, bd_49, bd_50, hk⟩ := h
  obtain rfl := i_list.eqn
  obtain rfl := i_scales.eqn
  have e : (p_spec_PursueOnce l_list l_scales) = _ := rfl
  have e := e.trans (p_spec_PursueOnce_eq l_list l_scales)
  have g0 := Grow.refl H
  refine Al.intro (fun b_1 H_1 hb_2 hl_3 g_4 o_5 => ?_)
  have l_7 := g_4.1
  have g_8 := g0.trans g_4
  have l_9 := g_8.1
  have w_48 := o_5.lt
  refine T_spec_l03Long_i ⟨_, (i_list.grow g_8), o0, ?_⟩
  refine Br.intro (fun c_10 => ?_) (fun c_10 => ?_)
  · have e := e.trans (cond_t c_10)
    have c_10n := nf_of_t c_10
    refine Lt.setN (n := 3) o_5 (Nat.le_of_ble_eq_true rfl) rfl (fun H_2 hl_11 o_13 k_12 => ?_)
    have o_13 : Own H_2 b_1 [.int .i64 0, .float .f32 0, .float .f32 0] := o_13
    have l_14 := k_12.1
    have g_15 := g_8.keep (b := b_1) o3 k_12
    have l_16 := g_15.1
    have w_17 := o_13.lt
    refine ⟨0, 0, 0, (o_13.rdN (Nat.le_of_ble_eq_true rfl)).trans rfl, ?_⟩
    rw [e] at hk
    exact hk _ _ _ H_2 g_15 o15
  · have e := e.trans (cond_f c_10)
    have c_10n := nt_of_f c_10
    have c_10n' := spec_l03Long_t c_10n
    refine T_spec_l05Scales_i ⟨_, (i_scales.grow g_8), o0, ?_⟩
    refine Br.intro (fun c_18 => ?_) (fun c_18 => ?_)
    · have e := e.trans (cond_t c_18)
      have c_18n := nf_of_t c_18
      refine Lt.setN (n := 3) o_5 (Nat.le_of_ble_eq_true rfl) rfl (fun H_3 hl_19 o_21 k_20 => ?_)
      have o_21 : Own H_3 b_1 [.int .i64 0, .float .f32 0, .float .f32 0] := o_21
      have l_22 := k_20.1
      have g_23 := g_8.keep (b := b_1) o3 k_20
      have l_24 := g_23.1
      have w_25 := o_21.lt
      refine ⟨0, 0, 0, (o_21.rdN (Nat.le_of_ble_eq_true rfl)).trans rfl, ?_⟩
      rw [e] at hk
      exact hk _ _ _ H_3 g_23 o15
    · have e := e.trans (cond_f c_18)
      have c_18n := nt_of_f c_18
      refine T_spec_l05Pursue_i ⟨_, _, (i_list.grow g_8), (i_scales.grow g_8), o0, o0, o19, o19, o19, o19, fun a_26 n_27 e_28 H_4 g_31 r_29 => ?_⟩
      have z_30 := spec_l05Pursue_len l_list l_scales
      have l_32 := g_31.1
      have g_33 := g_8.trans g_31
      have l_34 := g_33.1
      have o_35 := o_5.grow g_31
      have w_36 := o_35.lt
      obtain rfl := r_29.isL.eqn
      have u_37 := r_29.up
      have u_38 := r_29.lo
      refine Lt.setN (n := 3) o_35 (Nat.le_of_ble_eq_true rfl) rfl (fun H_5 hl_40 o_42 k_41 => ?_)
      have o_42 : Own H_5 b_1 [.int .i64 ((p_spec_l05Pursue l_list l_scales).1), .float .f32 ((p_spec_l05Pursue l_list l_scales).2.1), .float .f32 ((p_spec_l05Pursue l_list l_scales).2.2.1)] := o_42
      have l_43 := k_41.1
      have g_44 := g_33.keep (b := b_1) o3 k_41
      have l_45 := g_44.1
      have r_46 := r_29.keep u_37 o3 k_41
      have w_47 := o_42.lt
      refine ⟨(p_spec_l05Pursue l_list l_scales).1, (p_spec_l05Pursue l_list l_scales).2.1, (p_spec_l05Pursue l_list l_scales).2.2.1, (o_42.rdN (Nat.le_of_ble_eq_true rfl)).trans rfl, ?_⟩
      rw [e] at hk
      exact hk _ _ _ H_5 g_44 (r_46.weak o3)
theorem spec_PursueOnce_ok : FnOk Try.prog 44 S_spec_PursueOnce := by
  refine FnOk.body mix_ok E_spec_PursueOnce_ok Try.func44 rfl (by kernel_rfl) (by kernel_rfl) ?_ ?_ ?_ ?_ ?_
  · intro args H K K' h hk
    simp only [S_spec_PursueOnce] at *
    unfold F_spec_PursueOnce at *
    split at hk
    · obtain ⟨l_list, l_scales, i_list, i_scales, bd_49, bd_50, k⟩ := hk
      exact ⟨l_list, l_scales, i_list, i_scales, bd_49, bd_50, (fun r2_a r2_n r2_e H' gg ow0 => h _ _ (k r2_a r2_n r2_e H' gg ow0))⟩
    · exact hk.elim
  · intro hq; cases hq
  · intro args H K hk
    simp only [S_spec_PursueOnce] at *
    unfold F_spec_PursueOnce at *
    split at hk
    · obtain ⟨l_list, l_scales, i_list, i_scales, bd_49, bd_50, k⟩ := hk
      exact liveS fun a n e H1 g o => ⟨_, _, k a n e H1 g o⟩
    · exact hk.elim
  · intro _ args H K hk
    simp only [S_spec_PursueOnce] at *
    unfold F_spec_PursueOnce at *
    split at hk
    · obtain ⟨l_list, l_scales, i_list, i_scales, bd_49, bd_50, k⟩ := hk
      exact ⟨l_list, l_scales, i_list, i_scales, bd_49, bd_50, (fun r2_a r2_n r2_e H' gg ow0 => ⟨gg, k r2_a r2_n r2_e H' gg ow0⟩)⟩
    · exact hk.elim
  · have mm := @spec_PursueOnce_main
    revert mm
    generalize bodyK Try.prog E_spec_PursueOnce Try.f44 = Q
    intro mm args H K hk
    simp only [S_spec_PursueOnce] at *
    unfold F_spec_PursueOnce at *
    split at hk
    · exact mm _ _ _ _ _ _ H K hk
    · exact hk.elim
def p_impl_within (n : Int) (low : Int) (high : Int) : Bool := (bif decide ((low : Int) ≤ n) then decide ((n : Int) ≤ high) else false)
def p_impl_within_eq := @p_impl_within.eq_1
def T_impl_within (n : Int) (low : Int) (high : Int) (H : AHeap) (K : Bool → AHeap → Prop) : Prop := K (p_impl_within n low high) H
theorem impl_within_t {n a b : Int} (h : p_impl_within n a b = true) : a ≤ n ∧ n ≤ b := by
  unfold p_impl_within at h
  by_cases h1 : a ≤ n
  · rw [decide_eq_true h1, cond_true] at h; exact ⟨h1, of_decide_eq_true h⟩
  · rw [decide_eq_false h1] at h; cases h
theorem T_impl_within_i {n : Int} {low : Int} {high : Int} {H : AHeap} {K : Bool → AHeap → Prop} (h : K (p_impl_within n low high) H) : T_impl_within n low high H K := h
/-! impl_within: function 54 -/
def E_impl_within : Env := envOf []
def F_impl_within : List Value → AHeap → (Value → AHeap → Prop) → Prop
  | [.int .i64 n, .int .i64 low, .int .i64 high], H, K => T_impl_within n low high H fun (r1 : Bool) (H' : AHeap) => K (.bool r1) H'
  | _, _, _ => False
def S_impl_within : FSpec := { F := F_impl_within, quiet := true, tame := false }
theorem impl_within_vc (n : Int) (low : Int) (high : Int) (H : AHeap) (K : Value → AHeap → Prop) : bodyK Try.prog E_impl_within Try.f54 [.int .i64 n, .int .i64 low, .int .i64 high] H K =
  (Br (decide ((low : Int) ≤ n)) (K (.bool (decide ((n : Int) ≤ high))) H) (K (.bool false) H)) := by kernel_rfl
theorem E_impl_within_ok : ∀ g, FnOk Try.prog g (E_impl_within g) := FnOk.envOf (by
  intro x hx; cases hx)
set_option maxHeartbeats 1000000 in
theorem impl_within_main (n : Int) (low : Int) (high : Int) (H : AHeap) (K : Value → AHeap → Prop) (h : T_impl_within n low high H fun (r1 : Bool) (H' : AHeap) => K (.bool r1) H') : bodyK Try.prog E_impl_within Try.f54 [.int .i64 n, .int .i64 low, .int .i64 high] H K := by
  rw [impl_within_vc]
  unfold T_impl_within p_impl_within at h
  repeat' (first | exact h | (exfalso; simp_all; done) | (refine ⟨by decide, ?_⟩) | (refine Br.intro (fun hb => ?_) (fun hb => ?_) <;> (try simp only [hb, cond_true, cond_false, Bool.not_true, Bool.not_false] at h)))
theorem impl_within_ok : FnOk Try.prog 54 S_impl_within := by
  refine FnOk.body mix_ok E_impl_within_ok Try.func54 rfl (by kernel_rfl) (by kernel_rfl) ?_ ?_ ?_ ?_ ?_
  · intro args H K K' h hk
    simp only [S_impl_within] at *
    unfold F_impl_within at *
    split at hk
    · have k := hk
      exact h _ _ k
    · exact hk.elim
  · intro _ args H K hk
    simp only [S_impl_within] at *
    unfold F_impl_within at *
    split at hk
    · have k := hk
      exact ⟨_, k, fun K' k' => k'⟩
    · exact hk.elim
  · intro args H K hk
    simp only [S_impl_within] at *
    unfold F_impl_within at *
    split at hk
    · have k := hk
      exact ⟨_, _, k⟩
    · exact hk.elim
  · intro hq; cases hq
  · have mm := @impl_within_main
    revert mm
    generalize bodyK Try.prog E_impl_within Try.f54 = Q
    intro mm args H K hk
    simp only [S_impl_within] at *
    unfold F_impl_within at *
    split at hk
    · exact mm _ _ _ H K hk
    · exact hk.elim
def p_impl_IsFinite (x : Nat) : Bool := feq .f32 (fsub .f32 x x) 0
def p_impl_IsFinite_eq := @p_impl_IsFinite.eq_1
def T_impl_IsFinite (x : Nat) (H : AHeap) (K : Bool → AHeap → Prop) : Prop := K (p_impl_IsFinite x) H

theorem T_impl_IsFinite_i {x : Nat} {H : AHeap} {K : Bool → AHeap → Prop} (h : K (p_impl_IsFinite x) H) : T_impl_IsFinite x H K := h
/-! impl_IsFinite: function 56 -/
def E_impl_IsFinite : Env := envOf []
def F_impl_IsFinite : List Value → AHeap → (Value → AHeap → Prop) → Prop
  | [.float .f32 x], H, K => T_impl_IsFinite x H fun (r1 : Bool) (H' : AHeap) => K (.bool r1) H'
  | _, _, _ => False
def S_impl_IsFinite : FSpec := { F := F_impl_IsFinite, quiet := true, tame := false }
theorem impl_IsFinite_vc (x : Nat) (H : AHeap) (K : Value → AHeap → Prop) : bodyK Try.prog E_impl_IsFinite Try.f56 [.float .f32 x] H K =
  (K (.bool (feq .f32 (fsub .f32 x x) 0)) H) := by kernel_rfl
theorem E_impl_IsFinite_ok : ∀ g, FnOk Try.prog g (E_impl_IsFinite g) := FnOk.envOf (by
  intro x hx; cases hx)
set_option maxHeartbeats 1000000 in
theorem impl_IsFinite_main (x : Nat) (H : AHeap) (K : Value → AHeap → Prop) (h : T_impl_IsFinite x H fun (r1 : Bool) (H' : AHeap) => K (.bool r1) H') : bodyK Try.prog E_impl_IsFinite Try.f56 [.float .f32 x] H K := by
  rw [impl_IsFinite_vc]
  unfold T_impl_IsFinite p_impl_IsFinite at h
  repeat' (first | exact h | (exfalso; simp_all; done) | (refine ⟨by decide, ?_⟩) | (refine Br.intro (fun hb => ?_) (fun hb => ?_) <;> (try simp only [hb, cond_true, cond_false, Bool.not_true, Bool.not_false] at h)))
theorem impl_IsFinite_ok : FnOk Try.prog 56 S_impl_IsFinite := by
  refine FnOk.body mix_ok E_impl_IsFinite_ok Try.func56 rfl (by kernel_rfl) (by kernel_rfl) ?_ ?_ ?_ ?_ ?_
  · intro args H K K' h hk
    simp only [S_impl_IsFinite] at *
    unfold F_impl_IsFinite at *
    split at hk
    · have k := hk
      exact h _ _ k
    · exact hk.elim
  · intro _ args H K hk
    simp only [S_impl_IsFinite] at *
    unfold F_impl_IsFinite at *
    split at hk
    · have k := hk
      exact ⟨_, k, fun K' k' => k'⟩
    · exact hk.elim
  · intro args H K hk
    simp only [S_impl_IsFinite] at *
    unfold F_impl_IsFinite at *
    split at hk
    · have k := hk
      exact ⟨_, _, k⟩
    · exact hk.elim
  · intro hq; cases hq
  · have mm := @impl_IsFinite_main
    revert mm
    generalize bodyK Try.prog E_impl_IsFinite Try.f56 = Q
    intro mm args H K hk
    simp only [S_impl_IsFinite] at *
    unfold F_impl_IsFinite at *
    split at hk
    · exact mm _ H K hk
    · exact hk.elim

def p_impl_areFinite_l2 (l_lists : List (List Nat)) (t2 : Bool) (t9 : Int) (k2_2 : Bool → Int → Bool) : Nat → Bool → Int → Bool
  | 0, _, _ => false
  | μ2 + 1, t2_2, t15 => (bif decide ((t15 : Int) < ((((l_lists).getD (t9 : Int).toNat [])).length : Int)) then (bif !((p_impl_IsFinite (((((l_lists).getD (t9 : Int).toNat [])).getD (t15 : Int).toNat 0)))) then false else (p_impl_areFinite_l2 l_lists t2 t9 k2_2 μ2 t2_2 (t15 + 1))) else (k2_2 t2_2 t15))
def p_impl_areFinite_l2_s := fun l_lists t2 t9 k2_2 μ2 t2_2 t15 => @p_impl_areFinite_l2.eq_2 l_lists t2 t9 k2_2 t2_2 t15 μ2
def p_impl_areFinite_l1 (l_lists : List (List Nat)) : Nat → Bool → Int → Bool
  | 0, _, _ => false
  | μ + 1, t2, t9 => (bif decide ((t9 : Int) < (l_lists.length : Int)) then (p_impl_areFinite_l2 l_lists t2 t9 (fun (t2_2 : Bool) (t15 : Int) => (p_impl_areFinite_l1 l_lists μ t2_2 (t9 + 1))) (Int.toNat (((((l_lists).getD (t9 : Int).toNat [])).length : Int) - (0 : Int)) + 1) t2 (0 : Int)) else true)
def p_impl_areFinite_l1_s := fun l_lists μ t2 t9 => @p_impl_areFinite_l1.eq_2 l_lists t2 t9 μ
def p_impl_areFinite (l_lists : List (List Nat)) : Bool := (p_impl_areFinite_l1 l_lists (Int.toNat ((l_lists.length : Int) - (0 : Int)) + 1) false (0 : Int))
def p_impl_areFinite_eq := @p_impl_areFinite.eq_1
def T_impl_areFinite (lists_a : Option Addr) (lists_n : Nat) (lists_e : Nat) (H : AHeap) (K : Bool → AHeap → Prop) : Prop := ∃ (l_lists : List (List Nat)), IsLL fF H lists_a lists_n l_lists ∧ l_lists.length < 1073741824 ∧ (∀ y ∈ l_lists, y.length < 1073741824) ∧ K (p_impl_areFinite l_lists) H
theorem T_impl_areFinite_i {lists_a : Option Addr} {lists_n : Nat} {lists_e : Nat} {H : AHeap} {K : Bool → AHeap → Prop} (h : ∃ (l_lists : List (List Nat)), IsLL fF H lists_a lists_n l_lists ∧ l_lists.length < 1073741824 ∧ (∀ y ∈ l_lists, y.length < 1073741824) ∧ K (p_impl_areFinite l_lists) H) : T_impl_areFinite lists_a lists_n lists_e H K := h

/-! impl_areFinite: function 81 -/
def E_impl_areFinite : Env := envOf [(56, S_impl_IsFinite)]
def F_impl_areFinite : List Value → AHeap → (Value → AHeap → Prop) → Prop
  | [.slice lists_a lists_n lists_e], H, K => T_impl_areFinite lists_a lists_n lists_e H fun (r1 : Bool) (H' : AHeap) => K (.bool r1) H'
  | _, _, _ => False
def S_impl_areFinite : FSpec := { F := F_impl_areFinite, quiet := true, tame := false }
theorem impl_areFinite_vc (lists_a : Option Addr) (lists_n : Nat) (lists_e : Nat) (H : AHeap) (K : Value → AHeap → Prop) : bodyK Try.prog E_impl_areFinite Try.f81 [.slice lists_a lists_n lists_e] H K =
  (loopK (exK Try.prog E_impl_areFinite (cl (cl (cr (cl (cr (bodyC Try.f81))))))) [.slice lists_a lists_n lists_e, undef, .bool false, undef, undef, undef, undef, .slice lists_a lists_n lists_e, .int .i64 (lists_n : Int), .int .i64 0, undef, undef, undef, undef, undef, undef, undef, undef, undef, undef, undef, undef, undef, undef] H (blockQ 0 (seqQ (exK Try.prog E_impl_areFinite (cr (cr (bodyC Try.f81)))) (retK Try.prog Try.f81 K)))) := by kernel_rfl
abbrev impl_areFinite_P1 (lists_a : Option Addr) (lists_e : Nat) (lists_n : Nat) (t2 : Bool) (t9 : Int) (g4 g6 g10 g11 g12 g13 g14 g15 g16 g17 g18 g19 g20 g21 g22 g23 : Value) : List Value := [.slice lists_a lists_n lists_e, undef, .bool t2, undef, g4, undef, g6, .slice lists_a lists_n lists_e, .int .i64 (lists_n : Int), .int .i64 t9, g10, g11, g12, g13, g14, g15, g16, g17, g18, g19, g20, g21, g22, g23]
theorem impl_areFinite_r1 (lists_a : Option Addr) (lists_e : Nat) (lists_n : Nat) (t2 : Bool) (t9 : Int) (g4 g6 g10 g11 g12 g13 g14 g15 g16 g17 g18 g19 g20 g21 g22 g23 : Value) (H : AHeap) (R : Post) : exK Try.prog E_impl_areFinite (cl (cl (cr (cl (cr (bodyC Try.f81)))))) (impl_areFinite_P1 lists_a lists_e lists_n t2 t9 g4 g6 g10 g11 g12 g13 g14 g15 g16 g17 g18 g19 g20 g21 g22 g23) H R =
  (Br (decide ((t9 : Int) < (lists_n : Int))) ((0 : Int) ≤ t9 ∧ t9 < (lists_n : Int) ∧ ∃ b1 f1, (lists_a : Option Addr) = some ⟨b1, f1, none⟩ ∧ ∃ x1_a : Option Addr, ∃ x1_n : Nat, ∃ x1_e : Nat,  rdC H b1 (f1 + (t9 : Int).toNat * 1) = some (.slice x1_a x1_n x1_e) ∧ loopK (exK Try.prog E_impl_areFinite (cl (cl (cr (cr (cl (cl (cr (cr (cl (cl (cr (cl (cr (bodyC Try.f81))))))))))))))) [.slice lists_a lists_n lists_e, undef, .bool t2, undef, .slice x1_a x1_n x1_e, undef, g6, .slice lists_a lists_n lists_e, .int .i64 (lists_n : Int), .int .i64 t9, .bool (decide ((t9 : Int) < (lists_n : Int))), .pointer (some ⟨b1, f1 + (t9 : Int).toNat * 1, none⟩), .slice x1_a x1_n x1_e, .slice x1_a x1_n x1_e, .int .i64 (x1_n : Int), .int .i64 0, g16, g17, g18, g19, g20, g21, g22, g23] H (blockQ 2 (blockQ 1 (seqQ (exK Try.prog E_impl_areFinite (cr (cr (cr (cl (cl (cr (cl (cr (bodyC Try.f81)))))))))) (R))))) (R (.exit 0) [.slice lists_a lists_n lists_e, undef, .bool t2, undef, g4, undef, g6, .slice lists_a lists_n lists_e, .int .i64 (lists_n : Int), .int .i64 t9, .bool (decide ((t9 : Int) < (lists_n : Int))), g11, g12, g13, g14, g15, g16, g17, g18, g19, g20, g21, g22, g23] H)) := by kernel_rfl
def impl_areFinite_I1 (lists_a : Option Addr) (lists_e : Nat) (lists_n : Nat) (Inv : Nat → Bool → Int → AHeap → Prop) : Nat → List Value → AHeap → Prop := fun μ tm H => ∃ (t2 : Bool), ∃ (t9 : Int), ∃ g4 g6 g10 g11 g12 g13 g14 g15 g16 g17 g18 g19 g20 g21 g22 g23, tm = (impl_areFinite_P1 lists_a lists_e lists_n t2 t9 g4 g6 g10 g11 g12 g13 g14 g15 g16 g17 g18 g19 g20 g21 g22 g23) ∧ Inv μ t2 t9 H
theorem impl_areFinite_L1 (lists_a : Option Addr) (lists_e : Nat) (lists_n : Nat) {Q : Post} (Inv : Nat → Bool → Int → AHeap → Prop) (ν : Nat) (t2 : Bool) (t9 : Int) (g4 g6 g10 g11 g12 g13 g14 g15 g16 g17 g18 g19 g20 g21 g22 g23 : Value) (H : AHeap) (h0 : Inv ν t2 t9 H)
    (hs : ∀ (μ : Nat) (t2 : Bool) (t9 : Int) (g4 g6 g10 g11 g12 g13 g14 g15 g16 g17 g18 g19 g20 g21 g22 g23 : Value) (H : AHeap), Inv μ t2 t9 H → exK Try.prog E_impl_areFinite (cl (cl (cr (cl (cr (bodyC Try.f81)))))) (impl_areFinite_P1 lists_a lists_e lists_n t2 t9 g4 g6 g10 g11 g12 g13 g14 g15 g16 g17 g18 g19 g20 g21 g22 g23) H (loopQ (impl_areFinite_I1 lists_a lists_e lists_n Inv) μ Q)) : loopK (exK Try.prog E_impl_areFinite (cl (cl (cr (cl (cr (bodyC Try.f81))))))) (impl_areFinite_P1 lists_a lists_e lists_n t2 t9 g4 g6 g10 g11 g12 g13 g14 g15 g16 g17 g18 g19 g20 g21 g22 g23) H Q :=
  ⟨impl_areFinite_I1 lists_a lists_e lists_n Inv, ν, ⟨t2, t9, g4, g6, g10, g11, g12, g13, g14, g15, g16, g17, g18, g19, g20, g21, g22, g23, rfl, h0⟩, fun μ tm H h => by obtain ⟨t2, t9, g4, g6, g10, g11, g12, g13, g14, g15, g16, g17, g18, g19, g20, g21, g22, g23, rfl, hI⟩ := h; exact hs μ t2 t9 g4 g6 g10 g11 g12 g13 g14 g15 g16 g17 g18 g19 g20 g21 g22 g23 H hI⟩
theorem impl_areFinite_n1 {lists_a : Option Addr} {lists_e : Nat} {lists_n : Nat} {Q : Post} {Inv : Nat → Bool → Int → AHeap → Prop} {μ : Nat} (μ' : Nat) {t2 : Bool} {t9 : Int} {g4 g6 g10 g11 g12 g13 g14 g15 g16 g17 g18 g19 g20 g21 g22 g23 : Value} {H : AHeap} (hm : μ' < μ) (hI : Inv μ' t2 t9 H) : loopQ (impl_areFinite_I1 lists_a lists_e lists_n Inv) μ Q .normal (impl_areFinite_P1 lists_a lists_e lists_n t2 t9 g4 g6 g10 g11 g12 g13 g14 g15 g16 g17 g18 g19 g20 g21 g22 g23) H := ⟨μ', hm, t2, t9, g4, g6, g10, g11, g12, g13, g14, g15, g16, g17, g18, g19, g20, g21, g22, g23, rfl, hI⟩
theorem impl_areFinite_x1_0 (lists_a : Option Addr) (lists_e : Nat) (lists_n : Nat) (t2 : Bool) (t9 : Int) (g4 g6 g10 g11 g12 g13 g14 g15 g16 g17 g18 g19 g20 g21 g22 g23 : Value) (H : AHeap) (K : Value → AHeap → Prop)  {I : Nat → List Value → AHeap → Prop} {μ : Nat} : loopQ I μ (blockQ 0 (seqQ (exK Try.prog E_impl_areFinite (cr (cr (bodyC Try.f81)))) (retK Try.prog Try.f81 K))) (.exit 0) (impl_areFinite_P1 lists_a lists_e lists_n t2 t9 g4 g6 g10 g11 g12 g13 g14 g15 g16 g17 g18 g19 g20 g21 g22 g23) H =
  (K (.bool true) H) := by kernel_rfl
theorem impl_areFinite_x1_ret (lists_a : Option Addr) (lists_e : Nat) (lists_n : Nat) (t2 : Bool) (t9 : Int) (g4 g6 g10 g11 g12 g13 g14 g15 g16 g17 g18 g19 g20 g21 g22 g23 : Value) (H : AHeap) (K : Value → AHeap → Prop)  {I : Nat → List Value → AHeap → Prop} {μ : Nat} : loopQ I μ (blockQ 0 (seqQ (exK Try.prog E_impl_areFinite (cr (cr (bodyC Try.f81)))) (retK Try.prog Try.f81 K))) .ret (impl_areFinite_P1 lists_a lists_e lists_n t2 t9 g4 g6 g10 g11 g12 g13 g14 g15 g16 g17 g18 g19 g20 g21 g22 g23) H =
  (K (.bool t2) H) := by kernel_rfl
abbrev impl_areFinite_P2 (b1 : Nat) (f1 : Nat) (g23 : Value) (lists_a : Option Addr) (lists_e : Nat) (lists_n : Nat) (t9 : Int) (x1_a : Option Addr) (x1_e : Nat) (x1_n : Nat) (t2_2 : Bool) (t15 : Int) (g6 g16 g17 g18 g19 g20 g21 g22 : Value) : List Value := [.slice lists_a lists_n lists_e, undef, .bool t2_2, undef, .slice x1_a x1_n x1_e, undef, g6, .slice lists_a lists_n lists_e, .int .i64 (lists_n : Int), .int .i64 t9, .bool (decide ((t9 : Int) < (lists_n : Int))), .pointer (some ⟨b1, f1 + (t9 : Int).toNat * 1, none⟩), .slice x1_a x1_n x1_e, .slice x1_a x1_n x1_e, .int .i64 (x1_n : Int), .int .i64 t15, g16, g17, g18, g19, g20, g21, g22, g23]
theorem impl_areFinite_r2 (b1 : Nat) (f1 : Nat) (g23 : Value) (lists_a : Option Addr) (lists_e : Nat) (lists_n : Nat) (t9 : Int) (x1_a : Option Addr) (x1_e : Nat) (x1_n : Nat) (t2_2 : Bool) (t15 : Int) (g6 g16 g17 g18 g19 g20 g21 g22 : Value) (H : AHeap) (R : Post) : exK Try.prog E_impl_areFinite (cl (cl (cr (cr (cl (cl (cr (cr (cl (cl (cr (cl (cr (bodyC Try.f81)))))))))))))) (impl_areFinite_P2 b1 f1 g23 lists_a lists_e lists_n t9 x1_a x1_e x1_n t2_2 t15 g6 g16 g17 g18 g19 g20 g21 g22) H R =
  (Br (decide ((t15 : Int) < (x1_n : Int))) ((0 : Int) ≤ t15 ∧ t15 < (x1_n : Int) ∧ ∃ b2 f2, (x1_a : Option Addr) = some ⟨b2, f2, none⟩ ∧ ∃ x2 : Nat,  rdC H b2 (f2 + (t15 : Int).toNat * 1) = some (.float .f32 x2) ∧ T_impl_IsFinite x2 H fun (r1 : Bool) (H1 : AHeap) => Br (!r1) (R .ret [.slice lists_a lists_n lists_e, undef, .bool false, undef, .slice x1_a x1_n x1_e, undef, .float .f32 x2, .slice lists_a lists_n lists_e, .int .i64 (lists_n : Int), .int .i64 t9, .bool (decide ((t9 : Int) < (lists_n : Int))), .pointer (some ⟨b1, f1 + (t9 : Int).toNat * 1, none⟩), .slice x1_a x1_n x1_e, .slice x1_a x1_n x1_e, .int .i64 (x1_n : Int), .int .i64 t15, .bool (decide ((t15 : Int) < (x1_n : Int))), .pointer (some ⟨b2, f2 + (t15 : Int).toNat * 1, none⟩), .float .f32 x2, .float .f32 x2, .bool r1, .bool (!r1), g22, g23] H1) (R .normal [.slice lists_a lists_n lists_e, undef, .bool t2_2, undef, .slice x1_a x1_n x1_e, undef, .float .f32 x2, .slice lists_a lists_n lists_e, .int .i64 (lists_n : Int), .int .i64 t9, .bool (decide ((t9 : Int) < (lists_n : Int))), .pointer (some ⟨b1, f1 + (t9 : Int).toNat * 1, none⟩), .slice x1_a x1_n x1_e, .slice x1_a x1_n x1_e, .int .i64 (x1_n : Int), .int .i64 (IntKind.wrap .i64 (t15 + 1)), .bool (decide ((t15 : Int) < (x1_n : Int))), .pointer (some ⟨b2, f2 + (t15 : Int).toNat * 1, none⟩), .float .f32 x2, .float .f32 x2, .bool r1, .bool (!r1), .int .i64 (IntKind.wrap .i64 (t15 + 1)), g23] H1)) (R (.exit 2) [.slice lists_a lists_n lists_e, undef, .bool t2_2, undef, .slice x1_a x1_n x1_e, undef, g6, .slice lists_a lists_n lists_e, .int .i64 (lists_n : Int), .int .i64 t9, .bool (decide ((t9 : Int) < (lists_n : Int))), .pointer (some ⟨b1, f1 + (t9 : Int).toNat * 1, none⟩), .slice x1_a x1_n x1_e, .slice x1_a x1_n x1_e, .int .i64 (x1_n : Int), .int .i64 t15, .bool (decide ((t15 : Int) < (x1_n : Int))), g17, g18, g19, g20, g21, g22, g23] H)) := by kernel_rfl
def impl_areFinite_I2 (b1 : Nat) (f1 : Nat) (g23 : Value) (lists_a : Option Addr) (lists_e : Nat) (lists_n : Nat) (t9 : Int) (x1_a : Option Addr) (x1_e : Nat) (x1_n : Nat) (Inv : Nat → Bool → Int → AHeap → Prop) : Nat → List Value → AHeap → Prop := fun μ tm H => ∃ (t2_2 : Bool), ∃ (t15 : Int), ∃ g6 g16 g17 g18 g19 g20 g21 g22, tm = (impl_areFinite_P2 b1 f1 g23 lists_a lists_e lists_n t9 x1_a x1_e x1_n t2_2 t15 g6 g16 g17 g18 g19 g20 g21 g22) ∧ Inv μ t2_2 t15 H
theorem impl_areFinite_L2 (b1 : Nat) (f1 : Nat) (g23 : Value) (lists_a : Option Addr) (lists_e : Nat) (lists_n : Nat) (t9 : Int) (x1_a : Option Addr) (x1_e : Nat) (x1_n : Nat) {Q : Post} (Inv : Nat → Bool → Int → AHeap → Prop) (ν : Nat) (t2_2 : Bool) (t15 : Int) (g6 g16 g17 g18 g19 g20 g21 g22 : Value) (H : AHeap) (h0 : Inv ν t2_2 t15 H)
    (hs : ∀ (μ : Nat) (t2_2 : Bool) (t15 : Int) (g6 g16 g17 g18 g19 g20 g21 g22 : Value) (H : AHeap), Inv μ t2_2 t15 H → exK Try.prog E_impl_areFinite (cl (cl (cr (cr (cl (cl (cr (cr (cl (cl (cr (cl (cr (bodyC Try.f81)))))))))))))) (impl_areFinite_P2 b1 f1 g23 lists_a lists_e lists_n t9 x1_a x1_e x1_n t2_2 t15 g6 g16 g17 g18 g19 g20 g21 g22) H (loopQ (impl_areFinite_I2 b1 f1 g23 lists_a lists_e lists_n t9 x1_a x1_e x1_n Inv) μ Q)) : loopK (exK Try.prog E_impl_areFinite (cl (cl (cr (cr (cl (cl (cr (cr (cl (cl (cr (cl (cr (bodyC Try.f81))))))))))))))) (impl_areFinite_P2 b1 f1 g23 lists_a lists_e lists_n t9 x1_a x1_e x1_n t2_2 t15 g6 g16 g17 g18 g19 g20 g21 g22) H Q :=
  ⟨impl_areFinite_I2 b1 f1 g23 lists_a lists_e lists_n t9 x1_a x1_e x1_n Inv, ν, ⟨t2_2, t15, g6, g16, g17, g18, g19, g20, g21, g22, rfl, h0⟩, fun μ tm H h => by obtain ⟨t2_2, t15, g6, g16, g17, g18, g19, g20, g21, g22, rfl, hI⟩ := h; exact hs μ t2_2 t15 g6 g16 g17 g18 g19 g20 g21 g22 H hI⟩
theorem impl_areFinite_n2 {b1 : Nat} {f1 : Nat} {g23 : Value} {lists_a : Option Addr} {lists_e : Nat} {lists_n : Nat} {t9 : Int} {x1_a : Option Addr} {x1_e : Nat} {x1_n : Nat} {Q : Post} {Inv : Nat → Bool → Int → AHeap → Prop} {μ : Nat} (μ' : Nat) {t2_2 : Bool} {t15 : Int} {g6 g16 g17 g18 g19 g20 g21 g22 : Value} {H : AHeap} (hm : μ' < μ) (hI : Inv μ' t2_2 t15 H) : loopQ (impl_areFinite_I2 b1 f1 g23 lists_a lists_e lists_n t9 x1_a x1_e x1_n Inv) μ Q .normal (impl_areFinite_P2 b1 f1 g23 lists_a lists_e lists_n t9 x1_a x1_e x1_n t2_2 t15 g6 g16 g17 g18 g19 g20 g21 g22) H := ⟨μ', hm, t2_2, t15, g6, g16, g17, g18, g19, g20, g21, g22, rfl, hI⟩
theorem impl_areFinite_x2_2 (b1 : Nat) (f1 : Nat) (g23 : Value) (lists_a : Option Addr) (lists_e : Nat) (lists_n : Nat) (t9 : Int) (x1_a : Option Addr) (x1_e : Nat) (x1_n : Nat) (t2_2 : Bool) (t15 : Int) (g6 g16 g17 g18 g19 g20 g21 g22 : Value) (H : AHeap)  (R : Post) {I : Nat → List Value → AHeap → Prop} {μ : Nat} : loopQ I μ (blockQ 2 (blockQ 1 (seqQ (exK Try.prog E_impl_areFinite (cr (cr (cr (cl (cl (cr (cl (cr (bodyC Try.f81)))))))))) (R)))) (.exit 2) (impl_areFinite_P2 b1 f1 g23 lists_a lists_e lists_n t9 x1_a x1_e x1_n t2_2 t15 g6 g16 g17 g18 g19 g20 g21 g22) H =
  (R .normal [.slice lists_a lists_n lists_e, undef, .bool t2_2, undef, .slice x1_a x1_n x1_e, undef, g6, .slice lists_a lists_n lists_e, .int .i64 (lists_n : Int), .int .i64 (IntKind.wrap .i64 (t9 + 1)), .bool (decide ((t9 : Int) < (lists_n : Int))), .pointer (some ⟨b1, f1 + (t9 : Int).toNat * 1, none⟩), .slice x1_a x1_n x1_e, .slice x1_a x1_n x1_e, .int .i64 (x1_n : Int), .int .i64 t15, g16, g17, g18, g19, g20, g21, g22, .int .i64 (IntKind.wrap .i64 (t9 + 1))] H) := by kernel_rfl
theorem impl_areFinite_x2_ret (b1 : Nat) (f1 : Nat) (g23 : Value) (lists_a : Option Addr) (lists_e : Nat) (lists_n : Nat) (t9 : Int) (x1_a : Option Addr) (x1_e : Nat) (x1_n : Nat) (t2_2 : Bool) (t15 : Int) (g6 g16 g17 g18 g19 g20 g21 g22 : Value) (H : AHeap)  (R : Post) {I : Nat → List Value → AHeap → Prop} {μ : Nat} : loopQ I μ (blockQ 2 (blockQ 1 (seqQ (exK Try.prog E_impl_areFinite (cr (cr (cr (cl (cl (cr (cl (cr (bodyC Try.f81)))))))))) (R)))) .ret (impl_areFinite_P2 b1 f1 g23 lists_a lists_e lists_n t9 x1_a x1_e x1_n t2_2 t15 g6 g16 g17 g18 g19 g20 g21 g22) H =
  (R .ret [.slice lists_a lists_n lists_e, undef, .bool t2_2, undef, .slice x1_a x1_n x1_e, undef, g6, .slice lists_a lists_n lists_e, .int .i64 (lists_n : Int), .int .i64 t9, .bool (decide ((t9 : Int) < (lists_n : Int))), .pointer (some ⟨b1, f1 + (t9 : Int).toNat * 1, none⟩), .slice x1_a x1_n x1_e, .slice x1_a x1_n x1_e, .int .i64 (x1_n : Int), .int .i64 t15, g16, g17, g18, g19, g20, g21, g22, g23] H) := by kernel_rfl
theorem E_impl_areFinite_ok : ∀ g, FnOk Try.prog g (E_impl_areFinite g) := FnOk.envOf (by
  intro x hx
  simp only [List.mem_cons, List.not_mem_nil, or_false] at hx
  subst hx; exact impl_IsFinite_ok)
set_option maxHeartbeats 1000000 in
theorem impl_areFinite_main (lists_a : Option Addr) (lists_n : Nat) (lists_e : Nat) (H : AHeap) (K : Value → AHeap → Prop) (h : T_impl_areFinite lists_a lists_n lists_e H fun (r1 : Bool) (H' : AHeap) => K (.bool r1) H') : bodyK Try.prog E_impl_areFinite Try.f81 [.slice lists_a lists_n lists_e] H K := by
  rw [impl_areFinite_vc]
  obtain ⟨l_lists, i_lists, bd_22, bb_l_lists, hk⟩ := h
  obtain rfl := i_lists.eqn
  have e : (p_impl_areFinite l_lists) = _ := rfl
  have e := e.trans (p_impl_areFinite_eq l_lists)
  have g0 := Grow.refl H
  refine impl_areFinite_L1 _ _ _ (fun (μ : Nat) (t2 : Bool) (t9 : Int) (H_1 : AHeap) => H = H_1 ∧ (0 : Int) ≤ t9 ∧ t9 ≤ (l_lists.length : Int) ∧ (l_lists.length : Int) - t9 ≤ (μ : Int) ∧ p_impl_areFinite l_lists = p_impl_areFinite_l1 l_lists (μ + 1) t2 t9) (Int.toNat ((l_lists.length : Int) - (0 : Int))) _ _ _ _ _ _ _ _ _ _ _ _ _ _ _ _ _ _ H ?_ ?_
  · exact ⟨rfl, o6, o6, o3, e⟩
  · intro μ t2 t9 g4 g6 g10 g11 g12 g13 g14 g15 g16 g17 g18 g19 g20 g21 g22 g23 H_1 hI
    obtain ⟨rfl, v_1, v_2, hμ, e⟩ := hI
    rw [impl_areFinite_r1]
    have e := e.trans (p_impl_areFinite_l1_s l_lists μ t2 t9)
    have l_3 := g0.1
    refine Br.intro (fun c_4 => ?_) (fun c_4 => ?_)
    · have e := e.trans (cond_t c_4)
      have c_4' := of_decide_eq_true c_4
      obtain ⟨b_5, f_6, q_7⟩ := ((i_lists.grow g0)).pos o0
      refine ⟨by omega, by omega, b_5, f_6, q_7, ?_⟩
      obtain ⟨a_8, n_9, e_10, r_11, i_12⟩ := (i_lists).rd (i := (t9 : Int).toNat) g0 q_7 o3
      obtain rfl := i_12.eqn
      refine ⟨a_8, _, e_10, r_11, ?_⟩
      have z_13 := getD_len bb_l_lists (t9 : Int).toNat
      refine impl_areFinite_L2 _ _ _ _ _ _ _ _ _ _ (fun (μ2 : Nat) (t2_2 : Bool) (t15 : Int) (H_2 : AHeap) => H = H_2 ∧ (0 : Int) ≤ t15 ∧ t15 ≤ ((((l_lists).getD (t9 : Int).toNat [])).length : Int) ∧ ((((l_lists).getD (t9 : Int).toNat [])).length : Int) - t15 ≤ (μ2 : Int) ∧ p_impl_areFinite l_lists = p_impl_areFinite_l2 l_lists t2 t9 (fun (t2_2 : Bool) (t15 : Int) => (p_impl_areFinite_l1 l_lists μ t2_2 (t9 + 1))) (μ2 + 1) t2_2 t15) (Int.toNat (((((l_lists).getD (t9 : Int).toNat [])).length : Int) - (0 : Int))) _ _ _ _ _ _ _ _ _ _ H ?_ ?_
      · exact ⟨rfl, o6, o6, o3, e⟩
      · intro μ2 t2_2 t15 g6 g16 g17 g18 g19 g20 g21 g22 H_2 hI
        obtain ⟨rfl, v_14, v_15, hμ, e⟩ := hI
        rw [impl_areFinite_r2]
        have e := e.trans (p_impl_areFinite_l2_s l_lists t2 t9 (fun (t2_2 : Bool) (t15 : Int) => (p_impl_areFinite_l1 l_lists μ t2_2 (t9 + 1))) μ2 t2_2 t15)
        have l_16 := g0.1
        refine Br.intro (fun c_17 => ?_) (fun c_17 => ?_)
        · have e := e.trans (cond_t c_17)
          have c_17' := of_decide_eq_true c_17
          obtain ⟨b_18, f_19, q_20⟩ := ((i_12.grow g0)).pos o0
          refine ⟨by omega, by omega, b_18, f_19, q_20, ?_⟩
          refine ⟨((((l_lists).getD (t9 : Int).toNat [])).getD (t15 : Int).toNat 0), (i_12).rd g0 q_20 o3 _, ?_⟩
          refine T_impl_IsFinite_i ?_
          refine Br.intro (fun c_21 => ?_) (fun c_21 => ?_)
          · have e := e.trans (cond_t c_21)
            have c_21n := nf_of_t c_21
            rw [impl_areFinite_x2_ret]
            rw [impl_areFinite_x1_ret]
            rw [e] at hk
            exact hk
          · have e := e.trans (cond_f c_21)
            have c_21n := nt_of_f c_21
            rw [show IntKind.wrap .i64 (t15 + 1) = (t15 + 1) from wrap64 o3 o3]
            refine impl_areFinite_n2 (μ2 - 1) o11 ⟨rfl, o1, o1, o11, (by rw [show μ2 - 1 + 1 = μ2 from by first | omega]; exact e)⟩
        · have e := e.trans (cond_f c_17)
          have c_17' := of_decide_eq_false c_17
          rw [impl_areFinite_x2_2]
          rw [show IntKind.wrap .i64 (t9 + 1) = (t9 + 1) from wrap64 o3 o3]
          refine impl_areFinite_n1 (μ - 1) o11 ⟨rfl, o1, o1, o11, (by rw [show μ - 1 + 1 = μ from by first | omega]; exact e)⟩
    · have e := e.trans (cond_f c_4)
      have c_4' := of_decide_eq_false c_4
      rw [impl_areFinite_x1_0]
      rw [e] at hk
      exact hk
theorem impl_areFinite_ok : FnOk Try.prog 81 S_impl_areFinite := by
  refine FnOk.body mix_ok E_impl_areFinite_ok Try.func81 rfl (by kernel_rfl) (by kernel_rfl) ?_ ?_ ?_ ?_ ?_
  · intro args H K K' h hk
    simp only [S_impl_areFinite] at *
    unfold F_impl_areFinite at *
    split at hk
    · obtain ⟨l_lists, i_lists, bd_22, bb_l_lists, k⟩ := hk
      exact ⟨l_lists, i_lists, bd_22, bb_l_lists, h _ _ k⟩
    · exact hk.elim
  · intro _ args H K hk
    simp only [S_impl_areFinite] at *
    unfold F_impl_areFinite at *
    split at hk
    · obtain ⟨l_lists, i_lists, bd_22, bb_l_lists, k⟩ := hk
      exact ⟨_, k, fun K' k' => ⟨l_lists, i_lists, bd_22, bb_l_lists, k'⟩⟩
    · exact hk.elim
  · intro args H K hk
    simp only [S_impl_areFinite] at *
    unfold F_impl_areFinite at *
    split at hk
    · obtain ⟨l_lists, i_lists, bd_22, bb_l_lists, k⟩ := hk
      exact ⟨_, _, k⟩
    · exact hk.elim
  · intro hq; cases hq
  · have mm := @impl_areFinite_main
    revert mm
    generalize bodyK Try.prog E_impl_areFinite Try.f81 = Q
    intro mm args H K hk
    simp only [S_impl_areFinite] at *
    unfold F_impl_areFinite at *
    split at hk
    · exact mm _ _ _ H K hk
    · exact hk.elim

def p_impl_isLong (l_list : List Nat) : Bool := (bif (p_impl_within (l_list.length : Int) (1 : Int) (128 : Int)) then (p_impl_areFinite ([l_list])) else false)
def p_impl_isLong_eq := @p_impl_isLong.eq_1
def T_impl_isLong (list_a : Option Addr) (list_n : Nat) (list_e : Nat) (H : AHeap) (K : Bool → AHeap → Prop) : Prop := ∃ (l_list : List Nat), IsL fF H list_a list_n l_list ∧ l_list.length < 1073741824 ∧ ((∀ H' : AHeap, Grow H H' → K (p_impl_isLong l_list) H'))
theorem T_impl_isLong_i {list_a : Option Addr} {list_n : Nat} {list_e : Nat} {H : AHeap} {K : Bool → AHeap → Prop} (h : ∃ (l_list : List Nat), IsL fF H list_a list_n l_list ∧ l_list.length < 1073741824 ∧ ((∀ H' : AHeap, Grow H H' → K (p_impl_isLong l_list) H'))) : T_impl_isLong list_a list_n list_e H K := h
theorem impl_isLong_t {l : List Nat} (h : p_impl_isLong l = true) : 1 ≤ (l.length : Int) ∧ (l.length : Int) ≤ 128 := by
  rw [p_impl_isLong_eq] at h
  cases h1 : p_impl_within (l.length : Int) 1 128
  · rw [h1] at h; cases h
  · exact impl_within_t h1
/-! impl_isLong: function 75 -/
def E_impl_isLong : Env := envOf [(54, S_impl_within), (81, S_impl_areFinite)]
def F_impl_isLong : List Value → AHeap → (Value → AHeap → Prop) → Prop
  | [.slice list_a list_n list_e], H, K => T_impl_isLong list_a list_n list_e H fun (r1 : Bool) (H' : AHeap) => K (.bool r1) H'
  | _, _, _ => False
def S_impl_isLong : FSpec := { F := F_impl_isLong, quiet := false, tame := true }
theorem impl_isLong_vc (list_a : Option Addr) (list_n : Nat) (list_e : Nat) (H : AHeap) (K : Value → AHeap → Prop) : bodyK Try.prog E_impl_isLong Try.f75 [.slice list_a list_n list_e] H K =
  (T_impl_within (list_n : Int) 1 128 H fun (r1 : Bool) (H1 : AHeap) => Br r1 (Al [.slice list_a list_n list_e] H1 fun b1 H2 => T_impl_areFinite (some ⟨b1, 0, none⟩) 1 1 H2 fun (r2 : Bool) (H3 : AHeap) => K (.bool r2) H3) (K (.bool false) H1)) := by kernel_rfl
theorem E_impl_isLong_ok : ∀ g, FnOk Try.prog g (E_impl_isLong g) := FnOk.envOf (by
  intro x hx
  simp only [List.mem_cons, List.not_mem_nil, or_false] at hx
  rcases hx with rfl | rfl
  · exact impl_within_ok
  · exact impl_areFinite_ok)
set_option maxHeartbeats 1000000 in
theorem impl_isLong_main (list_a : Option Addr) (list_n : Nat) (list_e : Nat) (H : AHeap) (K : Value → AHeap → Prop) (h : T_impl_isLong list_a list_n list_e H fun (r1 : Bool) (H' : AHeap) => K (.bool r1) H') : bodyK Try.prog E_impl_isLong Try.f75 [.slice list_a list_n list_e] H K := by
  rw [impl_isLong_vc]
  obtain ⟨l_list, i_list, bd_12, hk⟩ := h
  obtain rfl := i_list.eqn
  have e : (p_impl_isLong l_list) = _ := rfl
  have e := e.trans (p_impl_isLong_eq l_list)
  have g0 := Grow.refl H
  refine T_impl_within_i ?_
  refine Br.intro (fun c_1 => ?_) (fun c_1 => ?_)
  · have e := e.trans (cond_t c_1)
    have c_1' := impl_within_t c_1
    refine Al.intro (fun b_2 H_1 hb_3 hl_4 g_5 o_6 => ?_)
    have l_8 := g_5.1
    have g_9 := g0.trans g_5
    have l_10 := g_9.1
    have w_11 := o_6.lt
    refine T_impl_areFinite_i ⟨[l_list], ⟨_, o_6.rdAll rfl, LLc.cons (i_list.grow g_9) (LLc.nil _ _)⟩, o0, (by first | assumption | (intro y hy; simp only [List.mem_cons, List.not_mem_nil, or_false] at hy; first | omega | (subst hy; omega) | (rcases hy with rfl | rfl <;> omega) | (rcases hy with rfl | rfl | rfl <;> omega))), ?_⟩
    rw [e] at hk
    exact hk  H_1 g_9 
  · have e := e.trans (cond_f c_1)
    rw [e] at hk
    exact hk  H g0 
theorem impl_isLong_ok : FnOk Try.prog 75 S_impl_isLong := by
  refine FnOk.body mix_ok E_impl_isLong_ok Try.func75 rfl (by kernel_rfl) (by kernel_rfl) ?_ ?_ ?_ ?_ ?_
  · intro args H K K' h hk
    simp only [S_impl_isLong] at *
    unfold F_impl_isLong at *
    split at hk
    · obtain ⟨l_list, i_list, bd_12, k⟩ := hk
      exact ⟨l_list, i_list, bd_12, (fun  H' gg  => h _ _ (k  H' gg ))⟩
    · exact hk.elim
  · intro hq; cases hq
  · intro args H K hk
    simp only [S_impl_isLong] at *
    unfold F_impl_isLong at *
    split at hk
    · obtain ⟨l_list, i_list, bd_12, k⟩ := hk
      exact ⟨_, _, k H (Grow.refl H)⟩
    · exact hk.elim
  · intro _ args H K hk
    simp only [S_impl_isLong] at *
    unfold F_impl_isLong at *
    split at hk
    · obtain ⟨l_list, i_list, bd_12, k⟩ := hk
      exact ⟨l_list, i_list, bd_12, (fun  H' gg  => ⟨gg, k  H' gg ⟩)⟩
    · exact hk.elim
  · have mm := @impl_isLong_main
    revert mm
    generalize bodyK Try.prog E_impl_isLong Try.f75 = Q
    intro mm args H K hk
    simp only [S_impl_isLong] at *
    unfold F_impl_isLong at *
    split at hk
    · exact mm _ _ _ H K hk
    · exact hk.elim
def p_impl_isScale (x : Nat) : Bool := (bif fle .f32 1056964608 x then fle .f32 x 1098907648 else false)
def p_impl_isScale_eq := @p_impl_isScale.eq_1
def T_impl_isScale (x : Nat) (H : AHeap) (K : Bool → AHeap → Prop) : Prop := K (p_impl_isScale x) H

theorem T_impl_isScale_i {x : Nat} {H : AHeap} {K : Bool → AHeap → Prop} (h : K (p_impl_isScale x) H) : T_impl_isScale x H K := h
/-! impl_isScale: function 55 -/
def E_impl_isScale : Env := envOf []
def F_impl_isScale : List Value → AHeap → (Value → AHeap → Prop) → Prop
  | [.float .f32 x], H, K => T_impl_isScale x H fun (r1 : Bool) (H' : AHeap) => K (.bool r1) H'
  | _, _, _ => False
def S_impl_isScale : FSpec := { F := F_impl_isScale, quiet := true, tame := false }
theorem impl_isScale_vc (x : Nat) (H : AHeap) (K : Value → AHeap → Prop) : bodyK Try.prog E_impl_isScale Try.f55 [.float .f32 x] H K =
  (Br (fle .f32 1056964608 x) (K (.bool (fle .f32 x 1098907648)) H) (K (.bool false) H)) := by kernel_rfl
theorem E_impl_isScale_ok : ∀ g, FnOk Try.prog g (E_impl_isScale g) := FnOk.envOf (by
  intro x hx; cases hx)
set_option maxHeartbeats 1000000 in
theorem impl_isScale_main (x : Nat) (H : AHeap) (K : Value → AHeap → Prop) (h : T_impl_isScale x H fun (r1 : Bool) (H' : AHeap) => K (.bool r1) H') : bodyK Try.prog E_impl_isScale Try.f55 [.float .f32 x] H K := by
  rw [impl_isScale_vc]
  unfold T_impl_isScale p_impl_isScale at h
  repeat' (first | exact h | (exfalso; simp_all; done) | (refine ⟨by decide, ?_⟩) | (refine Br.intro (fun hb => ?_) (fun hb => ?_) <;> (try simp only [hb, cond_true, cond_false, Bool.not_true, Bool.not_false] at h)))
theorem impl_isScale_ok : FnOk Try.prog 55 S_impl_isScale := by
  refine FnOk.body mix_ok E_impl_isScale_ok Try.func55 rfl (by kernel_rfl) (by kernel_rfl) ?_ ?_ ?_ ?_ ?_
  · intro args H K K' h hk
    simp only [S_impl_isScale] at *
    unfold F_impl_isScale at *
    split at hk
    · have k := hk
      exact h _ _ k
    · exact hk.elim
  · intro _ args H K hk
    simp only [S_impl_isScale] at *
    unfold F_impl_isScale at *
    split at hk
    · have k := hk
      exact ⟨_, k, fun K' k' => k'⟩
    · exact hk.elim
  · intro args H K hk
    simp only [S_impl_isScale] at *
    unfold F_impl_isScale at *
    split at hk
    · have k := hk
      exact ⟨_, _, k⟩
    · exact hk.elim
  · intro hq; cases hq
  · have mm := @impl_isScale_main
    revert mm
    generalize bodyK Try.prog E_impl_isScale Try.f55 = Q
    intro mm args H K hk
    simp only [S_impl_isScale] at *
    unfold F_impl_isScale at *
    split at hk
    · exact mm _ H K hk
    · exact hk.elim
end Go.Proofs.Ytghkkclonabpkab.Ai
