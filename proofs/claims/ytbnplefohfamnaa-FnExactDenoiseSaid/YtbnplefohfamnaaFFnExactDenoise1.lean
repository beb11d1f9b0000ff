/- What functions of the program come to on the abstract machine, and that they do so; printed by a program of mine around proofs of mine. -/
import Derived.Test.YtbnplefohfamnaaFFnExactDenoise0
set_option linter.unusedVariables false
set_option linter.unusedSimpArgs false
set_option linter.defProp false
set_option maxRecDepth 100000
set_option maxHeartbeats 1000000
namespace Go.Proofs.Ytbnplefohfamnaa.Ai
open Go
attribute [local irreducible] bodyK bodyL

def p_f13z (aa : LN) : Nat := (((p_f15z aa)).getD ((Int.tdiv (((aa.length : Int) - 1)) 2) : Int).toNat 0)
def p_f13z_eq := @p_f13z.eq_1
def T_f13z (ea : OA) (da : Nat) (ga : Nat) (H : AHeap) (K : Nat → AHeap → Prop) : Prop := ∃ (aa : LN), IsL fF H ea da aa ∧ aa.length < 1073741824 ∧ 0 < aa.length ∧ ((∀ H' : AHeap, Grow H H' → K (p_f13z aa) H'))
theorem T_f13z_i {ea : OA} {da : Nat} {ga : Nat} {H : AHeap} {K : Nat → AHeap → Prop} (h : ∃ (aa : LN), IsL fF H ea da aa ∧ aa.length < 1073741824 ∧ 0 < aa.length ∧ ((∀ H' : AHeap, Grow H H' → K (p_f13z aa) H'))) : T_f13z ea da ga H K := h

/-! f13z: function 171 -/
def E_f13z : Env := envOf [(200, S_f15z)]
def F_f13z : List Value → AHeap → (Value → AHeap → Prop) → Prop
 | [.slice ea da ga], H, K => T_f13z ea da ga H fun (r1 : Nat) (H' : AHeap) => K (.float .f32 r1) H'
 | _, _, _ => False
def S_f13z : FSpec := { F := F_f13z, quiet := false, tame := true }
theorem f13z_vc (ea : OA) (da : Nat) (ga : Nat) (H : AHeap) (K : Value → AHeap → Prop) : bodyL Try.prog E_f13z Try.f171 [.slice ea da ga] H K =
 (T_f15z ea da ga H fun (a1 : OA) (r1 : Nat) (r2 : Nat) (H1 : AHeap) => 2 ≠ (0 : Int) ∧ (0 : Int) ≤ IntKind.wrap .i64 (Int.tdiv (IntKind.wrap .i64 ((da : Int) - 1)) 2) ∧ IntKind.wrap .i64 (Int.tdiv (IntKind.wrap .i64 ((da : Int) - 1)) 2) < (r1 : Int) ∧ ∃ b1 f1, (a1 : OA) = some ⟨b1, f1, none⟩ ∧ ∃ x1 : Nat,  rdC H1 b1 (f1 + (IntKind.wrap .i64 (Int.tdiv (IntKind.wrap .i64 ((da : Int) - 1)) 2) : Int).toNat * 1) = some (.float .f32 x1) ∧ K (.float .f32 x1) H1) := by kernel_rfl
theorem E_f13z_ok : ∀ g, FnOk Try.prog g (E_f13z g) := FnOk.envOf (by
 intro x hx
 simp only [List.mem_cons, List.not_mem_nil, or_false] at hx
 subst hx; exact f15z_ok)
theorem f13z_main (ea : OA) (da : Nat) (ga : Nat) (H : AHeap) (K : Value → AHeap → Prop) (h : T_f13z ea da ga H fun (r1 : Nat) (H' : AHeap) => K (.float .f32 r1) H') : bodyL Try.prog E_f13z Try.f171 [.slice ea da ga] H K := by
 rw [f13z_vc]
 obtain ⟨aa, i_list, bd_17, pr0, hk⟩ := h
 obtain rfl := i_list.eqn
 have e : (p_f13z aa) = _ := rfl
 have e := e.trans (p_f13z_eq aa)
 have g0 := Grow.refl H
 refine T_f15z_i ⟨_, (i_list.grow g0), ω0, fun a_1 n_2 e_3 H_1 g_6 r_4 => ?_⟩
 have z5 := l05Sorted_len aa
 have l7 := g_6.1
 have g8 := g0.trans g_6
 have l9 := g8.1
 obtain rfl := r_4.isL.eqn
 have u10 := r_4.up
 have u11 := r_4.lo
 rw [show IntKind.wrap .i64 ((aa.length : Int) - 1) = ((aa.length : Int) - 1) from wrap64 ω2 ω2]
 have z13 := tdiv_nn (((aa.length : Int) - 1)) 2
 refine ⟨ω25, ?_⟩
 rw [show IntKind.wrap .i64 (Int.tdiv (((aa.length : Int) - 1)) 2) = (Int.tdiv (((aa.length : Int) - 1)) 2) from wrap64 ω2 ω2]
 obtain ⟨b_14, f15, q16⟩ := (r_4.isL).pos ω0
 refine ⟨by omega, by omega, b_14, f15, q16, ?_⟩
 refine ⟨(((p_f15z aa)).getD ((Int.tdiv (((aa.length : Int) - 1)) 2) : Int).toNat 0), (r_4.isL).rd (Grow.refl _) q16 ω2 _, ?_⟩
 rw [e] at hk
 exact hk  H_1 g8 
theorem f13z_ok : FnOk Try.prog 171 S_f13z := by
 refine FnOk.body mix_ok E_f13z_ok Try.func171 rfl ω15 ω15 ?_ ?_ ?_ ?_ ?_
 ·intro args H K K' h hk
  simp only [S_f13z] at *
  unfold F_f13z at *
  split at hk
  ·obtain ⟨aa, i_list, bd_17, pr0, k⟩ := hk
   exact ⟨aa, i_list, bd_17, pr0, (fun  H' gg  => h _ _ (k  H' gg ))⟩
  ·exact hk.elim
 ·intro hq; cases hq
 ·intro args H K hk
  simp only [S_f13z] at *
  unfold F_f13z at *
  split at hk
  ·obtain ⟨aa, i_list, bd_17, pr0, k⟩ := hk
   exact ⟨_, _, k H (Grow.refl H)⟩
  ·exact hk.elim
 ·intro _ args H K hk
  simp only [S_f13z] at *
  unfold F_f13z at *
  split at hk
  ·obtain ⟨aa, i_list, bd_17, pr0, k⟩ := hk
   exact ⟨aa, i_list, bd_17, pr0, (fun  H' gg  => ⟨gg, k  H' gg ⟩)⟩
  ·exact hk.elim
 ·have mm := @f13z_main
  have ml := fun (args : List Value) (H : AHeap) (K : Value → AHeap → Prop) => bodyL_body (P := Try.prog) (env := E_f13z ) (fn := Try.f171) (args := args) (H := H) (K := K) E_f13z_ok 
  revert mm ml
  generalize bodyK Try.prog E_f13z Try.f171 = Q
  generalize bodyL Try.prog E_f13z Try.f171 = QL
  intro mm ml args H K hk
  simp only [S_f13z] at *
  unfold F_f13z at *
  split at hk
  ·exact ml _ H K (mm _ _ _ H K hk)
  ·exact hk.elim

def p_f1bz (ab : LN) (la : List LN) : Nat := fdiv .f32 ((p_f13z ((p_f1cz (((la).getD (0 : Int).toNat [])) 0)))) 1059892232
def p_f1bz_eq := @p_f1bz.eq_1
def T_f1bz (b : Nat) (H : AHeap) (K : Nat → AHeap → Prop) : Prop := ∃ (yb : OA), ∃ (cc : Nat), ∃ (fc : Nat), ∃ (pb : OA), ∃ (wb : Nat), ∃ (rb : Nat), ∃ (ab : LN), ∃ (la : List LN), rdN H b 0 2 = some [.slice yb cc fc, .slice pb wb rb] ∧ IsL fF H yb cc ab ∧ IsLL fF H pb wb la ∧ ab.length < 1073741824 ∧ la.length < 1073741824 ∧ (∀ y ∈ la, y.length < 1073741824) ∧ 1 ≤ la.length ∧ 1 ≤ (la.getD (0 : Int).toNat []).length ∧ ((∀ H' : AHeap, Grow H H' → K (p_f1bz ab la) H'))
theorem T_f1bz_i {b : Nat} {H : AHeap} {K : Nat → AHeap → Prop} (h : ∃ (yb : OA), ∃ (cc : Nat), ∃ (fc : Nat), ∃ (pb : OA), ∃ (wb : Nat), ∃ (rb : Nat), ∃ (ab : LN), ∃ (la : List LN), rdN H b 0 2 = some [.slice yb cc fc, .slice pb wb rb] ∧ IsL fF H yb cc ab ∧ IsLL fF H pb wb la ∧ ab.length < 1073741824 ∧ la.length < 1073741824 ∧ (∀ y ∈ la, y.length < 1073741824) ∧ 1 ≤ la.length ∧ 1 ≤ (la.getD (0 : Int).toNat []).length ∧ ((∀ H' : AHeap, Grow H H' → K (p_f1bz ab la) H'))) : T_f1bz b H K := h

/-! f1bz: function 114 -/
def E_f1bz : Env := envOf [(172, S_f1cz), (171, S_f13z)]
def F_f1bz : List Value → AHeap → (Value → AHeap → Prop) → Prop
 | [.pointer (some ⟨b, 0, none⟩)], H, K => T_f1bz b H fun (r1 : Nat) (H' : AHeap) => K (.float .f32 r1) H'
 | _, _, _ => False
def S_f1bz : FSpec := { F := F_f1bz, quiet := false, tame := true }
theorem f1bz_vc (b : Nat) (H : AHeap) (K : Value → AHeap → Prop) : bodyL Try.prog E_f1bz Try.f114 [.pointer (some ⟨b, 0, none⟩)] H K =
 (∃ sc : OA, ∃ bb : Nat, ∃ tc : Nat,  rdC H b 1 = some (.slice sc bb tc) ∧ (0 : Int) ≤ 0 ∧ 0 < (bb : Int) ∧ ∃ b1 f1, (sc : OA) = some ⟨b1, f1, none⟩ ∧ ∃ oe : OA, ∃ je : Nat, ∃ te : Nat,  rdC H b1 (f1 + (0 : Int).toNat * 1) = some (.slice oe je te) ∧ T_f1cz oe je te 0 H fun (a1 : OA) (r1 : Nat) (r2 : Nat) (H1 : AHeap) => T_f13z a1 r1 r2 H1 fun (r3 : Nat) (H2 : AHeap) => K (.float .f32 (fdiv .f32 r3 1059892232)) H2) := by kernel_rfl
theorem E_f1bz_ok : ∀ g, FnOk Try.prog g (E_f1bz g) := FnOk.envOf (by
 intro x hx
 simp only [List.mem_cons, List.not_mem_nil, or_false] at hx
 rcases hx with rfl | rfl
 ·exact f1cz_ok
 ·exact f13z_ok)
theorem f1bz_main (b : Nat) (H : AHeap) (K : Value → AHeap → Prop) (h : T_f1bz b H fun (r1 : Nat) (H' : AHeap) => K (.float .f32 r1) H') : bodyL Try.prog E_f1bz Try.f114 [.pointer (some ⟨b, 0, none⟩)] H K := by
 rw [f1bz_vc]
 obtain ⟨yb, cc, fc, pb, wb, rb, ab, la, i_b, i_bp_Coarse, i_bp_Details, bd_27, bd_28, bb_l_bp_Details, pr0, pr1, hk⟩ := h
 obtain rfl := i_bp_Coarse.eqn
 obtain rfl := i_bp_Details.eqn
 have e : (p_f1bz ab la) = _ := rfl
 have e := e.trans (p_f1bz_eq ab la)
 have g0 := Grow.refl H
 refine ⟨pb, la.length, rb, (rdN_at (rdN_grow g0 i_b) 1 (Nat.le_of_ble_eq_true rfl)).trans rfl, ?_⟩
 obtain ⟨b_1, f_2, q_3⟩ := ((i_bp_Details.grow g0)).pos ω0
 refine ⟨by omega, by omega, b_1, f_2, q_3, ?_⟩
 obtain ⟨a_4, n_5, e6, r_7, i_8⟩ := (i_bp_Details).rd (i := (0 : Int).toNat) g0 q_3 ω2
 obtain rfl := i_8.eqn
 refine ⟨a_4, _, e6, r_7, ?_⟩
 have z9 := getD_len bb_l_bp_Details (0 : Int).toNat
 refine T_f1cz_i ⟨_, (i_8.grow g0), ω0, fun a_10 n11 e12 H_1 g15 r_13 => ?_⟩
 have z14 := l05Sizes_len (((la).getD (0 : Int).toNat [])) 0
 have l16 := g15.1
 have g17 := g0.trans g15
 have l18 := g17.1
 obtain rfl := r_13.isL.eqn
 have u19 := r_13.up
 have u20 := r_13.lo
 refine T_f13z_i ⟨_, r_13.isL, ω0, ω4, fun  H_2 g22  => ?_⟩
 have l23 := g22.1
 have g24 := g17.trans g22
 have l25 := g24.1
 have r_26 := r_13.grow g22
 rw [e] at hk
 exact hk  H_2 g24 
theorem f1bz_ok : FnOk Try.prog 114 S_f1bz := by
 refine FnOk.body mix_ok E_f1bz_ok Try.func114 rfl ω15 ω15 ?_ ?_ ?_ ?_ ?_
 ·intro args H K K' h hk
  simp only [S_f1bz] at *
  unfold F_f1bz at *
  split at hk
  ·obtain ⟨yb, cc, fc, pb, wb, rb, ab, la, i_b, i_bp_Coarse, i_bp_Details, bd_27, bd_28, bb_l_bp_Details, pr0, pr1, k⟩ := hk
   exact ⟨yb, cc, fc, pb, wb, rb, ab, la, i_b, i_bp_Coarse, i_bp_Details, bd_27, bd_28, bb_l_bp_Details, pr0, pr1, (fun  H' gg  => h _ _ (k  H' gg ))⟩
  ·exact hk.elim
 ·intro hq; cases hq
 ·intro args H K hk
  simp only [S_f1bz] at *
  unfold F_f1bz at *
  split at hk
  ·obtain ⟨yb, cc, fc, pb, wb, rb, ab, la, i_b, i_bp_Coarse, i_bp_Details, bd_27, bd_28, bb_l_bp_Details, pr0, pr1, k⟩ := hk
   exact ⟨_, _, k H (Grow.refl H)⟩
  ·exact hk.elim
 ·intro _ args H K hk
  simp only [S_f1bz] at *
  unfold F_f1bz at *
  split at hk
  ·obtain ⟨yb, cc, fc, pb, wb, rb, ab, la, i_b, i_bp_Coarse, i_bp_Details, bd_27, bd_28, bb_l_bp_Details, pr0, pr1, k⟩ := hk
   exact ⟨yb, cc, fc, pb, wb, rb, ab, la, i_b, i_bp_Coarse, i_bp_Details, bd_27, bd_28, bb_l_bp_Details, pr0, pr1, (fun  H' gg  => ⟨gg, k  H' gg ⟩)⟩
  ·exact hk.elim
 ·have mm := @f1bz_main
  have ml := fun (args : List Value) (H : AHeap) (K : Value → AHeap → Prop) => bodyL_body (P := Try.prog) (env := E_f1bz ) (fn := Try.f114) (args := args) (H := H) (K := K) E_f1bz_ok 
  revert mm ml
  generalize bodyK Try.prog E_f1bz Try.f114 = Q
  generalize bodyL Try.prog E_f1bz Try.f114 = QL
  intro mm ml args H K hk
  simp only [S_f1bz] at *
  unfold F_f1bz at *
  split at hk
  ·exact ml _ H K (mm _ H K hk)
  ·exact hk.elim
def p_f11z (x : Nat) : Nat × Bool := (bif !(p_fyz x) then (0, false) else (x, true))
def T_f11z (x : Nat) (H : AHeap) (K : Nat → Bool → AHeap → Prop) : Prop := K (p_f11z x).1 (p_f11z x).2 H

theorem T_f11z_i {x : Nat} {H : AHeap} {K : Nat → Bool → AHeap → Prop} (h : K (p_f11z x).1 (p_f11z x).2 H) : T_f11z x H K := h
/-! f11z: function 113 -/
def E_f11z : Env := envOf [(155, S_fyz)]
def F_f11z : List Value → AHeap → (Value → AHeap → Prop) → Prop
 | [.float .f32 x], H, K => T_f11z x H fun (r1 : Nat) (r2 : Bool) (H' : AHeap) => K (.tuple #[.float .f32 r1, .bool r2]) H'
 | _, _, _ => False
def S_f11z : FSpec := { F := F_f11z, quiet := true, tame := false }
theorem f11z_vc (x : Nat) (H : AHeap) (K : Value → AHeap → Prop) : bodyL Try.prog E_f11z Try.f113 [.float .f32 x] H K =
 (T_fyz x H fun (r1 : Bool) (H1 : AHeap) => Br (!r1) (K (.tuple #[.float .f32 0, .bool false]) H1) (K (.tuple #[.float .f32 x, .bool true]) H1)) := by kernel_rfl
theorem E_f11z_ok : ∀ g, FnOk Try.prog g (E_f11z g) := FnOk.envOf (by
 intro x hx
 simp only [List.mem_cons, List.not_mem_nil, or_false] at hx
 subst hx; exact fyz_ok)
theorem f11z_main (x : Nat) (H : AHeap) (K : Value → AHeap → Prop) (h : T_f11z x H fun (r1 : Nat) (r2 : Bool) (H' : AHeap) => K (.tuple #[.float .f32 r1, .bool r2]) H') : bodyL Try.prog E_f11z Try.f113 [.float .f32 x] H K := by
 rw [f11z_vc]
 simp only [T_fyz]
 unfold T_f11z p_f11z at h
 repeat' (first | exact h | (exfalso; simp_all; done) | (refine ⟨by decide, ?_⟩) | (refine Br.intro (fun hb => ?_) (fun hb => ?_) <;> (try simp only [hb, cond_true, cond_false, Bool.not_true, Bool.not_false] at h)))
theorem f11z_ok : FnOk Try.prog 113 S_f11z := by
 refine FnOk.body mix_ok E_f11z_ok Try.func113 rfl ω15 ω15 ?_ ?_ ?_ ?_ ?_
 ·intro args H K K' h hk
  simp only [S_f11z] at *
  unfold F_f11z at *
  split at hk
  ·have k := hk
   exact h _ _ k
  ·exact hk.elim
 ·intro _ args H K hk
  simp only [S_f11z] at *
  unfold F_f11z at *
  split at hk
  ·have k := hk
   exact ⟨_, k, fun K' k' => k'⟩
  ·exact hk.elim
 ·intro args H K hk
  simp only [S_f11z] at *
  unfold F_f11z at *
  split at hk
  ·have k := hk
   exact ⟨_, _, k⟩
  ·exact hk.elim
 ·intro hq; cases hq
 ·have mm := @f11z_main
  have ml := fun (args : List Value) (H : AHeap) (K : Value → AHeap → Prop) => bodyL_body (P := Try.prog) (env := E_f11z ) (fn := Try.f113) (args := args) (H := H) (K := K) E_f11z_ok 
  revert mm ml
  generalize bodyK Try.prog E_f11z Try.f113 = Q
  generalize bodyL Try.prog E_f11z Try.f113 = QL
  intro mm ml args H K hk
  simp only [S_f11z] at *
  unfold F_f11z at *
  split at hk
  ·exact ml _ H K (mm _ H K hk)
  ·exact hk.elim

def p_f1iz (fa : LN) (ca : List LN) : Nat × Bool := (bif !(p_f1az fa ca) then (0, false) else ((p_f11z (p_f1bz fa ca)).1, (p_f11z (p_f1bz fa ca)).2))
def p_f1iz_eq := @p_f1iz.eq_1
def T_f1iz (ta : OA) (xa : Nat) (va : Nat) (qa : OA) (ua : Nat) (sa : Nat) (H : AHeap) (K : Nat → Bool → AHeap → Prop) : Prop := ∃ (fa : LN), ∃ (ca : List LN), IsL fF H ta xa fa ∧ IsLL fF H qa ua ca ∧ fa.length < 1073741824 ∧ ca.length < 1073741824 ∧ (∀ y ∈ ca, y.length < 1073741824) ∧ ((∀ H' : AHeap, Grow H H' → K ((p_f1iz fa ca).1) ((p_f1iz fa ca).2) H'))
theorem T_f1iz_i {ta : OA} {xa : Nat} {va : Nat} {qa : OA} {ua : Nat} {sa : Nat} {H : AHeap} {K : Nat → Bool → AHeap → Prop} (h : ∃ (fa : LN), ∃ (ca : List LN), IsL fF H ta xa fa ∧ IsLL fF H qa ua ca ∧ fa.length < 1073741824 ∧ ca.length < 1073741824 ∧ (∀ y ∈ ca, y.length < 1073741824) ∧ ((∀ H' : AHeap, Grow H H' → K ((p_f1iz fa ca).1) ((p_f1iz fa ca).2) H'))) : T_f1iz ta xa va qa ua sa H K := h

/-! f1iz: function 28 -/
def E_f1iz : Env := envOf [(112, S_f1az), (114, S_f1bz), (113, S_f11z)]
def F_f1iz : List Value → AHeap → (Value → AHeap → Prop) → Prop
 | [.agg ⟨[.slice ta xa va, .slice qa ua sa]⟩], H, K => T_f1iz ta xa va qa ua sa H fun (r1 : Nat) (r2 : Bool) (H' : AHeap) => K (.tuple #[.float .f32 r1, .bool r2]) H'
 | _, _, _ => False
def S_f1iz : FSpec := { F := F_f1iz, quiet := false, tame := true }
theorem f1iz_vc (ta : OA) (xa : Nat) (va : Nat) (qa : OA) (ua : Nat) (sa : Nat) (H : AHeap) (K : Value → AHeap → Prop) : bodyL Try.prog E_f1iz Try.f28 [.agg #[.slice ta xa va, .slice qa ua sa]] H K =
 (Al [.slice ta xa va, .slice qa ua sa] H fun b1 H1 => T_f1az b1 H1 fun (r1 : Bool) (H2 : AHeap) => Br (!r1) (K (.tuple #[.float .f32 0, .bool false]) H2) (T_f1bz b1 H2 fun (r2 : Nat) (H3 : AHeap) => T_f11z r2 H3 fun (r3 : Nat) (r4 : Bool) (H4 : AHeap) => K (.tuple #[.float .f32 r3, .bool r4]) H4)) := by kernel_rfl
theorem E_f1iz_ok : ∀ g, FnOk Try.prog g (E_f1iz g) := FnOk.envOf (by
 intro x hx
 simp only [List.mem_cons, List.not_mem_nil, or_false] at hx
 rcases hx with rfl | rfl | rfl
 ·exact f1az_ok
 ·exact f1bz_ok
 ·exact f11z_ok)
theorem ω6 {P : Prop} (h : P := by first | assumption | exact or_right (by assumption) (by omega) | exact or_right (by assumption : _ ∧ (_ ∨ _)).2 (by omega) | (intro y hy; simp only [List.mem_cons, List.not_mem_nil, or_false] at hy; first | omega | (subst hy; omega) | (rcases hy with rfl | rfl <;> omega) | (rcases hy with rfl | rfl | rfl <;> omega))) : P := h
theorem f1iz_main (ta : OA) (xa : Nat) (va : Nat) (qa : OA) (ua : Nat) (sa : Nat) (H : AHeap) (K : Value → AHeap → Prop) (h : T_f1iz ta xa va qa ua sa H fun (r1 : Nat) (r2 : Bool) (H' : AHeap) => K (.tuple #[.float .f32 r1, .bool r2]) H') : bodyL Try.prog E_f1iz Try.f28 [.agg #[.slice ta xa va, .slice qa ua sa]] H K := by
 rw [f1iz_vc]
 obtain ⟨fa, ca, i_b_Coarse, i_b_Details, bd_18, bd_19, bb_l_b_Details, hk⟩ := h
 obtain rfl := i_b_Coarse.eqn
 obtain rfl := i_b_Details.eqn
 have e : (p_f1iz fa ca) = _ := rfl
 have e := e.trans (p_f1iz_eq fa ca)
 have g0 := Grow.refl H
 refine Al.intro (fun b_1 H_1 hb_2 hl_3 g_4 o_5 => ?_)
 have l7 := g_4.1
 have g8 := g0.trans g_4
 have l9 := g8.1
 have w17 := o_5.lt
 refine T_f1az_i ⟨ta, fa.length, va, qa, ca.length, sa, _, ca, ((o_5.rdN (Nat.le_of_ble_eq_true rfl)).trans rfl), (i_b_Coarse.grow g8), (i_b_Details.grow g8), ω0, ω0, ω6, ?_⟩
 refine Br.intro (fun c10 => ?_) (fun c10 => ?_)
 ·have e := e.trans (cond_t c10)
  have c_10n := nf_of_t c10
  rw [e] at hk
  exact hk  H_1 g8 
 ·have e := e.trans (cond_f c10)
  have c_10n := nt_of_f c10
  have c_10n' := f1az_t c_10n
  refine T_f1bz_i ⟨ta, fa.length, va, qa, ca.length, sa, _, ca, ((o_5.rdN (Nat.le_of_ble_eq_true rfl)).trans rfl), (i_b_Coarse.grow g8), (i_b_Details.grow g8), ω0, ω0, ω6, ω4, ω4, fun  H_2 g11  => ?_⟩
  have l12 := g11.1
  have g13 := g8.trans g11
  have l14 := g13.1
  have o15 := o_5.grow g11
  have w16 := o15.lt
  refine T_f11z_i ?_
  rw [e] at hk
  exact hk  H_2 g13 
theorem f1iz_ok : FnOk Try.prog 28 S_f1iz := by
 refine FnOk.body mix_ok E_f1iz_ok Try.func28 rfl ω15 ω15 ?_ ?_ ?_ ?_ ?_
 ·intro args H K K' h hk
  simp only [S_f1iz] at *
  unfold F_f1iz at *
  split at hk
  ·obtain ⟨fa, ca, i_b_Coarse, i_b_Details, bd_18, bd_19, bb_l_b_Details, k⟩ := hk
   exact ⟨fa, ca, i_b_Coarse, i_b_Details, bd_18, bd_19, bb_l_b_Details, (fun  H' gg  => h _ _ (k  H' gg ))⟩
  ·exact hk.elim
 ·intro hq; cases hq
 ·intro args H K hk
  simp only [S_f1iz] at *
  unfold F_f1iz at *
  split at hk
  ·obtain ⟨fa, ca, i_b_Coarse, i_b_Details, bd_18, bd_19, bb_l_b_Details, k⟩ := hk
   exact ⟨_, _, k H (Grow.refl H)⟩
  ·exact hk.elim
 ·intro _ args H K hk
  simp only [S_f1iz] at *
  unfold F_f1iz at *
  split at hk
  ·obtain ⟨fa, ca, i_b_Coarse, i_b_Details, bd_18, bd_19, bb_l_b_Details, k⟩ := hk
   exact ⟨fa, ca, i_b_Coarse, i_b_Details, bd_18, bd_19, bb_l_b_Details, (fun  H' gg  => ⟨gg, k  H' gg ⟩)⟩
  ·exact hk.elim
 ·have mm := @f1iz_main
  have ml := fun (args : List Value) (H : AHeap) (K : Value → AHeap → Prop) => bodyL_body (P := Try.prog) (env := E_f1iz ) (fn := Try.f28) (args := args) (H := H) (K := K) E_f1iz_ok 
  revert mm ml
  generalize bodyK Try.prog E_f1iz Try.f28 = Q
  generalize bodyL Try.prog E_f1iz Try.f28 = QL
  intro mm ml args H K hk
  simp only [S_f1iz] at *
  unfold F_f1iz at *
  split at hk
  ·exact ml _ H K (mm _ _ _ _ _ _ H K hk)
  ·exact hk.elim
def p_f19z (x : Nat) : Bool := (bif (p_fyz x) then fle .f32 0 x else false)
def T_f19z (x : Nat) (H : AHeap) (K : Bool → AHeap → Prop) : Prop := K (p_f19z x) H

theorem T_f19z_i {x : Nat} {H : AHeap} {K : Bool → AHeap → Prop} (h : K (p_f19z x) H) : T_f19z x H K := h
/-! f19z: function 101 -/
def E_f19z : Env := envOf [(155, S_fyz)]
def F_f19z : List Value → AHeap → (Value → AHeap → Prop) → Prop
 | [.float .f32 x], H, K => T_f19z x H fun (r1 : Bool) (H' : AHeap) => K (.bool r1) H'
 | _, _, _ => False
def S_f19z : FSpec := { F := F_f19z, quiet := true, tame := false }
theorem f19z_vc (x : Nat) (H : AHeap) (K : Value → AHeap → Prop) : bodyL Try.prog E_f19z Try.f101 [.float .f32 x] H K =
 (T_fyz x H fun (r1 : Bool) (H1 : AHeap) => Br r1 (K (.bool (fle .f32 0 x)) H1) (K (.bool false) H1)) := by kernel_rfl
theorem E_f19z_ok : ∀ g, FnOk Try.prog g (E_f19z g) := FnOk.envOf (by
 intro x hx
 simp only [List.mem_cons, List.not_mem_nil, or_false] at hx
 subst hx; exact fyz_ok)
theorem f19z_main (x : Nat) (H : AHeap) (K : Value → AHeap → Prop) (h : T_f19z x H fun (r1 : Bool) (H' : AHeap) => K (.bool r1) H') : bodyL Try.prog E_f19z Try.f101 [.float .f32 x] H K := by
 rw [f19z_vc]
 simp only [T_fyz]
 unfold T_f19z p_f19z at h
 repeat' (first | exact h | (exfalso; simp_all; done) | (refine ⟨by decide, ?_⟩) | (refine Br.intro (fun hb => ?_) (fun hb => ?_) <;> (try simp only [hb, cond_true, cond_false, Bool.not_true, Bool.not_false] at h)))
theorem f19z_ok : FnOk Try.prog 101 S_f19z := by
 refine FnOk.body mix_ok E_f19z_ok Try.func101 rfl ω15 ω15 ?_ ?_ ?_ ?_ ?_
 ·intro args H K K' h hk
  simp only [S_f19z] at *
  unfold F_f19z at *
  split at hk
  ·have k := hk
   exact h _ _ k
  ·exact hk.elim
 ·intro _ args H K hk
  simp only [S_f19z] at *
  unfold F_f19z at *
  split at hk
  ·have k := hk
   exact ⟨_, k, fun K' k' => k'⟩
  ·exact hk.elim
 ·intro args H K hk
  simp only [S_f19z] at *
  unfold F_f19z at *
  split at hk
  ·have k := hk
   exact ⟨_, _, k⟩
  ·exact hk.elim
 ·intro hq; cases hq
 ·have mm := @f19z_main
  have ml := fun (args : List Value) (H : AHeap) (K : Value → AHeap → Prop) => bodyL_body (P := Try.prog) (env := E_f19z ) (fn := Try.f101) (args := args) (H := H) (K := K) E_f19z_ok 
  revert mm ml
  generalize bodyK Try.prog E_f19z Try.f101 = Q
  generalize bodyL Try.prog E_f19z Try.f101 = QL
  intro mm ml args H K hk
  simp only [S_f19z] at *
  unfold F_f19z at *
  split at hk
  ·exact ml _ H K (mm _ H K hk)
  ·exact hk.elim
def p_math_Float64frombits (x : Int) : Nat := cn .f64 x.toNat
def T_math_Float64frombits (x : Int) (H : AHeap) (K : Nat → AHeap → Prop) : Prop := K (p_math_Float64frombits x) H
def F_math_Float64frombits : List Value → AHeap → (Value → AHeap → Prop) → Prop
 | [.int .u64 b], H, K => T_math_Float64frombits b H fun r1 H' => K (.float .f64 r1) H'
 | _, _, _ => False
def S_math_Float64frombits : FSpec := { F := F_math_Float64frombits, quiet := true }
theorem F_math_Float64frombits_o {args : List Value} {H : AHeap} {K : Value → AHeap → Prop} (h : S_math_Float64frombits.F args H K) : ∃ x, args = [.int .u64 x] ∧ K (.float .f64 (p_math_Float64frombits x)) H := by
 simp only [S_math_Float64frombits] at h
 unfold F_math_Float64frombits at h
 split at h
 ·exact ⟨_, rfl, h⟩
 ·exact h.elim
theorem math_Float64frombits_ok : FnOk Try.prog 209 S_math_Float64frombits := by
 refine FnOk.ext rfl ?_ ?_ ?_ ?_
 ·intro args H K K' h hk
  obtain ⟨x, rfl, k⟩ := F_math_Float64frombits_o hk
  exact h _ _ k
 ·intro _ args H K hk
  obtain ⟨x, rfl, k⟩ := F_math_Float64frombits_o hk
  exact ⟨_, k, fun K' k' => k'⟩
 ·intro args H K hk
  obtain ⟨x, rfl, k⟩ := F_math_Float64frombits_o hk
  exact ⟨_, _, k⟩
 ·intro ρ w args args' H K ha hk
  obtain ⟨x, rfl, k⟩ := F_math_Float64frombits_o hk
  obtain ⟨y, ys, rfl, h3, h4⟩ := ha.uncons
  obtain rfl := h4.unnil
  cases h3
  refine ⟨_, .float .f64 x.toNat, w, ?_, .refl w, .float .f64 _ _ rfl, k⟩
  have := run_callFunc_extern (e := Extern.MathFloatBits.float64frombits) Try.func209 ω15 ω15 ω15 ω15 #[.int .u64 x] w
  rw [this]; rfl

def p_f2az  : Nat := (p_math_Float64frombits 9221120237041090561)
def T_f2az  (H : AHeap) (K : Nat → AHeap → Prop) : Prop := K (p_f2az) H

theorem T_f2az_i  {H : AHeap} {K : Nat → AHeap → Prop} (h : K (p_f2az) H) : T_f2az  H K := h
/-! f2az: function 187 -/
def E_f2az : Env := envOf [(209, S_math_Float64frombits)]
def F_f2az : List Value → AHeap → (Value → AHeap → Prop) → Prop
 | [], H, K => T_f2az  H fun (r1 : Nat) (H' : AHeap) => K (.float .f64 r1) H'
 | _, _, _ => False
def S_f2az : FSpec := { F := F_f2az, quiet := true, tame := false }
theorem f2az_vc  (H : AHeap) (K : Value → AHeap → Prop) : bodyL Try.prog E_f2az Try.f187 [] H K =
 (T_math_Float64frombits 9221120237041090561 H fun (r1 : Nat) (H1 : AHeap) => K (.float .f64 r1) H1) := by kernel_rfl
theorem E_f2az_ok : ∀ g, FnOk Try.prog g (E_f2az g) := FnOk.envOf (by
 intro x hx
 simp only [List.mem_cons, List.not_mem_nil, or_false] at hx
 subst hx; exact math_Float64frombits_ok)
theorem f2az_main  (H : AHeap) (K : Value → AHeap → Prop) (h : T_f2az  H fun (r1 : Nat) (H' : AHeap) => K (.float .f64 r1) H') : bodyL Try.prog E_f2az Try.f187 [] H K := by
 rw [f2az_vc]
 simp only [T_math_Float64frombits]
 unfold T_f2az p_f2az at h
 repeat' (first | exact h | (exfalso; simp_all; done) | (refine ⟨by decide, ?_⟩) | (refine Br.intro (fun hb => ?_) (fun hb => ?_) <;> (try simp only [hb, cond_true, cond_false, Bool.not_true, Bool.not_false] at h)))
theorem f2az_ok : FnOk Try.prog 187 S_f2az := by
 refine FnOk.body mix_ok E_f2az_ok Try.func187 rfl ω15 ω15 ?_ ?_ ?_ ?_ ?_
 ·intro args H K K' h hk
  simp only [S_f2az] at *
  unfold F_f2az at *
  split at hk
  ·have k := hk
   exact h _ _ k
  ·exact hk.elim
 ·intro _ args H K hk
  simp only [S_f2az] at *
  unfold F_f2az at *
  split at hk
  ·have k := hk
   exact ⟨_, k, fun K' k' => k'⟩
  ·exact hk.elim
 ·intro args H K hk
  simp only [S_f2az] at *
  unfold F_f2az at *
  split at hk
  ·have k := hk
   exact ⟨_, _, k⟩
  ·exact hk.elim
 ·intro hq; cases hq
 ·have mm := @f2az_main
  have ml := fun (args : List Value) (H : AHeap) (K : Value → AHeap → Prop) => bodyL_body (P := Try.prog) (env := E_f2az ) (fn := Try.f187) (args := args) (H := H) (K := K) E_f2az_ok 
  revert mm ml
  generalize bodyK Try.prog E_f2az Try.f187 = Q
  generalize bodyL Try.prog E_f2az Try.f187 = QL
  intro mm ml args H K hk
  simp only [S_f2az] at *
  unfold F_f2az at *
  split at hk
  ·exact ml _ H K (mm  H K hk)
  ·exact hk.elim
def p_f29z (sign : Int) : Nat := (bif decide ((0 : Int) ≤ sign) then (p_math_Float64frombits 9218868437227405312) else (p_math_Float64frombits 18442240474082181120))
def T_f29z (sign : Int) (H : AHeap) (K : Nat → AHeap → Prop) : Prop := K (p_f29z sign) H

theorem T_f29z_i {sign : Int} {H : AHeap} {K : Nat → AHeap → Prop} (h : K (p_f29z sign) H) : T_f29z sign H K := h
/-! f29z: function 186 -/
def E_f29z : Env := envOf [(209, S_math_Float64frombits)]
def F_f29z : List Value → AHeap → (Value → AHeap → Prop) → Prop
 | [.int .i64 sign], H, K => T_f29z sign H fun (r1 : Nat) (H' : AHeap) => K (.float .f64 r1) H'
 | _, _, _ => False
def S_f29z : FSpec := { F := F_f29z, quiet := true, tame := false }
theorem f29z_vc (sign : Int) (H : AHeap) (K : Value → AHeap → Prop) : bodyL Try.prog E_f29z Try.f186 [.int .i64 sign] H K =
 (Br (decide ((0 : Int) ≤ sign)) (T_math_Float64frombits 9218868437227405312 H fun (r1 : Nat) (H1 : AHeap) => K (.float .f64 r1) H1) (T_math_Float64frombits 18442240474082181120 H fun (r2 : Nat) (H2 : AHeap) => K (.float .f64 r2) H2)) := by kernel_rfl
theorem E_f29z_ok : ∀ g, FnOk Try.prog g (E_f29z g) := FnOk.envOf (by
 intro x hx
 simp only [List.mem_cons, List.not_mem_nil, or_false] at hx
 subst hx; exact math_Float64frombits_ok)
theorem f29z_main (sign : Int) (H : AHeap) (K : Value → AHeap → Prop) (h : T_f29z sign H fun (r1 : Nat) (H' : AHeap) => K (.float .f64 r1) H') : bodyL Try.prog E_f29z Try.f186 [.int .i64 sign] H K := by
 rw [f29z_vc]
 simp only [T_math_Float64frombits]
 unfold T_f29z p_f29z at h
 repeat' (first | exact h | (exfalso; simp_all; done) | (refine ⟨by decide, ?_⟩) | (refine Br.intro (fun hb => ?_) (fun hb => ?_) <;> (try simp only [hb, cond_true, cond_false, Bool.not_true, Bool.not_false] at h)))
theorem f29z_ok : FnOk Try.prog 186 S_f29z := by
 refine FnOk.body mix_ok E_f29z_ok Try.func186 rfl ω15 ω15 ?_ ?_ ?_ ?_ ?_
 ·intro args H K K' h hk
  simp only [S_f29z] at *
  unfold F_f29z at *
  split at hk
  ·have k := hk
   exact h _ _ k
  ·exact hk.elim
 ·intro _ args H K hk
  simp only [S_f29z] at *
  unfold F_f29z at *
  split at hk
  ·have k := hk
   exact ⟨_, k, fun K' k' => k'⟩
  ·exact hk.elim
 ·intro args H K hk
  simp only [S_f29z] at *
  unfold F_f29z at *
  split at hk
  ·have k := hk
   exact ⟨_, _, k⟩
  ·exact hk.elim
 ·intro hq; cases hq
 ·have mm := @f29z_main
  have ml := fun (args : List Value) (H : AHeap) (K : Value → AHeap → Prop) => bodyL_body (P := Try.prog) (env := E_f29z ) (fn := Try.f186) (args := args) (H := H) (K := K) E_f29z_ok 
  revert mm ml
  generalize bodyK Try.prog E_f29z Try.f186 = Q
  generalize bodyL Try.prog E_f29z Try.f186 = QL
  intro mm ml args H K hk
  simp only [S_f29z] at *
  unfold F_f29z at *
  split at hk
  ·exact ml _ H K (mm _ H K hk)
  ·exact hk.elim
def T_math_Float64bits (x : Nat) (H : AHeap) (K : Int → AHeap → Prop) : Prop := ∀ b : Nat, cn .f64 b = cn .f64 x → K (b : Int) H
def F_math_Float64bits : List Value → AHeap → (Value → AHeap → Prop) → Prop
 | [.float .f64 x], H, K => T_math_Float64bits x H fun r1 H' => K (.int .u64 r1) H'
 | _, _, _ => False
def S_math_Float64bits : FSpec := { F := F_math_Float64bits, quiet := false }
theorem F_math_Float64bits_o {args : List Value} {H : AHeap} {K : Value → AHeap → Prop} (h : S_math_Float64bits.F args H K) : ∃ x, args = [.float .f64 x] ∧ ∀ b : Nat, cn .f64 b = cn .f64 x → K (.int .u64 (b : Int)) H := by
 simp only [S_math_Float64bits] at h
 unfold F_math_Float64bits at h
 split at h
 ·exact ⟨_, rfl, h⟩
 ·exact h.elim
theorem math_Float64bits_ok : FnOk Try.prog 228 S_math_Float64bits := by
 refine FnOk.ext rfl ?_ ?_ ?_ ?_
 ·intro args H K K' h hk
  obtain ⟨x, rfl, k⟩ := F_math_Float64bits_o hk
  exact fun b hb => h _ _ (k b hb)
 ·intro h; cases h
 ·intro args H K hk
  obtain ⟨x, rfl, k⟩ := F_math_Float64bits_o hk
  exact ⟨_, _, k x rfl⟩
 ·intro ρ w args args' H K ha hk
  obtain ⟨x, rfl, k⟩ := F_math_Float64bits_o hk
  obtain ⟨y, ys, rfl, h3, h4⟩ := ha.uncons
  obtain rfl := h4.unnil
  cases h3 with
  | float k0 a b hab =>
   refine ⟨_, .int .u64 b, w, ?_, .refl w, .int .u64 _, k b (by rw [hab, cn_cn])⟩
   have := run_callFunc_extern (e := Extern.MathFloatBits.float64bits) Try.func228 ω15 ω15 ω15 ω15 #[.float .f64 b] w
   rw [this]; rfl

def p_f28z (x : Nat) : Nat := cn .f64 (cn .f64 x % 9223372036854775808)
def T_f28z (x : Nat) (H : AHeap) (K : Nat → AHeap → Prop) : Prop := K (p_f28z x) H
/-! f28z: function 238 -/
def E_f28z : Env := envOf [(228, S_math_Float64bits), (209, S_math_Float64frombits)]
def F_f28z : List Value → AHeap → (Value → AHeap → Prop) → Prop
 | [.float .f64 x], H, K => T_f28z x H fun (r1 : Nat) (H' : AHeap) => K (.float .f64 r1) H'
 | _, _, _ => False
def S_f28z : FSpec := { F := F_f28z, quiet := true, tame := false }
theorem f28z_vc (x : Nat) (H : AHeap) (K : Value → AHeap → Prop) : bodyL Try.prog E_f28z Try.f238 [.float .f64 x] H K =
 (T_math_Float64bits x H fun (r1 : Int) (H1 : AHeap) => T_math_Float64frombits (IntKind.wrap .u64 (((BitVec.ofInt (IntKind.bits .u64) r1 &&& ~~~(BitVec.ofInt (IntKind.bits .u64) 9223372036854775808)).toNat : Int))) H1 fun (r2 : Nat) (H2 : AHeap) => K (.float .f64 r2) H2) := by kernel_rfl
theorem E_f28z_ok : ∀ g, FnOk Try.prog g (E_f28z g) := FnOk.envOf (by
 intro x hx
 simp only [List.mem_cons, List.not_mem_nil, or_false] at hx
 rcases hx with rfl | rfl
 ·exact math_Float64bits_ok
 ·exact math_Float64frombits_ok)
theorem abs_bits (b : Nat) : (IntKind.wrap .u64 (((BitVec.ofInt (IntKind.bits .u64) (b : Int) &&& ~~~(BitVec.ofInt (IntKind.bits .u64) 9223372036854775808)).toNat : Int))).toNat = b % 9223372036854775808 := by
 have e : (BitVec.ofInt (IntKind.bits .u64) (b : Int) &&& ~~~(BitVec.ofInt (IntKind.bits .u64) 9223372036854775808)).toNat = b % 9223372036854775808 := by
  show (BitVec.ofInt 64 (b : Int) &&& ~~~(BitVec.ofInt 64 9223372036854775808)).toNat = _
  have h1 : (~~~(BitVec.ofInt 64 9223372036854775808)).toNat = 2 ^ 63 - 1 := by decide
  have h2 : (BitVec.ofInt 64 (b : Int)).toNat = b % 2 ^ 64 := by simp
  rw [BitVec.toNat_and, h1, h2, Nat.and_two_pow_sub_one_eq_mod]
  omega
 rw [e, wrapu_id ω2 ω2]
 omega
theorem abs_cn {b x : Nat} (h : cn .f64 b = cn .f64 x) : cn .f64 (b % 9223372036854775808) = cn .f64 (cn .f64 x % 9223372036854775808) := by
 rw [← h]
 cases hn : (FloatKind.f64.decode b).isNaN
 ·rw [cn_of_not_nan hn]
 ·rw [cn_of_nan hn]
  have : (FloatKind.f64.decode (b % 9223372036854775808)).isNaN = true := by
   rw [nan_iff] at hn ⊢
   have e1 : FloatKind.f64.format.signWeight = 9223372036854775808 := by decide
   rw [e1] at hn ⊢
   rw [Nat.mod_mod]; exact hn
  rw [cn_of_nan this]
  decide +kernel
theorem f28z_main (x : Nat) (H : AHeap) (K : Value → AHeap → Prop) (h : T_f28z x H fun (r1 : Nat) (H' : AHeap) => K (.float .f64 r1) H') : bodyL Try.prog E_f28z Try.f238 [.float .f64 x] H K := by
 rw [f28z_vc]
 intro b hb
 show K (.float .f64 (cn .f64 (IntKind.wrap .u64 (((BitVec.ofInt (IntKind.bits .u64) (b : Int) &&& ~~~(BitVec.ofInt (IntKind.bits .u64) 9223372036854775808)).toNat : Int))).toNat)) H
 rw [abs_bits, abs_cn hb]
 exact h
theorem f28z_ok : FnOk Try.prog 238 S_f28z := by
 refine FnOk.body mix_ok E_f28z_ok Try.func238 rfl ω15 ω15 ?_ ?_ ?_ ?_ ?_
 ·intro args H K K' h hk
  simp only [S_f28z] at *
  unfold F_f28z at *
  split at hk
  ·have k := hk
   exact h _ _ k
  ·exact hk.elim
 ·intro _ args H K hk
  simp only [S_f28z] at *
  unfold F_f28z at *
  split at hk
  ·have k := hk
   exact ⟨_, k, fun K' k' => k'⟩
  ·exact hk.elim
 ·intro args H K hk
  simp only [S_f28z] at *
  unfold F_f28z at *
  split at hk
  ·have k := hk
   exact ⟨_, _, k⟩
  ·exact hk.elim
 ·intro hq; cases hq
 ·have mm := @f28z_main
  have ml := fun (args : List Value) (H : AHeap) (K : Value → AHeap → Prop) => bodyL_body (P := Try.prog) (env := E_f28z ) (fn := Try.f238) (args := args) (H := H) (K := K) E_f28z_ok 
  revert mm ml
  generalize bodyK Try.prog E_f28z Try.f238 = Q
  generalize bodyL Try.prog E_f28z Try.f238 = QL
  intro mm ml args H K hk
  simp only [S_f28z] at *
  unfold F_f28z at *
  split at hk
  ·exact ml _ H K (mm _ H K hk)
  ·exact hk.elim
def p_f24z (f : Nat) (sign : Int) : Bool := ((bif (sign : Int) == 0 then flt .f64 9218868437227405311 (p_f28z f) else (bif decide ((sign : Int) < 0) then flt .f64 9218868437227405311 (fneg .f64 f) else flt .f64 9218868437227405311 f)))
def T_f24z (f : Nat) (sign : Int) (H : AHeap) (K : Bool → AHeap → Prop) : Prop := K (p_f24z f sign) H
theorem f24z_f {f : Nat} {sign : Int} (h : p_f24z f sign = false) : sign = 1 → flt .f64 9218868437227405311 f = false := by
 intro e; subst e; exact h
theorem T_f24z_i {f : Nat} {sign : Int} {H : AHeap} {K : Bool → AHeap → Prop} (h : K (p_f24z f sign) H) : T_f24z f sign H K := h
/-! f24z: function 225 -/
def E_f24z : Env := envOf [(238, S_f28z)]
def F_f24z : List Value → AHeap → (Value → AHeap → Prop) → Prop
 | [.float .f64 f, .int .i64 sign], H, K => T_f24z f sign H fun (r1 : Bool) (H' : AHeap) => K (.bool r1) H'
 | _, _, _ => False
def S_f24z : FSpec := { F := F_f24z, quiet := true, tame := false }
theorem f24z_vc (f : Nat) (sign : Int) (H : AHeap) (K : Value → AHeap → Prop) : bodyL Try.prog E_f24z Try.f225 [.float .f64 f, .int .i64 sign] H K =
 (Br ((sign : Int) == 0) (T_f28z f H fun (r1 : Nat) (H1 : AHeap) => K (.bool (flt .f64 9218868437227405311 r1)) H1) (Br (decide ((sign : Int) < 0)) (K (.bool (flt .f64 9218868437227405311 (fneg .f64 f))) H) (K (.bool (flt .f64 9218868437227405311 f)) H))) := by kernel_rfl
theorem E_f24z_ok : ∀ g, FnOk Try.prog g (E_f24z g) := FnOk.envOf (by
 intro x hx
 simp only [List.mem_cons, List.not_mem_nil, or_false] at hx
 subst hx; exact f28z_ok)
theorem f24z_main (f : Nat) (sign : Int) (H : AHeap) (K : Value → AHeap → Prop) (h : T_f24z f sign H fun (r1 : Bool) (H' : AHeap) => K (.bool r1) H') : bodyL Try.prog E_f24z Try.f225 [.float .f64 f, .int .i64 sign] H K := by
 rw [f24z_vc]
 simp only [T_f28z]
 unfold T_f24z p_f24z at h
 repeat' (first | exact h | (exfalso; simp_all; done) | (refine ⟨by decide, ?_⟩) | (refine Br.intro (fun hb => ?_) (fun hb => ?_) <;> (try simp only [hb, cond_true, cond_false, Bool.not_true, Bool.not_false] at h)))
theorem f24z_ok : FnOk Try.prog 225 S_f24z := by
 refine FnOk.body mix_ok E_f24z_ok Try.func225 rfl ω15 ω15 ?_ ?_ ?_ ?_ ?_
 ·intro args H K K' h hk
  simp only [S_f24z] at *
  unfold F_f24z at *
  split at hk
  ·have k := hk
   exact h _ _ k
  ·exact hk.elim
 ·intro _ args H K hk
  simp only [S_f24z] at *
  unfold F_f24z at *
  split at hk
  ·have k := hk
   exact ⟨_, k, fun K' k' => k'⟩
  ·exact hk.elim
 ·intro args H K hk
  simp only [S_f24z] at *
  unfold F_f24z at *
  split at hk
  ·have k := hk
   exact ⟨_, _, k⟩
  ·exact hk.elim
 ·intro hq; cases hq
 ·have mm := @f24z_main
  have ml := fun (args : List Value) (H : AHeap) (K : Value → AHeap → Prop) => bodyL_body (P := Try.prog) (env := E_f24z ) (fn := Try.f225) (args := args) (H := H) (K := K) E_f24z_ok 
  revert mm ml
  generalize bodyK Try.prog E_f24z Try.f225 = Q
  generalize bodyL Try.prog E_f24z Try.f225 = QL
  intro mm ml args H K hk
  simp only [S_f24z] at *
  unfold F_f24z at *
  split at hk
  ·exact ml _ H K (mm _ _ H K hk)
  ·exact hk.elim

def p_fqz_l3 (y : Nat) (y_0 : Nat) (ve : Int) (y_0' : Nat) (ve_3 : Int) (k3_5 : Nat → Int → Nat) : Nat → Nat → Int → Nat
 | 0, _, _ => 0
 | μ3 + 1, q, k => (bif decide ((1 : Int) ≤ k) then (p_fqz_l3 y y_0 ve y_0' ve_3 k3_5 μ3 (fadd .f64 (fdiv .f64 4607182418800017408 (FloatKind.nearest .f64 k)) (fmul .f64 (fmul .f64 (fdiv .f64 (fsub .f64 y_0' 4607182418800017408) (fadd .f64 y_0' 4607182418800017408)) (fdiv .f64 (fsub .f64 y_0' 4607182418800017408) (fadd .f64 y_0' 4607182418800017408))) q)) (k - 2)) else (k3_5 q k))
def p_fqz_l3_s := fun y y_0 ve y_0' ve_3 k3_5 μ3 q k => @p_fqz_l3.eq_2 y y_0 ve y_0' ve_3 k3_5 q k μ3
def p_fqz_l2 (y : Nat) (y_0 : Nat) (ve : Int) (k2_3 : Nat → Int → Nat) : Nat → Nat → Int → Nat
 | 0, _, _ => 0
 | μ2 + 1, y_0', ve_3 => (bif flt .f64 y_0' 4604930618986332160 then (p_fqz_l2 y y_0 ve k2_3 μ2 (fmul .f64 y_0' 4611686018427387904) (IntKind.wrap .i64 (ve_3 - 1))) else (k2_3 y_0' ve_3))
def p_fqz_l2_s := fun y y_0 ve k2_3 μ2 y_0' ve_3 => @p_fqz_l2.eq_2 y y_0 ve k2_3 y_0' ve_3 μ2
def p_fqz_l1 (y : Nat) : Nat → Nat → Int → Nat
 | 0, _, _ => 0
 | μ + 1, y_0, ve => (bif fle .f64 4609434218613702656 y_0 then (p_fqz_l1 y μ (fdiv .f64 y_0 4611686018427387904) (IntKind.wrap .i64 (ve + 1))) else (p_fqz_l2 y y_0 ve (fun (y_0' : Nat) (ve_3 : Int) => (p_fqz_l3 y y_0 ve y_0' ve_3 (fun (q : Nat) (k : Int) => fadd .f64 (fmul .f64 4611686018427387904 (fmul .f64 (fdiv .f64 (fsub .f64 y_0' 4607182418800017408) (fadd .f64 y_0' 4607182418800017408)) q)) (fmul .f64 (FloatKind.nearest .f64 ve_3) 4604418534313441775)) (Int.toNat ((25 : Int) + 1) + 1) 0 (25 : Int))) (Int.toNat ((4604930618986332160 : Int) - y_0) + 1) y_0 ve))
def p_fqz_l1_s := fun y μ y_0 ve => @p_fqz_l1.eq_2 y y_0 ve μ
def p_fqz (y : Nat) : Nat := (bif !(feq .f64 y y) then p_f2az else (bif flt .f64 y 0 then p_f2az else (bif feq .f64 y 0 then (p_f29z ((-1) : Int)) else (bif (p_f24z y (1 : Int)) then y else (p_fqz_l1 y (Int.toNat ((y : Int)) + 1) y (0 : Int))))))
def p_fqz_eq := @p_fqz.eq_1
def T_fqz (y : Nat) (H : AHeap) (K : Nat → AHeap → Prop) : Prop := Nrm y ∧ K (p_fqz y) H
theorem T_fqz_i {y : Nat} {H : AHeap} {K : Nat → AHeap → Prop} (h : Nrm y ∧ K (p_fqz y) H) : T_fqz y H K := h
theorem spec_l3_nar {x x0 x' : Nat} {ve ve_3 : Int} {K : Nat → Int → Nat} (h0 : 4604930618986332160 ≤ x') (h1 : x' < 4609434218613702656) (hK : ∀ q k, Bd .f64 1160 q → fnarrow (K q k) ≠ none) :
  ∀ (μ : Nat) (n : Int) (A q : Nat), Bd .f64 A q → 1074 ≤ A → (A : Int) ≤ 1155 - 3 * n → n ≤ 25 → -1 ≤ n → fnarrow (p_fqz_l3 x x0 ve x' ve_3 K μ q n) ≠ none := by
 intro μ
 induction μ with
 | zero => intro n A q _ _ _ _ _; exact (by decide +kernel : fnarrow 0 ≠ none)
 | succ μ ih =>
  intro n A q hq hA hA2 hn hn1
  rw [p_fqz_l3_s]
  by_cases h : (1 : Int) ≤ n
  ·rw [decide_eq_true h, cond_true]
   exact ih (n - 2) (A + 6) _ (log_step' (log_square h0 h1) h ω2 hq hA ω2) ω2 ω2 ω2 ω2
  ·rw [decide_eq_false h, cond_false]
   exact hK _ _ (hq.mono ω2)
theorem spec_l2_nar {x x0 : Nat} {ve : Int} {K : Nat → Int → Nat} (hK : ∀ x' (e : Int), 4604930618986332160 ≤ x' → x' < 4609434218613702656 → e.natAbs ≤ 4000 → fnarrow (K x' e) ≠ none) :
  ∀ (μ : Nat) (x' : Nat) (e : Int), 4503599627370496 ≤ x' → x' < 4609434218613702656 → (4609434218613702656 : Int) - x' ≤ (e + 3000) * 4503599627370496 → e ≤ 2100 →
   fnarrow (p_fqz_l2 x x0 ve K μ x' e) ≠ none := by
 intro μ
 induction μ with
 | zero => intro x' e _ _ _ _; exact (by decide +kernel : fnarrow 0 ≠ none)
 | succ μ ih =>
  intro x' e h0 h1 h2 h3
  rw [p_fqz_l2_s]
  cases hc : flt .f64 x' 4604930618986332160 with
  | true =>
   have := twice_step h0 ω2 hc
   rw [cond_true, wrap64 (n := e - 1) ω2 ω2, this.1]
   exact ih _ _ ω2 ω2 ω2 ω2
  | false =>
   rw [cond_false]
   rw [pos_lt h0 ω2 ω32 ω32] at hc
   have := of_decide_eq_false hc
   exact hK _ _ ω2 h1 ω2
theorem spec_l1_nar {x : Nat} :
  ∀ (μ : Nat) (x0 : Nat) (e : Int), 4503599627370496 ≤ x0 → x0 < 9218868437227405312 → e * 4503599627370496 + x0 ≤ 9218868437227405312 → 0 ≤ e →
   fnarrow (p_fqz_l1 x μ x0 e) ≠ none := by
 intro μ
 induction μ with
 | zero => intro x0 e _ _ _ _; exact (by decide +kernel : fnarrow 0 ≠ none)
 | succ μ ih =>
  intro x0 e h0 h1 h2 h3
  rw [p_fqz_l1_s]
  cases hc : fle .f64 4609434218613702656 x0 with
  | true =>
   have := half_step h0 h1 hc
   rw [cond_true, wrap64 (n := e + 1) ω2 ω2, this.1]
   exact ih _ _ ω2 ω2 ω2 ω2
  | false =>
   rw [cond_false]
   rw [pos_le ω32 ω32 h0 h1] at hc
   have := of_decide_eq_false hc
   refine spec_l2_nar ?_ _ _ _ h0 ω2 ω2 ω2
   intro x' e' a0 a1 a2
   refine spec_l3_nar a0 a1 ?_ _ 25 1074 0 (bd_zero _) ω32 ω32 ω32 ω32
   intro q k hq
   exact log_sum' (log_quot a0 a1) hq ω32 ω32 a2
theorem spec_log_nar (x : Nat) : fnarrow (p_fqz (fwide x)) ≠ none := by
 rw [p_fqz_eq]
 cases h1 : feq .f64 (fwide x) (fwide x) with
 | false => exact (by decide +kernel : fnarrow p_f2az ≠ none)
 | true =>
  cases h2 : flt .f64 (fwide x) 0 with
  | true => exact (by decide +kernel : fnarrow p_f2az ≠ none)
  | false =>
   cases h3 : feq .f64 (fwide x) 0 with
   | true => exact (by decide +kernel : fnarrow (p_f29z (-1)) ≠ none)
   | false =>
    cases h4 : p_f24z (fwide x) 1 with
    | true => exact inf_narrow x h4
    | false =>
     have h := nrm_use (wide_nrm x) h1 h2 h3 h4
     rw [Bool.not_true, cond_false, cond_false, cond_false, cond_false]
     exact spec_l1_nar _ _ 0 h.1 h.2 ω2 ω32
/-! fqz: function 199 -/
def E_fqz : Env := envOf [(187, S_f2az), (186, S_f29z), (225, S_f24z)]
def F_fqz : List Value → AHeap → (Value → AHeap → Prop) → Prop
 | [.float .f64 y], H, K => T_fqz y H fun (r1 : Nat) (H' : AHeap) => K (.float .f64 r1) H'
 | _, _, _ => False
def S_fqz : FSpec := { F := F_fqz, quiet := true, tame := false }
theorem fqz_vc (y : Nat) (H : AHeap) (K : Value → AHeap → Prop) : bodyL Try.prog E_fqz Try.f199 [.float .f64 y] H K =
 (Br (!(feq .f64 y y)) (T_f2az  H fun (r1 : Nat) (H1 : AHeap) => K (.float .f64 r1) H1) (Br (flt .f64 y 0) (T_f2az  H fun (r2 : Nat) (H2 : AHeap) => K (.float .f64 r2) H2) (Br (feq .f64 y 0) (T_f29z (-1) H fun (r3 : Nat) (H3 : AHeap) => K (.float .f64 r3) H3) (T_f24z y 1 H fun (r4 : Bool) (H4 : AHeap) => Br r4 (K (.float .f64 y) H4) (loopK (exL Try.prog E_fqz (cl (cl (cl (cr (cr (cr (bodyC Try.f199))))))) 9 4 [(1, 9)]) (.float .f64 y :: ud2 (.int .i64 0 :: ud60 [])) H4 (blockQ 1 (seqQ (exL Try.prog E_fqz (cr (cr (cr (cr (bodyC Try.f199))))) 4 4 []) (retK Try.prog Try.f199 K)))))))) := by kernel_rfl
abbrev fqz_P1  (y_0 : Nat) (ve : Int)  : List Value := (.float .f64 y_0 :: ud2 (.int .i64 ve :: ud60 []))
theorem fqz_r1  (y_0 : Nat) (ve : Int)  (H : AHeap) (R : Post) : exL Try.prog E_fqz (cl (cl (cl (cr (cr (cr (bodyC Try.f199))))))) 9 4 [(1, 9)] (fqz_P1 y_0 ve) H R =
 (Br (fle .f64 4609434218613702656 y_0) (R .normal (.float .f64 (fdiv .f64 y_0 4611686018427387904) :: ud2 (.int .i64 (IntKind.wrap .i64 (ve + 1)) :: ud60 [])) H) (R (.exit 1) (.float .f64 y_0 :: ud2 (.int .i64 ve :: ud60 [])) H)) := by kernel_rfl
def fqz_I1  (Inv : Nat → Nat → Int → AHeap → Prop) : Nat → List Value → AHeap → Prop := fun μ tm H => ∃ (y_0 : Nat), ∃ (ve : Int), tm = (fqz_P1 y_0 ve) ∧ Inv μ y_0 ve H
theorem fqz_L1  {Q : Post} (Inv : Nat → Nat → Int → AHeap → Prop) (ν : Nat) (y_0 : Nat) (ve : Int)  (H : AHeap) (h0 : Inv ν y_0 ve H)
  (hs : ∀ (μ : Nat) (y_0 : Nat) (ve : Int)  (H : AHeap), Inv μ y_0 ve H → exL Try.prog E_fqz (cl (cl (cl (cr (cr (cr (bodyC Try.f199))))))) 9 4 [(1, 9)] (fqz_P1 y_0 ve) H (loopQ (fqz_I1  Inv) μ Q)) : loopK (exL Try.prog E_fqz (cl (cl (cl (cr (cr (cr (bodyC Try.f199))))))) 9 4 [(1, 9)]) (fqz_P1 y_0 ve) H Q :=
 ⟨fqz_I1  Inv, ν, ⟨y_0, ve, rfl, h0⟩, fun μ tm H h => by obtain ⟨y_0, ve, rfl, hI⟩ := h; exact hs μ y_0 ve  H hI⟩
theorem fqz_n1  {Q : Post} {Inv : Nat → Nat → Int → AHeap → Prop} {μ : Nat} (μ' : Nat) {y_0 : Nat} {ve : Int}  {H : AHeap} (hm : μ' < μ) (hI : Inv μ' y_0 ve H) : loopQ (fqz_I1  Inv) μ Q .normal (fqz_P1 y_0 ve) H := ⟨μ', hm, y_0, ve, rfl, hI⟩
theorem fqz_x1_1 (y_0 : Nat) (ve : Int) (H : AHeap) (K : Value → AHeap → Prop)  {I : Nat → List Value → AHeap → Prop} {μ : Nat} : loopQ I μ (blockQ 1 (seqQ (exL Try.prog E_fqz (cr (cr (cr (cr (bodyC Try.f199))))) 4 4 []) (retK Try.prog Try.f199 K))) (.exit 1) (.float .f64 y_0 :: ud2 (.int .i64 ve :: ud60 [])) H =
 (loopK (exL Try.prog E_fqz (cl (cl (cl (cr (cr (cr (cr (bodyC Try.f199)))))))) 9 4 [(3, 9)]) (.float .f64 y_0 :: ud2 (.int .i64 ve :: ud60 [])) H (blockQ 3 (seqQ (exL Try.prog E_fqz (cr (cr (cr (cr (cr (bodyC Try.f199)))))) 4 4 []) (retK Try.prog Try.f199 K)))) := by kernel_rfl
abbrev fqz_P2  (y_0' : Nat) (ve_3 : Int)  : List Value := (.float .f64 y_0' :: ud2 (.int .i64 ve_3 :: ud60 []))
theorem fqz_r2  (y_0' : Nat) (ve_3 : Int)  (H : AHeap) (R : Post) : exL Try.prog E_fqz (cl (cl (cl (cr (cr (cr (cr (bodyC Try.f199)))))))) 9 4 [(3, 9)] (fqz_P2 y_0' ve_3) H R =
 (Br (flt .f64 y_0' 4604930618986332160) (R .normal (.float .f64 (fmul .f64 y_0' 4611686018427387904) :: ud2 (.int .i64 (IntKind.wrap .i64 (ve_3 - 1)) :: ud60 [])) H) (R (.exit 3) (.float .f64 y_0' :: ud2 (.int .i64 ve_3 :: ud60 [])) H)) := by kernel_rfl
def fqz_I2  (Inv : Nat → Nat → Int → AHeap → Prop) : Nat → List Value → AHeap → Prop := fun μ tm H => ∃ (y_0' : Nat), ∃ (ve_3 : Int), tm = (fqz_P2 y_0' ve_3) ∧ Inv μ y_0' ve_3 H
theorem fqz_L2  {Q : Post} (Inv : Nat → Nat → Int → AHeap → Prop) (ν : Nat) (y_0' : Nat) (ve_3 : Int)  (H : AHeap) (h0 : Inv ν y_0' ve_3 H)
  (hs : ∀ (μ : Nat) (y_0' : Nat) (ve_3 : Int)  (H : AHeap), Inv μ y_0' ve_3 H → exL Try.prog E_fqz (cl (cl (cl (cr (cr (cr (cr (bodyC Try.f199)))))))) 9 4 [(3, 9)] (fqz_P2 y_0' ve_3) H (loopQ (fqz_I2  Inv) μ Q)) : loopK (exL Try.prog E_fqz (cl (cl (cl (cr (cr (cr (cr (bodyC Try.f199)))))))) 9 4 [(3, 9)]) (fqz_P2 y_0' ve_3) H Q :=
 ⟨fqz_I2  Inv, ν, ⟨y_0', ve_3, rfl, h0⟩, fun μ tm H h => by obtain ⟨y_0', ve_3, rfl, hI⟩ := h; exact hs μ y_0' ve_3  H hI⟩
theorem fqz_n2  {Q : Post} {Inv : Nat → Nat → Int → AHeap → Prop} {μ : Nat} (μ' : Nat) {y_0' : Nat} {ve_3 : Int}  {H : AHeap} (hm : μ' < μ) (hI : Inv μ' y_0' ve_3 H) : loopQ (fqz_I2  Inv) μ Q .normal (fqz_P2 y_0' ve_3) H := ⟨μ', hm, y_0', ve_3, rfl, hI⟩
theorem fqz_x2_3 (y_0' : Nat) (ve_3 : Int) (H : AHeap) (K : Value → AHeap → Prop)  {I : Nat → List Value → AHeap → Prop} {μ : Nat} : loopQ I μ (blockQ 3 (seqQ (exL Try.prog E_fqz (cr (cr (cr (cr (cr (bodyC Try.f199)))))) 4 4 []) (retK Try.prog Try.f199 K))) (.exit 3) (.float .f64 y_0' :: ud2 (.int .i64 ve_3 :: ud60 [])) H =
 (loopK (exL Try.prog E_fqz (cl (cl (cr (cl (cr (cr (cr (cr (cr (cr (cr (cr (bodyC Try.f199))))))))))))) 248 4 [(5, 88)]) (ud3 (.int .i64 ve_3 :: .float .f64 (fdiv .f64 (fsub .f64 y_0' 4607182418800017408) (fadd .f64 y_0' 4607182418800017408)) :: .float .f64 (fmul .f64 (fdiv .f64 (fsub .f64 y_0' 4607182418800017408) (fadd .f64 y_0' 4607182418800017408)) (fdiv .f64 (fsub .f64 y_0' 4607182418800017408) (fadd .f64 y_0' 4607182418800017408))) :: .float .f64 0 :: .int .i64 25 :: ud56 [])) H (blockQ 5 (seqQ (exL Try.prog E_fqz (cr (cr (cr (cr (cr (cr (cr (cr (cr (bodyC Try.f199)))))))))) 4 4 []) (retK Try.prog Try.f199 K)))) := by kernel_rfl
abbrev fqz_P3 (ve_3 : Int) (y_0' : Nat) (q : Nat) (k : Int)  : List Value := (ud3 (.int .i64 ve_3 :: .float .f64 (fdiv .f64 (fsub .f64 y_0' 4607182418800017408) (fadd .f64 y_0' 4607182418800017408)) :: .float .f64 (fmul .f64 (fdiv .f64 (fsub .f64 y_0' 4607182418800017408) (fadd .f64 y_0' 4607182418800017408)) (fdiv .f64 (fsub .f64 y_0' 4607182418800017408) (fadd .f64 y_0' 4607182418800017408))) :: .float .f64 q :: .int .i64 k :: ud56 []))
theorem fqz_r3 (ve_3 : Int) (y_0' : Nat) (q : Nat) (k : Int)  (H : AHeap) (R : Post) : exL Try.prog E_fqz (cl (cl (cr (cl (cr (cr (cr (cr (cr (cr (cr (cr (bodyC Try.f199))))))))))))) 248 4 [(5, 88)] (fqz_P3 ve_3 y_0' q k) H R =
 (Br (decide ((1 : Int) ≤ k)) (R .normal (ud3 (.int .i64 ve_3 :: .float .f64 (fdiv .f64 (fsub .f64 y_0' 4607182418800017408) (fadd .f64 y_0' 4607182418800017408)) :: .float .f64 (fmul .f64 (fdiv .f64 (fsub .f64 y_0' 4607182418800017408) (fadd .f64 y_0' 4607182418800017408)) (fdiv .f64 (fsub .f64 y_0' 4607182418800017408) (fadd .f64 y_0' 4607182418800017408))) :: .float .f64 (fadd .f64 (fdiv .f64 4607182418800017408 (FloatKind.nearest .f64 k)) (fmul .f64 (fmul .f64 (fdiv .f64 (fsub .f64 y_0' 4607182418800017408) (fadd .f64 y_0' 4607182418800017408)) (fdiv .f64 (fsub .f64 y_0' 4607182418800017408) (fadd .f64 y_0' 4607182418800017408))) q)) :: .int .i64 (IntKind.wrap .i64 (k - 2)) :: ud56 [])) H) (R (.exit 5) (ud3 (.int .i64 ve_3 :: .float .f64 (fdiv .f64 (fsub .f64 y_0' 4607182418800017408) (fadd .f64 y_0' 4607182418800017408)) :: ud :: .float .f64 q :: ud57 [])) H)) := by kernel_rfl
def fqz_I3 (ve_3 : Int) (y_0' : Nat) (Inv : Nat → Nat → Int → AHeap → Prop) : Nat → List Value → AHeap → Prop := fun μ tm H => ∃ (q : Nat), ∃ (k : Int), tm = (fqz_P3 ve_3 y_0' q k) ∧ Inv μ q k H
theorem fqz_L3 (ve_3 : Int) (y_0' : Nat) {Q : Post} (Inv : Nat → Nat → Int → AHeap → Prop) (ν : Nat) (q : Nat) (k : Int)  (H : AHeap) (h0 : Inv ν q k H)
  (hs : ∀ (μ : Nat) (q : Nat) (k : Int)  (H : AHeap), Inv μ q k H → exL Try.prog E_fqz (cl (cl (cr (cl (cr (cr (cr (cr (cr (cr (cr (cr (bodyC Try.f199))))))))))))) 248 4 [(5, 88)] (fqz_P3 ve_3 y_0' q k) H (loopQ (fqz_I3 ve_3 y_0' Inv) μ Q)) : loopK (exL Try.prog E_fqz (cl (cl (cr (cl (cr (cr (cr (cr (cr (cr (cr (cr (bodyC Try.f199))))))))))))) 248 4 [(5, 88)]) (fqz_P3 ve_3 y_0' q k) H Q :=
 ⟨fqz_I3 ve_3 y_0' Inv, ν, ⟨q, k, rfl, h0⟩, fun μ tm H h => by obtain ⟨q, k, rfl, hI⟩ := h; exact hs μ q k  H hI⟩
theorem fqz_n3 {ve_3 : Int} {y_0' : Nat} {Q : Post} {Inv : Nat → Nat → Int → AHeap → Prop} {μ : Nat} (μ' : Nat) {q : Nat} {k : Int}  {H : AHeap} (hm : μ' < μ) (hI : Inv μ' q k H) : loopQ (fqz_I3 ve_3 y_0' Inv) μ Q .normal (fqz_P3 ve_3 y_0' q k) H := ⟨μ', hm, q, k, rfl, hI⟩
theorem fqz_x3_5 (ve_3 : Int) (y_0' : Nat) (q : Nat) (H : AHeap) (K : Value → AHeap → Prop)  {I : Nat → List Value → AHeap → Prop} {μ : Nat} : loopQ I μ (blockQ 5 (seqQ (exL Try.prog E_fqz (cr (cr (cr (cr (cr (cr (cr (cr (cr (bodyC Try.f199)))))))))) 4 4 []) (retK Try.prog Try.f199 K))) (.exit 5) (ud3 (.int .i64 ve_3 :: .float .f64 (fdiv .f64 (fsub .f64 y_0' 4607182418800017408) (fadd .f64 y_0' 4607182418800017408)) :: ud :: .float .f64 q :: ud57 [])) H =
 (K (.float .f64 (fadd .f64 (fmul .f64 4611686018427387904 (fmul .f64 (fdiv .f64 (fsub .f64 y_0' 4607182418800017408) (fadd .f64 y_0' 4607182418800017408)) q)) (fmul .f64 (FloatKind.nearest .f64 ve_3) 4604418534313441775))) H) := by kernel_rfl
theorem E_fqz_ok : ∀ g, FnOk Try.prog g (E_fqz g) := FnOk.envOf (by
 intro x hx
 simp only [List.mem_cons, List.not_mem_nil, or_false] at hx
 rcases hx with rfl | rfl | rfl
 ·exact f2az_ok
 ·exact f29z_ok
 ·exact f24z_ok)
theorem ω28 {P : Prop} (h : P := by first | omega | (simp; done) | (simp; omega) | (first | (have := nrm_use (by assumption) (by assumption) (by assumption) (by assumption) ((by assumption : (1 : Int) = 1 → _) rfl); omega) | (have := half_step (by assumption) (by assumption) (by assumption); omega))) : P := h
theorem ω36 {P : Prop} (h : P := by first | omega | (have := half_step (by assumption) (by assumption) (by assumption); omega)) : P := h
theorem ω23 {P : Prop} (h : P := by first | omega | (first | (have := nrm_use (by assumption) (by assumption) (by assumption) (by assumption) ((by assumption : (1 : Int) = 1 → _) rfl); omega) | (have := half_step (by assumption) (by assumption) (by assumption); omega)) | (simp only [List.length_append, List.length_cons, List.length_nil, List.length_set]; done) | (simp only [List.length_append, List.length_cons, List.length_nil, List.length_set]; omega)) : P := h
theorem ω40 {P : Prop} (h : P := by rw [show μ - 1 + 1 = μ from by first | omega | (have := half_step (by assumption) (by assumption) (by assumption); omega)]; exact e) : P := h
theorem ω29 {P : Prop} (h : P := by first | omega | (simp; done) | (simp; omega) | (have := twice_step (by assumption) (by assumption) (by assumption); omega)) : P := h
theorem ω35 {P : Prop} (h : P := by first | omega | (have := twice_step (by assumption) (by assumption) (by assumption); omega)) : P := h
theorem ω21 {P : Prop} (h : P := by first | omega | (have := twice_step (by assumption) (by assumption) (by assumption); omega) | (simp only [List.length_append, List.length_cons, List.length_nil, List.length_set]; done) | (simp only [List.length_append, List.length_cons, List.length_nil, List.length_set]; omega)) : P := h
theorem ω39 {P : Prop} (h : P := by rw [show μ2 - 1 + 1 = μ2 from by first | omega | (have := twice_step (by assumption) (by assumption) (by assumption); omega)]; exact e) : P := h
theorem fqz_main (y : Nat) (H : AHeap) (K : Value → AHeap → Prop) (h : T_fqz y H fun (r1 : Nat) (H' : AHeap) => K (.float .f64 r1) H') : bodyL Try.prog E_fqz Try.f199 [.float .f64 y] H K := by
 rw [fqz_vc]
 obtain ⟨pr0, hk⟩ := h
 have e : (p_fqz y) = _ := rfl
 have e := e.trans (p_fqz_eq y)
 have g0 := Grow.refl H
 refine Br.intro (fun c_1 => ?_) (fun c_1 => ?_)
 ·have e := e.trans (cond_t c_1)
  have c_1n := nf_of_t c_1
  refine T_f2az_i ?_
  rw [e] at hk
  exact hk
 ·have e := e.trans (cond_f c_1)
  have c_1n := nt_of_f c_1
  refine Br.intro (fun c_2 => ?_) (fun c_2 => ?_)
  ·have e := e.trans (cond_t c_2)
   refine T_f2az_i ?_
   rw [e] at hk
   exact hk
  ·have e := e.trans (cond_f c_2)
   refine Br.intro (fun c_3 => ?_) (fun c_3 => ?_)
   ·have e := e.trans (cond_t c_3)
    refine T_f29z_i ?_
    rw [e] at hk
    exact hk
   ·have e := e.trans (cond_f c_3)
    refine T_f24z_i ?_
    refine Br.intro (fun c_4 => ?_) (fun c_4 => ?_)
    ·have e := e.trans (cond_t c_4)
     rw [e] at hk
     exact hk
    ·have e := e.trans (cond_f c_4)
     have c_4' := f24z_f c_4
     refine fqz_L1  (fun (μ : Nat) (y_0 : Nat) (ve : Int) (H_1 : AHeap) => H = H_1 ∧ 4503599627370496 ≤ y_0 ∧ y_0 < 9218868437227405312 ∧ (y_0 : Int) ≤ (μ : Int) ∧ p_fqz y = p_fqz_l1 y (μ + 1) y_0 ve) (Int.toNat ((y : Int))) _ _ H ?_ ?_
     ·exact ⟨rfl, ω28, ω28, ω2, e⟩
     ·intro μ y_0 ve  H_1 hI
      obtain ⟨rfl, v5, v6, hμ, e⟩ := hI
      rw [fqz_r1]
      have e := e.trans (p_fqz_l1_s y μ y_0 ve)
      have l7 := g0.1
      refine Br.intro (fun c8 => ?_) (fun c8 => ?_)
      ·have e := e.trans (cond_t c8)
       refine fqz_n1 (μ - 1) ω36 ⟨rfl, ω23, ω23, ω36, ω40⟩
      ·have e := e.trans (cond_f c8)
       rw [fqz_x1_1]
       refine fqz_L2  (fun (μ2 : Nat) (y_0' : Nat) (ve_3 : Int) (H_2 : AHeap) => H = H_2 ∧ 4503599627370496 ≤ y_0' ∧ y_0' < 9218868437227405312 ∧ (4604930618986332160 : Int) - y_0' ≤ (μ2 : Int) ∧ p_fqz y = p_fqz_l2 y y_0 ve (fun (y_0' : Nat) (ve_3 : Int) => (p_fqz_l3 y y_0 ve y_0' ve_3 (fun (q : Nat) (k : Int) => fadd .f64 (fmul .f64 4611686018427387904 (fmul .f64 (fdiv .f64 (fsub .f64 y_0' 4607182418800017408) (fadd .f64 y_0' 4607182418800017408)) q)) (fmul .f64 (FloatKind.nearest .f64 ve_3) 4604418534313441775)) (Int.toNat ((25 : Int) + 1) + 1) 0 (25 : Int))) (μ2 + 1) y_0' ve_3) (Int.toNat ((4604930618986332160 : Int) - y_0)) _ _ H ?_ ?_
       ·exact ⟨rfl, ω29, ω29, ω2, e⟩
       ·intro μ2 y_0' ve_3  H_2 hI
        obtain ⟨rfl, v9, v10, hμ, e⟩ := hI
        rw [fqz_r2]
        have e := e.trans (p_fqz_l2_s y y_0 ve (fun (y_0' : Nat) (ve_3 : Int) => (p_fqz_l3 y y_0 ve y_0' ve_3 (fun (q : Nat) (k : Int) => fadd .f64 (fmul .f64 4611686018427387904 (fmul .f64 (fdiv .f64 (fsub .f64 y_0' 4607182418800017408) (fadd .f64 y_0' 4607182418800017408)) q)) (fmul .f64 (FloatKind.nearest .f64 ve_3) 4604418534313441775)) (Int.toNat ((25 : Int) + 1) + 1) 0 (25 : Int))) μ2 y_0' ve_3)
        have l11 := g0.1
        refine Br.intro (fun c12 => ?_) (fun c12 => ?_)
        ·have e := e.trans (cond_t c12)
         refine fqz_n2 (μ2 - 1) ω35 ⟨rfl, ω21, ω21, ω35, ω39⟩
        ·have e := e.trans (cond_f c12)
         rw [fqz_x2_3]
         refine fqz_L3 _ _ (fun (μ3 : Nat) (q : Nat) (k : Int) (H_3 : AHeap) => H = H_3 ∧ k ≤ 25 ∧ -1 ≤ k ∧ k + 1 ≤ (μ3 : Int) ∧ p_fqz y = p_fqz_l3 y y_0 ve y_0' ve_3 (fun (q : Nat) (k : Int) => fadd .f64 (fmul .f64 4611686018427387904 (fmul .f64 (fdiv .f64 (fsub .f64 y_0' 4607182418800017408) (fadd .f64 y_0' 4607182418800017408)) q)) (fmul .f64 (FloatKind.nearest .f64 ve_3) 4604418534313441775)) (μ3 + 1) q k) (Int.toNat ((25 : Int) + 1)) _ _ H ?_ ?_
         ·exact ⟨rfl, ω7, ω7, ω2, e⟩
         ·intro μ3 q k  H_3 hI
          obtain ⟨rfl, v13, v14, hμ, e⟩ := hI
          rw [fqz_r3]
          have e := e.trans (p_fqz_l3_s y y_0 ve y_0' ve_3 (fun (q : Nat) (k : Int) => fadd .f64 (fmul .f64 4611686018427387904 (fmul .f64 (fdiv .f64 (fsub .f64 y_0' 4607182418800017408) (fadd .f64 y_0' 4607182418800017408)) q)) (fmul .f64 (FloatKind.nearest .f64 ve_3) 4604418534313441775)) μ3 q k)
          have l15 := g0.1
          refine Br.intro (fun c16 => ?_) (fun c16 => ?_)
          ·have e := e.trans (cond_t c16)
           have c_16' := of_decide_eq_true c16
           rw [show IntKind.wrap .i64 (k - 2) = (k - 2) from wrap64 ω2 ω2]
           refine fqz_n3 (μ3 - 1) ω17 ⟨rfl, ω1, ω1, ω17, (by rw [show μ3 - 1 + 1 = μ3 from by first | omega]; exact e)⟩
          ·have e := e.trans (cond_f c16)
           have c_16' := of_decide_eq_false c16
           rw [fqz_x3_5]
           rw [e] at hk
           exact hk
theorem fqz_ok : FnOk Try.prog 199 S_fqz := by
 refine FnOk.body mix_ok E_fqz_ok Try.func199 rfl ω15 ω15 ?_ ?_ ?_ ?_ ?_
 ·intro args H K K' h hk
  simp only [S_fqz] at *
  unfold F_fqz at *
  split at hk
  ·obtain ⟨pr0, k⟩ := hk
   exact ⟨pr0, h _ _ k⟩
  ·exact hk.elim
 ·intro _ args H K hk
  simp only [S_fqz] at *
  unfold F_fqz at *
  split at hk
  ·obtain ⟨pr0, k⟩ := hk
   exact ⟨_, k, fun K' k' => ⟨pr0, k'⟩⟩
  ·exact hk.elim
 ·intro args H K hk
  simp only [S_fqz] at *
  unfold F_fqz at *
  split at hk
  ·obtain ⟨pr0, k⟩ := hk
   exact ⟨_, _, k⟩
  ·exact hk.elim
 ·intro hq; cases hq
 ·have mm := @fqz_main
  have ml := fun (args : List Value) (H : AHeap) (K : Value → AHeap → Prop) => bodyL_body (P := Try.prog) (env := E_fqz ) (fn := Try.f199) (args := args) (H := H) (K := K) E_fqz_ok 
  revert mm ml
  generalize bodyK Try.prog E_fqz Try.f199 = Q
  generalize bodyL Try.prog E_fqz Try.f199 = QL
  intro mm ml args H K hk
  simp only [S_fqz] at *
  unfold F_fqz at *
  split at hk
  ·exact ml _ H K (mm _ H K hk)
  ·exact hk.elim

def p_fzz (x : Nat) : Nat := ((fnarrow x).getD 0)
def p_fzz_eq := @p_fzz.eq_1
def T_fzz (x : Nat) (H : AHeap) (K : Nat → AHeap → Prop) : Prop := fnarrow x ≠ none ∧ K (p_fzz x) H
theorem T_fzz_i {x : Nat} {H : AHeap} {K : Nat → AHeap → Prop} (h : fnarrow x ≠ none ∧ K (p_fzz x) H) : T_fzz x H K := h

/-! fzz: function 198 -/
def E_fzz : Env := envOf []
def F_fzz : List Value → AHeap → (Value → AHeap → Prop) → Prop
 | [.float .f64 x], H, K => T_fzz x H fun (r1 : Nat) (H' : AHeap) => K (.float .f32 r1) H'
 | _, _, _ => False
def S_fzz : FSpec := { F := F_fzz, quiet := true, tame := false }
theorem fzz_vc (x : Nat) (H : AHeap) (K : Value → AHeap → Prop) : bodyL Try.prog E_fzz Try.f198 [.float .f64 x] H K =
 (∃ x1 : Nat, fnarrow x = some x1 ∧ K (.float .f32 x1) H) := by kernel_rfl
theorem E_fzz_ok : ∀ g, FnOk Try.prog g (E_fzz g) := FnOk.envOf (by
 intro x hx; cases hx)
theorem fzz_main (x : Nat) (H : AHeap) (K : Value → AHeap → Prop) (h : T_fzz x H fun (r1 : Nat) (H' : AHeap) => K (.float .f32 r1) H') : bodyL Try.prog E_fzz Try.f198 [.float .f64 x] H K := by
 rw [fzz_vc]
 obtain ⟨pr0, hk⟩ := h
 have e : (p_fzz x) = _ := rfl
 have e := e.trans (p_fzz_eq x)
 have g0 := Grow.refl H
 refine ⟨_, opt_get (d := 0) (by assumption), ?_⟩
 rw [e] at hk
 exact hk
theorem fzz_ok : FnOk Try.prog 198 S_fzz := by
 refine FnOk.body mix_ok E_fzz_ok Try.func198 rfl ω15 ω15 ?_ ?_ ?_ ?_ ?_
 ·intro args H K K' h hk
  simp only [S_fzz] at *
  unfold F_fzz at *
  split at hk
  ·obtain ⟨pr0, k⟩ := hk
   exact ⟨pr0, h _ _ k⟩
  ·exact hk.elim
 ·intro _ args H K hk
  simp only [S_fzz] at *
  unfold F_fzz at *
  split at hk
  ·obtain ⟨pr0, k⟩ := hk
   exact ⟨_, k, fun K' k' => ⟨pr0, k'⟩⟩
  ·exact hk.elim
 ·intro args H K hk
  simp only [S_fzz] at *
  unfold F_fzz at *
  split at hk
  ·obtain ⟨pr0, k⟩ := hk
   exact ⟨_, _, k⟩
  ·exact hk.elim
 ·intro hq; cases hq
 ·have mm := @fzz_main
  have ml := fun (args : List Value) (H : AHeap) (K : Value → AHeap → Prop) => bodyL_body (P := Try.prog) (env := E_fzz ) (fn := Try.f198) (args := args) (H := H) (K := K) E_fzz_ok 
  revert mm ml
  generalize bodyK Try.prog E_fzz Try.f198 = Q
  generalize bodyL Try.prog E_fzz Try.f198 = QL
  intro mm ml args H K hk
  simp only [S_fzz] at *
  unfold F_fzz at *
  split at hk
  ·exact ml _ H K (mm _ H K hk)
  ·exact hk.elim

def p_f22z (x : Nat) : Nat := (p_fzz ((p_fqz (fwide x))))
def p_f22z_eq := @p_f22z.eq_1
def T_f22z (x : Nat) (H : AHeap) (K : Nat → AHeap → Prop) : Prop := K (p_f22z x) H
theorem T_f22z_i {x : Nat} {H : AHeap} {K : Nat → AHeap → Prop} (h : K (p_f22z x) H) : T_f22z x H K := h

/-! f22z: function 169 -/
def E_f22z : Env := envOf [(199, S_fqz), (198, S_fzz)]
def F_f22z : List Value → AHeap → (Value → AHeap → Prop) → Prop
 | [.float .f32 x], H, K => T_f22z x H fun (r1 : Nat) (H' : AHeap) => K (.float .f32 r1) H'
 | _, _, _ => False
def S_f22z : FSpec := { F := F_f22z, quiet := true, tame := false }
theorem f22z_vc (x : Nat) (H : AHeap) (K : Value → AHeap → Prop) : bodyL Try.prog E_f22z Try.f169 [.float .f32 x] H K =
 (T_fqz (fwide x) H fun (r1 : Nat) (H1 : AHeap) => T_fzz r1 H1 fun (r2 : Nat) (H2 : AHeap) => K (.float .f32 r2) H2) := by kernel_rfl
theorem E_f22z_ok : ∀ g, FnOk Try.prog g (E_f22z g) := FnOk.envOf (by
 intro x hx
 simp only [List.mem_cons, List.not_mem_nil, or_false] at hx
 rcases hx with rfl | rfl
 ·exact fqz_ok
 ·exact fzz_ok)
theorem f22z_main (x : Nat) (H : AHeap) (K : Value → AHeap → Prop) (h : T_f22z x H fun (r1 : Nat) (H' : AHeap) => K (.float .f32 r1) H') : bodyL Try.prog E_f22z Try.f169 [.float .f32 x] H K := by
 rw [f22z_vc]
 have hk := h
 unfold T_f22z at hk
 have e : (p_f22z x) = _ := rfl
 have e := e.trans (p_f22z_eq x)
 have g0 := Grow.refl H
 refine T_fqz_i ⟨(by first | assumption | omega | (simp; omega) | (exact wide_nrm _)), ?_⟩
 refine T_fzz_i ⟨(by first | assumption | omega | (simp; omega) | (exact spec_log_nar _)), ?_⟩
 rw [e] at hk
 exact hk
theorem f22z_ok : FnOk Try.prog 169 S_f22z := by
 refine FnOk.body mix_ok E_f22z_ok Try.func169 rfl ω15 ω15 ?_ ?_ ?_ ?_ ?_
 ·intro args H K K' h hk
  simp only [S_f22z] at *
  unfold F_f22z at *
  split at hk
  ·have k := hk
   exact h _ _ k
  ·exact hk.elim
 ·intro _ args H K hk
  simp only [S_f22z] at *
  unfold F_f22z at *
  split at hk
  ·have k := hk
   exact ⟨_, k, fun K' k' => k'⟩
  ·exact hk.elim
 ·intro args H K hk
  simp only [S_f22z] at *
  unfold F_f22z at *
  split at hk
  ·have k := hk
   exact ⟨_, _, k⟩
  ·exact hk.elim
 ·intro hq; cases hq
 ·have mm := @f22z_main
  have ml := fun (args : List Value) (H : AHeap) (K : Value → AHeap → Prop) => bodyL_body (P := Try.prog) (env := E_f22z ) (fn := Try.f169) (args := args) (H := H) (K := K) E_f22z_ok 
  revert mm ml
  generalize bodyK Try.prog E_f22z Try.f169 = Q
  generalize bodyL Try.prog E_f22z Try.f169 = QL
  intro mm ml args H K hk
  simp only [S_f22z] at *
  unfold F_f22z at *
  split at hk
  ·exact ml _ H K (mm _ H K hk)
  ·exact hk.elim
def p_math_sqrt (x : Nat) : Nat := fsqrt .f64 x
def T_math_sqrt (x : Nat) (H : AHeap) (K : Nat → AHeap → Prop) : Prop := K (p_math_sqrt x) H
def F_math_sqrt : List Value → AHeap → (Value → AHeap → Prop) → Prop
 | [.float .f64 x], H, K => T_math_sqrt x H fun r1 H' => K (.float .f64 r1) H'
 | _, _, _ => False
def S_math_sqrt : FSpec := { F := F_math_sqrt, quiet := true }
theorem math_sqrt_ok : FnOk Try.prog 207 S_math_sqrt := by
 refine FnOk.ext1 (f := p_math_sqrt) (e := Extern.MathSqrt.sqrt) rfl ?_ (fun x H K h => h) Try.func207 ω15 ω15 ω15 ω15 (fun b w => ext_sqrt b w)
 intro args H K h
 simp only [S_math_sqrt] at h
 unfold F_math_sqrt at h
 split at h
 ·exact ⟨_, rfl, h⟩
 ·exact h.elim

def p_f27z (x : Nat) : Nat := (p_math_sqrt x)
def T_f27z (x : Nat) (H : AHeap) (K : Nat → AHeap → Prop) : Prop := K (p_f27z x) H

theorem T_f27z_i {x : Nat} {H : AHeap} {K : Nat → AHeap → Prop} (h : K (p_f27z x) H) : T_f27z x H K := h
/-! f27z: function 184 -/
def E_f27z : Env := envOf [(207, S_math_sqrt)]
def F_f27z : List Value → AHeap → (Value → AHeap → Prop) → Prop
 | [.float .f64 x], H, K => T_f27z x H fun (r1 : Nat) (H' : AHeap) => K (.float .f64 r1) H'
 | _, _, _ => False
def S_f27z : FSpec := { F := F_f27z, quiet := true, tame := false }
theorem f27z_vc (x : Nat) (H : AHeap) (K : Value → AHeap → Prop) : bodyL Try.prog E_f27z Try.f184 [.float .f64 x] H K =
 (T_math_sqrt x H fun (r1 : Nat) (H1 : AHeap) => K (.float .f64 r1) H1) := by kernel_rfl
theorem E_f27z_ok : ∀ g, FnOk Try.prog g (E_f27z g) := FnOk.envOf (by
 intro x hx
 simp only [List.mem_cons, List.not_mem_nil, or_false] at hx
 subst hx; exact math_sqrt_ok)
theorem f27z_main (x : Nat) (H : AHeap) (K : Value → AHeap → Prop) (h : T_f27z x H fun (r1 : Nat) (H' : AHeap) => K (.float .f64 r1) H') : bodyL Try.prog E_f27z Try.f184 [.float .f64 x] H K := by
 rw [f27z_vc]
 simp only [T_math_sqrt]
 unfold T_f27z p_f27z at h
 repeat' (first | exact h | (exfalso; simp_all; done) | (refine ⟨by decide, ?_⟩) | (refine Br.intro (fun hb => ?_) (fun hb => ?_) <;> (try simp only [hb, cond_true, cond_false, Bool.not_true, Bool.not_false] at h)))
theorem f27z_ok : FnOk Try.prog 184 S_f27z := by
 refine FnOk.body mix_ok E_f27z_ok Try.func184 rfl ω15 ω15 ?_ ?_ ?_ ?_ ?_
 ·intro args H K K' h hk
  simp only [S_f27z] at *
  unfold F_f27z at *
  split at hk
  ·have k := hk
   exact h _ _ k
  ·exact hk.elim
 ·intro _ args H K hk
  simp only [S_f27z] at *
  unfold F_f27z at *
  split at hk
  ·have k := hk
   exact ⟨_, k, fun K' k' => k'⟩
  ·exact hk.elim
 ·intro args H K hk
  simp only [S_f27z] at *
  unfold F_f27z at *
  split at hk
  ·have k := hk
   exact ⟨_, _, k⟩
  ·exact hk.elim
 ·intro hq; cases hq
 ·have mm := @f27z_main
  have ml := fun (args : List Value) (H : AHeap) (K : Value → AHeap → Prop) => bodyL_body (P := Try.prog) (env := E_f27z ) (fn := Try.f184) (args := args) (H := H) (K := K) E_f27z_ok 
  revert mm ml
  generalize bodyK Try.prog E_f27z Try.f184 = Q
  generalize bodyL Try.prog E_f27z Try.f184 = QL
  intro mm ml args H K hk
  simp only [S_f27z] at *
  unfold F_f27z at *
  split at hk
  ·exact ml _ H K (mm _ H K hk)
  ·exact hk.elim

def p_f1jz (x : Nat) : Nat := (p_fzz ((p_f27z (fwide x))))
def p_f1jz_eq := @p_f1jz.eq_1
def T_f1jz (x : Nat) (H : AHeap) (K : Nat → AHeap → Prop) : Prop := K (p_f1jz x) H
theorem T_f1jz_i {x : Nat} {H : AHeap} {K : Nat → AHeap → Prop} (h : K (p_f1jz x) H) : T_f1jz x H K := h

/-! f1jz: function 176 -/
def E_f1jz : Env := envOf [(184, S_f27z), (198, S_fzz)]
def F_f1jz : List Value → AHeap → (Value → AHeap → Prop) → Prop
 | [.float .f32 x], H, K => T_f1jz x H fun (r1 : Nat) (H' : AHeap) => K (.float .f32 r1) H'
 | _, _, _ => False
def S_f1jz : FSpec := { F := F_f1jz, quiet := true, tame := false }
theorem f1jz_vc (x : Nat) (H : AHeap) (K : Value → AHeap → Prop) : bodyL Try.prog E_f1jz Try.f176 [.float .f32 x] H K =
 (T_f27z (fwide x) H fun (r1 : Nat) (H1 : AHeap) => T_fzz r1 H1 fun (r2 : Nat) (H2 : AHeap) => K (.float .f32 r2) H2) := by kernel_rfl
theorem E_f1jz_ok : ∀ g, FnOk Try.prog g (E_f1jz g) := FnOk.envOf (by
 intro x hx
 simp only [List.mem_cons, List.not_mem_nil, or_false] at hx
 rcases hx with rfl | rfl
 ·exact f27z_ok
 ·exact fzz_ok)
theorem f1jz_main (x : Nat) (H : AHeap) (K : Value → AHeap → Prop) (h : T_f1jz x H fun (r1 : Nat) (H' : AHeap) => K (.float .f32 r1) H') : bodyL Try.prog E_f1jz Try.f176 [.float .f32 x] H K := by
 rw [f1jz_vc]
 have hk := h
 unfold T_f1jz at hk
 have e : (p_f1jz x) = _ := rfl
 have e := e.trans (p_f1jz_eq x)
 have g0 := Grow.refl H
 refine T_f27z_i ?_
 refine T_fzz_i ⟨(by first | assumption | omega | (simp; omega) | (exact sqrt_nar _)), ?_⟩
 rw [e] at hk
 exact hk
theorem f1jz_ok : FnOk Try.prog 176 S_f1jz := by
 refine FnOk.body mix_ok E_f1jz_ok Try.func176 rfl ω15 ω15 ?_ ?_ ?_ ?_ ?_
 ·intro args H K K' h hk
  simp only [S_f1jz] at *
  unfold F_f1jz at *
  split at hk
  ·have k := hk
   exact h _ _ k
  ·exact hk.elim
 ·intro _ args H K hk
  simp only [S_f1jz] at *
  unfold F_f1jz at *
  split at hk
  ·have k := hk
   exact ⟨_, k, fun K' k' => k'⟩
  ·exact hk.elim
 ·intro args H K hk
  simp only [S_f1jz] at *
  unfold F_f1jz at *
  split at hk
  ·have k := hk
   exact ⟨_, _, k⟩
  ·exact hk.elim
 ·intro hq; cases hq
 ·have mm := @f1jz_main
  have ml := fun (args : List Value) (H : AHeap) (K : Value → AHeap → Prop) => bodyL_body (P := Try.prog) (env := E_f1jz ) (fn := Try.f176) (args := args) (H := H) (K := K) E_f1jz_ok 
  revert mm ml
  generalize bodyK Try.prog E_f1jz Try.f176 = Q
  generalize bodyL Try.prog E_f1jz Try.f176 = QL
  intro mm ml args H K hk
  simp only [S_f1jz] at *
  unfold F_f1jz at *
  split at hk
  ·exact ml _ H K (mm _ H K hk)
  ·exact hk.elim

def p_fpz (noise : Nat) (count : Int) : Nat × Bool := (bif !(p_f19z noise) then (0, false) else (bif !((p_f25z count (1 : Int) (128 : Int))) then (0, false) else ((p_f11z (fmul .f32 noise ((p_f1jz (fmul .f32 1073741824 ((p_f22z (FloatKind.nearest .f32 count)))))))).1, (p_f11z (fmul .f32 noise ((p_f1jz (fmul .f32 1073741824 ((p_f22z (FloatKind.nearest .f32 count)))))))).2)))
def p_fpz_eq := @p_fpz.eq_1
def T_fpz (noise : Nat) (count : Int) (H : AHeap) (K : Nat → Bool → AHeap → Prop) : Prop := K ((p_fpz noise count).1) ((p_fpz noise count).2) H
theorem T_fpz_i {noise : Nat} {count : Int} {H : AHeap} {K : Nat → Bool → AHeap → Prop} (h : K ((p_fpz noise count).1) ((p_fpz noise count).2) H) : T_fpz noise count H K := h

/-! fpz: function 126 -/
def E_fpz : Env := envOf [(101, S_f19z), (93, S_f25z), (169, S_f22z), (176, S_f1jz), (113, S_f11z)]
def F_fpz : List Value → AHeap → (Value → AHeap → Prop) → Prop
 | [.float .f32 noise, .int .i64 count], H, K => T_fpz noise count H fun (r1 : Nat) (r2 : Bool) (H' : AHeap) => K (.tuple #[.float .f32 r1, .bool r2]) H'
 | _, _, _ => False
def S_fpz : FSpec := { F := F_fpz, quiet := true, tame := false }
theorem fpz_vc (noise : Nat) (count : Int) (H : AHeap) (K : Value → AHeap → Prop) : bodyL Try.prog E_fpz Try.f126 [.float .f32 noise, .int .i64 count] H K =
 (T_f19z noise H fun (r1 : Bool) (H1 : AHeap) => Br (!r1) (K (.tuple #[.float .f32 0, .bool false]) H1) (T_f25z count 1 128 H1 fun (r2 : Bool) (H2 : AHeap) => Br (!r2) (K (.tuple #[.float .f32 0, .bool false]) H2) (T_f22z (FloatKind.nearest .f32 count) H2 fun (r3 : Nat) (H3 : AHeap) => T_f1jz (fmul .f32 1073741824 r3) H3 fun (r4 : Nat) (H4 : AHeap) => T_f11z (fmul .f32 noise r4) H4 fun (r5 : Nat) (r6 : Bool) (H5 : AHeap) => K (.tuple #[.float .f32 r5, .bool r6]) H5))) := by kernel_rfl
theorem E_fpz_ok : ∀ g, FnOk Try.prog g (E_fpz g) := FnOk.envOf (by
 intro x hx
 simp only [List.mem_cons, List.not_mem_nil, or_false] at hx
 rcases hx with rfl | rfl | rfl | rfl | rfl
 ·exact f19z_ok
 ·exact f25z_ok
 ·exact f22z_ok
 ·exact f1jz_ok
 ·exact f11z_ok)
theorem fpz_main (noise : Nat) (count : Int) (H : AHeap) (K : Value → AHeap → Prop) (h : T_fpz noise count H fun (r1 : Nat) (r2 : Bool) (H' : AHeap) => K (.tuple #[.float .f32 r1, .bool r2]) H') : bodyL Try.prog E_fpz Try.f126 [.float .f32 noise, .int .i64 count] H K := by
 rw [fpz_vc]
 have hk := h
 unfold T_fpz at hk
 have e : (p_fpz noise count) = _ := rfl
 have e := e.trans (p_fpz_eq noise count)
 have g0 := Grow.refl H
 refine T_f19z_i ?_
 refine Br.intro (fun c_1 => ?_) (fun c_1 => ?_)
 ·have e := e.trans (cond_t c_1)
  have c_1n := nf_of_t c_1
  rw [e] at hk
  exact hk
 ·have e := e.trans (cond_f c_1)
  have c_1n := nt_of_f c_1
  refine T_f25z_i ?_
  refine Br.intro (fun c_2 => ?_) (fun c_2 => ?_)
  ·have e := e.trans (cond_t c_2)
   have c_2n := nf_of_t c_2
   rw [e] at hk
   exact hk
  ·have e := e.trans (cond_f c_2)
   have c_2n := nt_of_f c_2
   have c_2n' := f25z_t c_2n
   refine T_f22z_i ?_
   refine T_f1jz_i ?_
   refine T_f11z_i ?_
   rw [e] at hk
   exact hk
theorem fpz_ok : FnOk Try.prog 126 S_fpz := by
 refine FnOk.body mix_ok E_fpz_ok Try.func126 rfl ω15 ω15 ?_ ?_ ?_ ?_ ?_
 ·intro args H K K' h hk
  simp only [S_fpz] at *
  unfold F_fpz at *
  split at hk
  ·have k := hk
   exact h _ _ k
  ·exact hk.elim
 ·intro _ args H K hk
  simp only [S_fpz] at *
  unfold F_fpz at *
  split at hk
  ·have k := hk
   exact ⟨_, k, fun K' k' => k'⟩
  ·exact hk.elim
 ·intro args H K hk
  simp only [S_fpz] at *
  unfold F_fpz at *
  split at hk
  ·have k := hk
   exact ⟨_, _, k⟩
  ·exact hk.elim
 ·intro hq; cases hq
 ·have mm := @fpz_main
  have ml := fun (args : List Value) (H : AHeap) (K : Value → AHeap → Prop) => bodyL_body (P := Try.prog) (env := E_fpz ) (fn := Try.f126) (args := args) (H := H) (K := K) E_fpz_ok 
  revert mm ml
  generalize bodyK Try.prog E_fpz Try.f126 = Q
  generalize bodyL Try.prog E_fpz Try.f126 = QL
  intro mm ml args H K hk
  simp only [S_fpz] at *
  unfold F_fpz at *
  split at hk
  ·exact ml _ H K (mm _ _ H K hk)
  ·exact hk.elim
def p_f14z (x : Nat) (limit : Nat) (hard : Bool) : Nat := (bif !(flt .f32 limit (p_f1oz x)) then 0 else (bif hard then x else (bif flt .f32 x 0 then fneg .f32 (fsub .f32 (p_f1oz x) limit) else fsub .f32 (p_f1oz x) limit)))
def p_f14z_eq := @p_f14z.eq_1
def T_f14z (x : Nat) (limit : Nat) (hard : Bool) (H : AHeap) (K : Nat → AHeap → Prop) : Prop := K (p_f14z x limit hard) H

theorem T_f14z_i {x : Nat} {limit : Nat} {hard : Bool} {H : AHeap} {K : Nat → AHeap → Prop} (h : K (p_f14z x limit hard) H) : T_f14z x limit hard H K := h
/-! f14z: function 175 -/
def E_f14z : Env := envOf [(201, S_f1oz)]
def F_f14z : List Value → AHeap → (Value → AHeap → Prop) → Prop
 | [.float .f32 x, .float .f32 limit, .bool hard], H, K => T_f14z x limit hard H fun (r1 : Nat) (H' : AHeap) => K (.float .f32 r1) H'
 | _, _, _ => False
def S_f14z : FSpec := { F := F_f14z, quiet := true, tame := false }
theorem f14z_vc (x : Nat) (limit : Nat) (hard : Bool) (H : AHeap) (K : Value → AHeap → Prop) : bodyL Try.prog E_f14z Try.f175 [.float .f32 x, .float .f32 limit, .bool hard] H K =
 (T_f1oz x H fun (r1 : Nat) (H1 : AHeap) => Br (!(flt .f32 limit r1)) (K (.float .f32 0) H1) (Br hard (K (.float .f32 x) H1) (Br (flt .f32 x 0) (K (.float .f32 (fneg .f32 (fsub .f32 r1 limit))) H1) (K (.float .f32 (fsub .f32 r1 limit)) H1)))) := by kernel_rfl
theorem E_f14z_ok : ∀ g, FnOk Try.prog g (E_f14z g) := FnOk.envOf (by
 intro x hx
 simp only [List.mem_cons, List.not_mem_nil, or_false] at hx
 subst hx; exact f1oz_ok)
theorem f14z_main (x : Nat) (limit : Nat) (hard : Bool) (H : AHeap) (K : Value → AHeap → Prop) (h : T_f14z x limit hard H fun (r1 : Nat) (H' : AHeap) => K (.float .f32 r1) H') : bodyL Try.prog E_f14z Try.f175 [.float .f32 x, .float .f32 limit, .bool hard] H K := by
 rw [f14z_vc]
 simp only [T_f1oz]
 unfold T_f14z p_f14z at h
 repeat' (first | exact h | (exfalso; simp_all; done) | (refine ⟨by decide, ?_⟩) | (refine Br.intro (fun hb => ?_) (fun hb => ?_) <;> (try simp only [hb, cond_true, cond_false, Bool.not_true, Bool.not_false] at h)))
theorem f14z_ok : FnOk Try.prog 175 S_f14z := by
 refine FnOk.body mix_ok E_f14z_ok Try.func175 rfl ω15 ω15 ?_ ?_ ?_ ?_ ?_
 ·intro args H K K' h hk
  simp only [S_f14z] at *
  unfold F_f14z at *
  split at hk
  ·have k := hk
   exact h _ _ k
  ·exact hk.elim
 ·intro _ args H K hk
  simp only [S_f14z] at *
  unfold F_f14z at *
  split at hk
  ·have k := hk
   exact ⟨_, k, fun K' k' => k'⟩
  ·exact hk.elim
 ·intro args H K hk
  simp only [S_f14z] at *
  unfold F_f14z at *
  split at hk
  ·have k := hk
   exact ⟨_, _, k⟩
  ·exact hk.elim
 ·intro hq; cases hq
 ·have mm := @f14z_main
  have ml := fun (args : List Value) (H : AHeap) (K : Value → AHeap → Prop) => bodyL_body (P := Try.prog) (env := E_f14z ) (fn := Try.f175) (args := args) (H := H) (K := K) E_f14z_ok 
  revert mm ml
  generalize bodyK Try.prog E_f14z Try.f175 = Q
  generalize bodyL Try.prog E_f14z Try.f175 = QL
  intro mm ml args H K hk
  simp only [S_f14z] at *
  unfold F_f14z at *
  split at hk
  ·exact ml _ H K (mm _ _ _ H K hk)
  ·exact hk.elim

def p_f1qz_l1 (aa : LN) (limit : Nat) (hard : Bool) : Nat → LN → Int → LN
 | 0, _, _ => []
 | μ + 1, lb, t12 => (bif decide ((t12 : Int) < (aa.length : Int)) then (p_f1qz_l1 aa limit hard μ ((lb ++ [((p_f14z (((aa).getD (t12 : Int).toNat 0)) limit hard))])) (t12 + 1)) else lb)
def p_f1qz_l1_s := fun aa limit hard μ lb t12 => @p_f1qz_l1.eq_2 aa limit hard lb t12 μ
def p_f1qz (aa : LN) (limit : Nat) (hard : Bool) : LN := (p_f1qz_l1 aa limit hard (Int.toNat ((aa.length : Int) - (0 : Int)) + 1) ([] : LN) (0 : Int))
def p_f1qz_eq := @p_f1qz.eq_1
def T_f1qz (ea : OA) (da : Nat) (ga : Nat) (limit : Nat) (hard : Bool) (H : AHeap) (K : OA → Nat → Nat → AHeap → Prop) : Prop := ∃ (aa : LN), IsL fF H ea da aa ∧ aa.length < 1073741824 ∧ ((∀ (ib : OA) (kb jb : Nat), ∀ H' : AHeap, Grow H H' → OwnS fF H' H.length ib kb jb (p_f1qz aa limit hard) → K ib kb jb H'))
theorem T_f1qz_i {ea : OA} {da : Nat} {ga : Nat} {limit : Nat} {hard : Bool} {H : AHeap} {K : OA → Nat → Nat → AHeap → Prop} (h : ∃ (aa : LN), IsL fF H ea da aa ∧ aa.length < 1073741824 ∧ ((∀ (ib : OA) (kb jb : Nat), ∀ H' : AHeap, Grow H H' → OwnS fF H' H.length ib kb jb (p_f1qz aa limit hard) → K ib kb jb H'))) : T_f1qz ea da ga limit hard H K := h
theorem f1qz_go (l : LN) (limit : Nat) (hard : Bool) : ∀ (μ : Nat) (o : LN) (i : Nat), l.length - i < μ → p_f1qz_l1 l limit hard μ o (i : Int) = o ++ (l.drop i).map (fun x => p_f14z x limit hard) := by
 intro μ
 induction μ with
 | zero => intro o i h; omega
 | succ μ ih =>
  intro o i hm
  rw [p_f1qz_l1_s]
  by_cases h : i < l.length
  ·rw [decide_eq_true (show (i : Int) < (l.length : Int) by omega), cond_true, Int.toNat_natCast]
   refine Eq.trans (ih _ (i + 1) ω2) ?_
   rw [List.drop_eq_getElem_cons h, List.map_cons, List.getD_eq_getElem?_getD, List.getElem?_eq_getElem h]
   simp
  ·rw [decide_eq_false (show ¬ (i : Int) < (l.length : Int) by omega), cond_false, List.drop_eq_nil_of_le ω2]; simp
theorem f1qz_map (l : LN) (limit : Nat) (hard : Bool) : p_f1qz l limit hard = l.map (fun x => p_f14z x limit hard) := by
 rw [p_f1qz_eq]
 have := f1qz_go l limit hard (Int.toNat ((l.length : Int) - (0 : Int)) + 1) [] 0 ω2
 simpa using this
theorem f1qz_len (l : LN) (limit : Nat) (hard : Bool) : (p_f1qz l limit hard).length = l.length := by rw [f1qz_map]; simp
/-! f1qz: function 121 -/
def E_f1qz : Env := envOf [(175, S_f14z)]
def F_f1qz : List Value → AHeap → (Value → AHeap → Prop) → Prop
 | [.slice ea da ga, .float .f32 limit, .bool hard], H, K => T_f1qz ea da ga limit hard H fun (ib : OA) (kb : Nat) (jb : Nat) (H' : AHeap) => K (.slice ib kb jb) H'
 | _, _, _ => False
def S_f1qz : FSpec := { F := F_f1qz, quiet := false, tame := true }
theorem f1qz_vc (ea : OA) (da : Nat) (ga : Nat) (limit : Nat) (hard : Bool) (H : AHeap) (K : Value → AHeap → Prop) : bodyL Try.prog E_f1qz Try.f121 [.slice ea da ga, .float .f32 limit, .bool hard] H K =
 (Al [] H fun b1 H1 => loopK (exL Try.prog E_f1qz (cl (cl (cr (cl (cr (cr (bodyC Try.f121))))))) 6279 64 [(0, 128)]) (.slice ea da ga :: .float .f32 limit :: .bool hard :: ud4 (.slice (some ⟨b1, 0, none⟩) 0 1 :: ud3 (.int .i64 (da : Int) :: .int .i64 0 :: ud14 []))) H1 (blockQ 0 (seqQ (exL Try.prog E_f1qz (cr (cr (cr (bodyC Try.f121)))) 64 64 []) (retK Try.prog Try.f121 K)))) := by kernel_rfl
abbrev f1qz_P1 (hard : Bool) (limit : Nat) (ea : OA) (ga : Nat) (da : Nat) (oa : OA) (na : Nat) (pa : Nat) (t12 : Int)  : List Value := (.slice ea da ga :: .float .f32 limit :: .bool hard :: ud4 (.slice oa na pa :: ud3 (.int .i64 (da : Int) :: .int .i64 t12 :: ud14 [])))
theorem f1qz_r1 (hard : Bool) (limit : Nat) (ea : OA) (ga : Nat) (da : Nat) (oa : OA) (na : Nat) (pa : Nat) (t12 : Int)  (H : AHeap) (R : Post) : exL Try.prog E_f1qz (cl (cl (cr (cl (cr (cr (bodyC Try.f121))))))) 6279 64 [(0, 128)] (f1qz_P1 hard limit ea ga da oa na pa t12) H R =
 (Br (decide ((t12 : Int) < (da : Int))) ((0 : Int) ≤ t12 ∧ t12 < (da : Int) ∧ ∃ b2 f1, (ea : OA) = some ⟨b2, f1, none⟩ ∧ ∃ x1 : Nat,  rdC H b2 (f1 + (t12 : Int).toNat * 1) = some (.float .f32 x1) ∧ T_f14z x1 limit hard H fun (r1 : Nat) (H2 : AHeap) => Al [.float .f32 r1] H2 fun b3 H3 => ∃ o1 w1 : List Value, ownB H3 oa na pa 1 = some o1 ∧ rdS H3 (some ⟨b3, 0, none⟩) (1 * 1) = some w1 ∧ ((oa : OA) = none → 0 < (1 : Nat)) ∧ (na : Nat) + 1 < most ∧ Ap H3 (killB H3 oa ++ [some ⟨o1 ++ w1, true⟩]) fun b4 H4 => R .normal (.slice ea da ga :: .float .f32 limit :: .bool hard :: ud4 (.slice (some ⟨b4, 0, none⟩) (na + 1) 1 :: ud3 (.int .i64 (da : Int) :: .int .i64 (IntKind.wrap .i64 (t12 + 1)) :: ud14 []))) H4) (R (.exit 0) (ud7 (.slice oa na pa :: ud19 [])) H)) := by kernel_rfl
def f1qz_I1 (hard : Bool) (limit : Nat) (ea : OA) (ga : Nat) (da : Nat) (Inv : Nat → OA → Nat → Nat → Int → AHeap → Prop) : Nat → List Value → AHeap → Prop := fun μ tm H => ∃ (oa : OA), ∃ (na : Nat), ∃ (pa : Nat), ∃ (t12 : Int), tm = (f1qz_P1 hard limit ea ga da oa na pa t12) ∧ Inv μ oa na pa t12 H
theorem f1qz_L1 (hard : Bool) (limit : Nat) (ea : OA) (ga : Nat) (da : Nat) {Q : Post} (Inv : Nat → OA → Nat → Nat → Int → AHeap → Prop) (ν : Nat) (oa : OA) (na : Nat) (pa : Nat) (t12 : Int)  (H : AHeap) (h0 : Inv ν oa na pa t12 H)
  (hs : ∀ (μ : Nat) (oa : OA) (na : Nat) (pa : Nat) (t12 : Int)  (H : AHeap), Inv μ oa na pa t12 H → exL Try.prog E_f1qz (cl (cl (cr (cl (cr (cr (bodyC Try.f121))))))) 6279 64 [(0, 128)] (f1qz_P1 hard limit ea ga da oa na pa t12) H (loopQ (f1qz_I1 hard limit ea ga da Inv) μ Q)) : loopK (exL Try.prog E_f1qz (cl (cl (cr (cl (cr (cr (bodyC Try.f121))))))) 6279 64 [(0, 128)]) (f1qz_P1 hard limit ea ga da oa na pa t12) H Q :=
 ⟨f1qz_I1 hard limit ea ga da Inv, ν, ⟨oa, na, pa, t12, rfl, h0⟩, fun μ tm H h => by obtain ⟨oa, na, pa, t12, rfl, hI⟩ := h; exact hs μ oa na pa t12  H hI⟩
theorem f1qz_n1 {hard : Bool} {limit : Nat} {ea : OA} {ga : Nat} {da : Nat} {Q : Post} {Inv : Nat → OA → Nat → Nat → Int → AHeap → Prop} {μ : Nat} (μ' : Nat) {oa : OA} {na : Nat} {pa : Nat} {t12 : Int}  {H : AHeap} (hm : μ' < μ) (hI : Inv μ' oa na pa t12 H) : loopQ (f1qz_I1 hard limit ea ga da Inv) μ Q .normal (f1qz_P1 hard limit ea ga da oa na pa t12) H := ⟨μ', hm, oa, na, pa, t12, rfl, hI⟩
theorem f1qz_x1_0 (oa : OA) (na : Nat) (pa : Nat) (H : AHeap) (K : Value → AHeap → Prop)  {I : Nat → List Value → AHeap → Prop} {μ : Nat} : loopQ I μ (blockQ 0 (seqQ (exL Try.prog E_f1qz (cr (cr (cr (bodyC Try.f121)))) 64 64 []) (retK Try.prog Try.f121 K))) (.exit 0) (ud7 (.slice oa na pa :: ud19 [])) H =
 (K (.slice oa na pa) H) := by kernel_rfl
theorem E_f1qz_ok : ∀ g, FnOk Try.prog g (E_f1qz g) := FnOk.envOf (by
 intro x hx
 simp only [List.mem_cons, List.not_mem_nil, or_false] at hx
 subst hx; exact f14z_ok)
theorem f1qz_main (ea : OA) (da : Nat) (ga : Nat) (limit : Nat) (hard : Bool) (H : AHeap) (K : Value → AHeap → Prop) (h : T_f1qz ea da ga limit hard H fun (ib : OA) (kb : Nat) (jb : Nat) (H' : AHeap) => K (.slice ib kb jb) H') : bodyL Try.prog E_f1qz Try.f121 [.slice ea da ga, .float .f32 limit, .bool hard] H K := by
 rw [f1qz_vc]
 obtain ⟨aa, i_list, bd_48, hk⟩ := h
 obtain rfl := i_list.eqn
 have e : (p_f1qz aa limit hard) = _ := rfl
 have e := e.trans (p_f1qz_eq aa limit hard)
 have g0 := Grow.refl H
 refine Al.intro (fun b_1 H_1 hb_2 hl_3 g_4 o_5 => ?_)
 have o_5 : Own H_1 b_1 ((([] : LN)).map fF) := o_5
 have l7 := g_4.1
 have g8 := g0.trans g_4
 have l9 := g8.1
 have w47 := o_5.lt
 refine f1qz_L1 _ _ _ _ _ (fun (μ : Nat) (oa : OA) (na : Nat) (pa : Nat) (t12 : Int) (H_2 : AHeap) => ∃ (lb : LN), ∃ (b_10 : Nat), oa = some ⟨b_10, 0, none⟩ ∧ na = lb.length ∧ pa = 1 ∧ Own H_2 b_10 (lb.map fF) ∧ Grow H H_2 ∧ H.length ≤ b_10 ∧ (0 : Int) ≤ t12 ∧ t12 ≤ (aa.length : Int) ∧ (lb.length : Int) ≤ t12 - (0 : Int) + 0 ∧ (aa.length : Int) - t12 ≤ (μ : Int) ∧ p_f1qz aa limit hard = p_f1qz_l1 aa limit hard (μ + 1) lb t12) (Int.toNat ((aa.length : Int) - (0 : Int))) _ _ _ _ H_1 ?_ ?_
 ·exact ⟨_, _, rfl, ω10, rfl, o_5, g8, ω2, ω7, ω7, ω7, ω2, e⟩
 ·intro μ oa na pa t12  H_2 hI
  obtain ⟨lb, b_10, rfl, rfl, rfl, o11, g12, l13, v14, v15, v16, hμ, e⟩ := hI
  rw [f1qz_r1]
  have e := e.trans (p_f1qz_l1_s aa limit hard μ lb t12)
  have w17 := o11.lt
  have l18 := g12.1
  refine Br.intro (fun c19 => ?_) (fun c19 => ?_)
  ·have e := e.trans (cond_t c19)
   have c_19' := of_decide_eq_true c19
   obtain ⟨b20, f21, q22⟩ := ((i_list.grow g12)).pos ω0
   refine ⟨by omega, by omega, b20, f21, q22, ?_⟩
   refine ⟨((aa).getD (t12 : Int).toNat 0), (i_list).rd g12 q22 ω2 _, ?_⟩
   refine T_f14z_i ?_
   refine Al.intro (fun b23 H_3 hb_24 hl_25 g26 o27 => ?_)
   have o27 : Own H_3 b23 (([((p_f14z (((aa).getD (t12 : Int).toNat 0)) limit hard))]).map fF) := o27
   have l29 := g26.1
   have g30 := g12.trans g26
   have l31 := g30.1
   have o32 := o11.grow g26
   have w33 := o32.lt
   have w46 := o27.lt
   refine ⟨_, _, o32.ownB ω5 rfl, (isl_rdS (o27.isL ω10)), (fun h => by cases h), ω24, ?_⟩
   refine Ap.app o32 rfl rfl (fun b38 H_4 q44 hl_34 o35 k36 => ?_)
   have o35 := map_snoc o35
   have l39 := k36.1
   have g40 := g30.keep (b := b_10) ω2 k36
   have l41 := g40.1
   have o42 := o27.keep ω2 k36
   have w43 := o42.lt
   have w45 := o35.lt
   rw [show IntKind.wrap .i64 (t12 + 1) = (t12 + 1) from wrap64 ω2 ω2]
   refine f1qz_n1 (μ - 1) ω17 ⟨_, _, rfl, ω8, rfl, o35, g40, ω2, ω1, ω1, ω1, ω17, ω12⟩
  ·have e := e.trans (cond_f c19)
   have c_19' := of_decide_eq_false c19
   rw [f1qz_x1_0]
   rw [e] at hk
   exact hk _ _ _ H_2 g12 (o11.ownS ω10 ω2)
theorem f1qz_ok : FnOk Try.prog 121 S_f1qz := by
 refine FnOk.body mix_ok E_f1qz_ok Try.func121 rfl ω15 ω15 ?_ ?_ ?_ ?_ ?_
 ·intro args H K K' h hk
  simp only [S_f1qz] at *
  unfold F_f1qz at *
  split at hk
  ·obtain ⟨aa, i_list, bd_48, k⟩ := hk
   exact ⟨aa, i_list, bd_48, (fun ib kb jb H' gg ow0 => h _ _ (k ib kb jb H' gg ow0))⟩
  ·exact hk.elim
 ·intro hq; cases hq
 ·intro args H K hk
  simp only [S_f1qz] at *
  unfold F_f1qz at *
  split at hk
  ·obtain ⟨aa, i_list, bd_48, k⟩ := hk
   exact liveS fun a n e H1 g o => ⟨_, _, k a n e H1 g o⟩
  ·exact hk.elim
 ·intro _ args H K hk
  simp only [S_f1qz] at *
  unfold F_f1qz at *
  split at hk
  ·obtain ⟨aa, i_list, bd_48, k⟩ := hk
   exact ⟨aa, i_list, bd_48, (fun ib kb jb H' gg ow0 => ⟨gg, k ib kb jb H' gg ow0⟩)⟩
  ·exact hk.elim
 ·have mm := @f1qz_main
  have ml := fun (args : List Value) (H : AHeap) (K : Value → AHeap → Prop) => bodyL_body (P := Try.prog) (env := E_f1qz ) (fn := Try.f121) (args := args) (H := H) (K := K) E_f1qz_ok 
  revert mm ml
  generalize bodyK Try.prog E_f1qz Try.f121 = Q
  generalize bodyL Try.prog E_f1qz Try.f121 = QL
  intro mm ml args H K hk
  simp only [S_f1qz] at *
  unfold F_f1qz at *
  split at hk
  ·exact ml _ H K (mm _ _ _ _ _ H K hk)
  ·exact hk.elim

def p_fcz_l1 (fa : LN) (ca : List LN) (ya : LN) (hard : Bool) : Nat → Bool → Int → (List LN) → LN × (List LN) × Bool
 | 0, _, _, _ => ([], [], false)
 | μ + 1, t7, t29, q1_4 => (bif decide ((t29 : Int) < (ca.length : Int)) then (bif !((p_f19z (((ya).getD (t29 : Int).toNat 0)))) then ([], [], false) else (p_fcz_l1 fa ca ya hard μ t7 (t29 + 1) ((q1_4 ++ [(p_f1qz (((ca).getD (t29 : Int).toNat [])) (((ya).getD (t29 : Int).toNat 0)) hard)])))) else ((([] : LN) ++ fa), q1_4, true))
def p_fcz_l1_s := fun fa ca ya hard μ t7 t29 q1_4 => @p_fcz_l1.eq_2 fa ca ya hard t7 t29 q1_4 μ
def p_fcz (fa : LN) (ca : List LN) (ya : LN) (hard : Bool) : LN × (List LN) × Bool := ((bif !(p_f1az fa ca) then ([], [], false) else (bif ((ya.length : Int) : Int) != (ca.length : Int) then ([], [], false) else (p_fcz_l1 fa ca ya hard (Int.toNat ((ca.length : Int) - (0 : Int)) + 1) false (0 : Int) ([])))))
def p_fcz_eq := @p_fcz.eq_1
def T_fcz (ta : OA) (xa : Nat) (va : Nat) (qa : OA) (ua : Nat) (sa : Nat) (za : OA) (wa : Nat) (cb : Nat) (hard : Bool) (H : AHeap) (K : OA → Nat → Nat → OA → Nat → Nat → Bool → AHeap → Prop) : Prop := ∃ (fa : LN), ∃ (ca : List LN), ∃ (ya : LN), IsL fF H ta xa fa ∧ IsLL fF H qa ua ca ∧ IsL fF H za wa ya ∧ fa.length < 1073741824 ∧ ca.length < 1073741824 ∧ ya.length < 1073741824 ∧ (∀ y ∈ ca, y.length < 1073741824) ∧ ((∀ (mb : OA) (ob nb : Nat), ∀ (db : OA) (gb eb : Nat), ∀ H' : AHeap, Grow H H' → OwnS fF H' H.length mb ob nb ((p_fcz fa ca ya hard).1) → OwnLL fF H' H.length H'.length db gb eb ((p_fcz fa ca ya hard).2.1) → K mb ob nb db gb eb ((p_fcz fa ca ya hard).2.2) H'))
theorem T_fcz_i {ta : OA} {xa : Nat} {va : Nat} {qa : OA} {ua : Nat} {sa : Nat} {za : OA} {wa : Nat} {cb : Nat} {hard : Bool} {H : AHeap} {K : OA → Nat → Nat → OA → Nat → Nat → Bool → AHeap → Prop} (h : ∃ (fa : LN), ∃ (ca : List LN), ∃ (ya : LN), IsL fF H ta xa fa ∧ IsLL fF H qa ua ca ∧ IsL fF H za wa ya ∧ fa.length < 1073741824 ∧ ca.length < 1073741824 ∧ ya.length < 1073741824 ∧ (∀ y ∈ ca, y.length < 1073741824) ∧ ((∀ (mb : OA) (ob nb : Nat), ∀ (db : OA) (gb eb : Nat), ∀ H' : AHeap, Grow H H' → OwnS fF H' H.length mb ob nb ((p_fcz fa ca ya hard).1) → OwnLL fF H' H.length H'.length db gb eb ((p_fcz fa ca ya hard).2.1) → K mb ob nb db gb eb ((p_fcz fa ca ya hard).2.2) H'))) : T_fcz ta xa va qa ua sa za wa cb hard H K := h
theorem fcz_go (a : LN) (ds : List LN) (m : LN) (h : Bool) (hd : ds.length ≤ 6) : ∀ (μ : Nat) (b : Bool) (i : Int) (o : List LN), (o.length : Int) ≤ i → i ≤ (ds.length : Int) → ((∀ y ∈ ds, y.length < 1073741824) → ∀ y ∈ o, y.length < 1073741824) →
  (p_fcz_l1 a ds m h μ b i o).1.length ≤ a.length ∧ (p_fcz_l1 a ds m h μ b i o).2.1.length ≤ 6 ∧ ((∀ y ∈ ds, y.length < 1073741824) → ∀ y ∈ (p_fcz_l1 a ds m h μ b i o).2.1, y.length < 1073741824) := by
 intro μ
 induction μ with
 | zero => intro b i o h1 h2 h3; exact ⟨Nat.zero_le _, Nat.zero_le _, fun _ y hy => by cases hy⟩
 | succ μ ih =>
  intro b i o h1 h2 h3
  rw [p_fcz_l1_s]
  refine cnb (P := fun r : LN × List LN × Bool => r.1.length ≤ a.length ∧ r.2.1.length ≤ 6 ∧ ((∀ y ∈ ds, y.length < 1073741824) → ∀ y ∈ r.2.1, y.length < 1073741824)) (fun hc => ?_) (fun _ => ⟨by rw [List.nil_append]; exact Nat.le_refl _, by show o.length ≤ 6; omega, h3⟩)
  have hc := of_decide_eq_true hc
  refine cnb (P := fun r : LN × List LN × Bool => r.1.length ≤ a.length ∧ r.2.1.length ≤ 6 ∧ ((∀ y ∈ ds, y.length < 1073741824) → ∀ y ∈ r.2.1, y.length < 1073741824)) (fun _ => ⟨Nat.zero_le _, Nat.zero_le _, fun _ y hy => by cases hy⟩) (fun _ => ?_)
  refine ih _ _ _ ω31 ω2 (fun hb y hy => ?_)
  rcases List.mem_append.1 hy with hy | hy
  ·exact h3 hb y hy
  ·rw [List.mem_singleton.1 hy, f1qz_len]; exact getD_len hb _
theorem fcz_all (a : LN) (ds : List LN) (m : LN) (h : Bool) : (p_fcz a ds m h).1.length ≤ a.length ∧ (p_fcz a ds m h).2.1.length ≤ 6 ∧ ((∀ y ∈ ds, y.length < 1073741824) → ∀ y ∈ (p_fcz a ds m h).2.1, y.length < 1073741824) := by
 rw [p_fcz_eq]
 refine cnb (P := fun r : LN × List LN × Bool => r.1.length ≤ a.length ∧ r.2.1.length ≤ 6 ∧ ((∀ y ∈ ds, y.length < 1073741824) → ∀ y ∈ r.2.1, y.length < 1073741824)) (fun _ => ⟨Nat.zero_le _, Nat.zero_le _, fun _ y hy => by cases hy⟩) (fun hc => ?_)
 have hw := f1az_t (nt_of_f hc)
 refine cnb (P := fun r : LN × List LN × Bool => r.1.length ≤ a.length ∧ r.2.1.length ≤ 6 ∧ ((∀ y ∈ ds, y.length < 1073741824) → ∀ y ∈ r.2.1, y.length < 1073741824)) (fun _ => ⟨Nat.zero_le _, Nat.zero_le _, fun _ y hy => by cases hy⟩) (fun _ => ?_)
 exact fcz_go a ds m h hw.2.1 _ _ _ _ (by simp) ω2 (fun _ y hy => by cases hy)
theorem fcz_len (a : LN) (ds : List LN) (m : LN) (h : Bool) : (p_fcz a ds m h).1.length ≤ a.length ∧ (p_fcz a ds m h).2.1.length ≤ 6 := ⟨(fcz_all a ds m h).1, (fcz_all a ds m h).2.1⟩
theorem fcz_big (a : LN) (ds : List LN) (m : LN) (h : Bool) : (∀ y ∈ ds, y.length < 1073741824) → ∀ y ∈ (p_fcz a ds m h).2.1, y.length < 1073741824 := (fcz_all a ds m h).2.2
/-! fcz: function 33 -/
def E_fcz : Env := envOf [(112, S_f1az), (101, S_f19z), (121, S_f1qz)]
def F_fcz : List Value → AHeap → (Value → AHeap → Prop) → Prop
 | [.agg ⟨[.slice ta xa va, .slice qa ua sa]⟩, .slice za wa cb, .bool hard], H, K => T_fcz ta xa va qa ua sa za wa cb hard H fun (mb : OA) (ob : Nat) (nb : Nat) (db : OA) (gb : Nat) (eb : Nat) (r2 : Bool) (H' : AHeap) => K (.tuple #[.agg #[.slice mb ob nb, .slice db gb eb], .bool r2]) H'
 | _, _, _ => False
def S_fcz : FSpec := { F := F_fcz, quiet := false, tame := true }
theorem fcz_vc (ta : OA) (xa : Nat) (va : Nat) (qa : OA) (ua : Nat) (sa : Nat) (za : OA) (wa : Nat) (cb : Nat) (hard : Bool) (H : AHeap) (K : Value → AHeap → Prop) : bodyL Try.prog E_fcz Try.f33 [.agg #[.slice ta xa va, .slice qa ua sa], .slice za wa cb, .bool hard] H K =
 (Al [.slice ta xa va, .slice qa ua sa] H fun b1 H1 => Al [.slice none 0 0, .slice none 0 0] H1 fun b2 H2 => T_f1az b1 H2 fun (r1 : Bool) (H3 : AHeap) => Br (!r1) (isOwn H3 b2 ∧ (∃ l, rdN H3 b2 0 2 = some l) ∧ Lt (setN H3 b2 0 [.slice none 0 0, .slice none 0 0]) fun H4 => ∃ xe : OA, ∃ ze : Nat, ∃ ye : Nat, ∃ af : OA, ∃ cf : Nat, ∃ bf : Nat,  rdN H4 b2 0 2 = some [.slice xe ze ye, .slice af cf bf] ∧ K (.tuple #[.agg #[.slice xe ze ye, .slice af cf bf], .bool false]) H4) (∃ sc : OA, ∃ bb : Nat, ∃ tc : Nat,  rdC H3 b1 1 = some (.slice sc bb tc) ∧ Br (((wa : Int) : Int) != (bb : Int)) (isOwn H3 b2 ∧ (∃ l, rdN H3 b2 0 2 = some l) ∧ Lt (setN H3 b2 0 [.slice none 0 0, .slice none 0 0]) fun H5 => ∃ yf : OA, ∃ ag : Nat, ∃ zf : Nat, ∃ bg : OA, ∃ eg : Nat, ∃ dg : Nat,  rdN H5 b2 0 2 = some [.slice yf ag zf, .slice bg eg dg] ∧ K (.tuple #[.agg #[.slice yf ag zf, .slice bg eg dg], .bool false]) H5) (Al [] H3 fun b3 H6 => ∃ oe : OA, ∃ je : Nat, ∃ te : Nat,  rdC H6 b1 0 = some (.slice oe je te) ∧ ∃ o1 w1 : List Value, ownB H6 (some ⟨b3, 0, none⟩) 0 1 1 = some o1 ∧ rdS H6 oe (je * 1) = some w1 ∧ ((some ⟨b3, 0, none⟩ : OA) = none → 0 < (je : Nat)) ∧ (0 : Nat) + je < most ∧ Ap H6 (killB H6 (some ⟨b3, 0, none⟩) ++ [some ⟨o1 ++ w1, true⟩]) fun b4 H7 => Al [.slice none 0 0, .slice none 0 0] H7 fun b5 H8 => isOwn H8 b5 ∧ (∃ l, rdN H8 b5 0 2 = some l) ∧ Lt (setN H8 b5 0 [.slice (some ⟨b4, 0, none⟩) (0 + je) 1, .slice none 0 0]) fun H9 => ∃ re : OA, ∃ zd : Nat, ∃ ue : Nat,  rdC H9 b1 1 = some (.slice re zd ue) ∧ loopK (exL Try.prog E_fcz (cl (cl (cr (cl (cr (cr (cr (bodyC Try.f33)))))))) 805306702 192 [(0, 320)]) (ud :: .slice za wa cb :: .bool hard :: .pointer (some ⟨b1, 0, none⟩) :: ud2 (.pointer (some ⟨b2, 0, none⟩) :: ud :: .pointer (some ⟨b5, 0, none⟩) :: ud19 (.int .i64 (zd : Int) :: .int .i64 0 :: ud27 []))) H9 (blockQ 0 (seqQ (exL Try.prog E_fcz (cr (cr (cr (cr (bodyC Try.f33))))) 192 192 []) (retK Try.prog Try.f33 K)))))) := by kernel_rfl
abbrev fcz_P1 (b1 : Nat) (b2 : Nat) (b5 : Nat) (hard : Bool) (za : OA) (cb : Nat) (wa : Nat) (zd : Nat) (t29 : Int)  : List Value := (ud :: .slice za wa cb :: .bool hard :: .pointer (some ⟨b1, 0, none⟩) :: ud2 (.pointer (some ⟨b2, 0, none⟩) :: ud :: .pointer (some ⟨b5, 0, none⟩) :: ud19 (.int .i64 (zd : Int) :: .int .i64 t29 :: ud27 [])))
theorem fcz_r1 (b1 : Nat) (b2 : Nat) (b5 : Nat) (hard : Bool) (za : OA) (cb : Nat) (wa : Nat) (zd : Nat) (t29 : Int)  (H : AHeap) (R : Post) : exL Try.prog E_fcz (cl (cl (cr (cl (cr (cr (cr (bodyC Try.f33)))))))) 805306702 192 [(0, 320)] (fcz_P1 b1 b2 b5 hard za cb wa zd t29) H R =
 (Br (decide ((t29 : Int) < (zd : Int))) ((0 : Int) ≤ t29 ∧ t29 < (wa : Int) ∧ ∃ b6 f1, (za : OA) = some ⟨b6, f1, none⟩ ∧ ∃ x4 : Nat,  rdC H b6 (f1 + (t29 : Int).toNat * 1) = some (.float .f32 x4) ∧ T_f19z x4 H fun (r2 : Bool) (H10 : AHeap) => Br (!r2) (isOwn H10 b2 ∧ (∃ l, rdN H10 b2 0 2 = some l) ∧ Lt (setN H10 b2 0 [.slice none 0 0, .slice none 0 0]) fun H11 => R .ret (ud6 (.pointer (some ⟨b2, 0, none⟩) :: .bool false :: ud49 [])) H11) (∃ mh : OA, ∃ tf : Nat, ∃ di : Nat,  rdC H10 b1 1 = some (.slice mh tf di) ∧ ∃ df : OA, ∃ se : Nat, ∃ uf : Nat,  rdC H10 b5 1 = some (.slice df se uf) ∧ (0 : Int) ≤ t29 ∧ t29 < (tf : Int) ∧ ∃ b7 f2, (mh : OA) = some ⟨b7, f2, none⟩ ∧ ∃ ii : OA, ∃ nh : Nat, ∃ ji : Nat,  rdC H10 b7 (f2 + (t29 : Int).toNat * 1) = some (.slice ii nh ji) ∧ (0 : Int) ≤ t29 ∧ t29 < (wa : Int) ∧ ∃ b8 f3, (za : OA) = some ⟨b8, f3, none⟩ ∧ ∃ x8 : Nat,  rdC H10 b8 (f3 + (t29 : Int).toNat * 1) = some (.float .f32 x8) ∧ T_f1qz ii nh ji x8 hard H10 fun (a1 : OA) (r3 : Nat) (r4 : Nat) (H12 : AHeap) => Al [.slice a1 r3 r4] H12 fun b9 H13 => ∃ o2 w2 : List Value, ownB H13 df se uf 1 = some o2 ∧ rdS H13 (some ⟨b9, 0, none⟩) (1 * 1) = some w2 ∧ ((df : OA) = none → 0 < (1 : Nat)) ∧ (se : Nat) + 1 < most ∧ Ap H13 (killB H13 df ++ [some ⟨o2 ++ w2, true⟩]) fun b10 H14 => isOwn H14 b5 ∧ (∃ l, rdN H14 b5 1 1 = some l) ∧ Lt (setC H14 b5 1 (.slice (some ⟨b10, 0, none⟩) (se + 1) 1)) fun H15 => R .normal (ud :: .slice za wa cb :: .bool hard :: .pointer (some ⟨b1, 0, none⟩) :: ud2 (.pointer (some ⟨b2, 0, none⟩) :: ud :: .pointer (some ⟨b5, 0, none⟩) :: ud19 (.int .i64 (zd : Int) :: .int .i64 (IntKind.wrap .i64 (t29 + 1)) :: ud27 []))) H15)) (R (.exit 0) (ud6 (.pointer (some ⟨b2, 0, none⟩) :: ud :: .pointer (some ⟨b5, 0, none⟩) :: ud48 [])) H)) := by kernel_rfl
def fcz_I1 (b1 : Nat) (b2 : Nat) (b5 : Nat) (hard : Bool) (za : OA) (cb : Nat) (wa : Nat) (zd : Nat) (Inv : Nat → Int → AHeap → Prop) : Nat → List Value → AHeap → Prop := fun μ tm H => ∃ (t29 : Int), tm = (fcz_P1 b1 b2 b5 hard za cb wa zd t29) ∧ Inv μ t29 H
theorem fcz_L1 (b1 : Nat) (b2 : Nat) (b5 : Nat) (hard : Bool) (za : OA) (cb : Nat) (wa : Nat) (zd : Nat) {Q : Post} (Inv : Nat → Int → AHeap → Prop) (ν : Nat) (t29 : Int)  (H : AHeap) (h0 : Inv ν t29 H)
  (hs : ∀ (μ : Nat) (t29 : Int)  (H : AHeap), Inv μ t29 H → exL Try.prog E_fcz (cl (cl (cr (cl (cr (cr (cr (bodyC Try.f33)))))))) 805306702 192 [(0, 320)] (fcz_P1 b1 b2 b5 hard za cb wa zd t29) H (loopQ (fcz_I1 b1 b2 b5 hard za cb wa zd Inv) μ Q)) : loopK (exL Try.prog E_fcz (cl (cl (cr (cl (cr (cr (cr (bodyC Try.f33)))))))) 805306702 192 [(0, 320)]) (fcz_P1 b1 b2 b5 hard za cb wa zd t29) H Q :=
 ⟨fcz_I1 b1 b2 b5 hard za cb wa zd Inv, ν, ⟨t29, rfl, h0⟩, fun μ tm H h => by obtain ⟨t29, rfl, hI⟩ := h; exact hs μ t29  H hI⟩
theorem fcz_n1 {b1 : Nat} {b2 : Nat} {b5 : Nat} {hard : Bool} {za : OA} {cb : Nat} {wa : Nat} {zd : Nat} {Q : Post} {Inv : Nat → Int → AHeap → Prop} {μ : Nat} (μ' : Nat) {t29 : Int}  {H : AHeap} (hm : μ' < μ) (hI : Inv μ' t29 H) : loopQ (fcz_I1 b1 b2 b5 hard za cb wa zd Inv) μ Q .normal (fcz_P1 b1 b2 b5 hard za cb wa zd t29) H := ⟨μ', hm, t29, rfl, hI⟩
theorem fcz_x1_0 (b2 : Nat) (b5 : Nat) (H : AHeap) (K : Value → AHeap → Prop)  {I : Nat → List Value → AHeap → Prop} {μ : Nat} : loopQ I μ (blockQ 0 (seqQ (exL Try.prog E_fcz (cr (cr (cr (cr (bodyC Try.f33))))) 192 192 []) (retK Try.prog Try.f33 K))) (.exit 0) (ud6 (.pointer (some ⟨b2, 0, none⟩) :: ud :: .pointer (some ⟨b5, 0, none⟩) :: ud48 [])) H =
 (∃ fg : OA, ∃ jg : Nat, ∃ ig : Nat, ∃ kg : OA, ∃ mg : Nat, ∃ lg : Nat,  rdN H b5 0 2 = some [.slice fg jg ig, .slice kg mg lg] ∧ isOwn H b2 ∧ (∃ l, rdN H b2 0 2 = some l) ∧ Lt (setN H b2 0 [.slice fg jg ig, .slice kg mg lg]) fun H16 => ∃ ng : OA, ∃ pg : Nat, ∃ og : Nat, ∃ qg : OA, ∃ tg : Nat, ∃ rg : Nat,  rdN H16 b2 0 2 = some [.slice ng pg og, .slice qg tg rg] ∧ K (.tuple #[.agg #[.slice ng pg og, .slice qg tg rg], .bool true]) H16) := by kernel_rfl
theorem fcz_x1_ret (b2 : Nat) (t7 : Bool) (H : AHeap) (K : Value → AHeap → Prop)  {I : Nat → List Value → AHeap → Prop} {μ : Nat} : loopQ I μ (blockQ 0 (seqQ (exL Try.prog E_fcz (cr (cr (cr (cr (bodyC Try.f33))))) 192 192 []) (retK Try.prog Try.f33 K))) .ret (ud6 (.pointer (some ⟨b2, 0, none⟩) :: .bool t7 :: ud49 [])) H =
 (∃ jh : OA, ∃ lh : Nat, ∃ kh : Nat, ∃ ug : OA, ∃ wg : Nat, ∃ vg : Nat,  rdN H b2 0 2 = some [.slice jh lh kh, .slice ug wg vg] ∧ K (.tuple #[.agg #[.slice jh lh kh, .slice ug wg vg], .bool t7]) H) := by kernel_rfl
theorem E_fcz_ok : ∀ g, FnOk Try.prog g (E_fcz g) := FnOk.envOf (by
 intro x hx
 simp only [List.mem_cons, List.not_mem_nil, or_false] at hx
 rcases hx with rfl | rfl | rfl
 ·exact f1az_ok
 ·exact f19z_ok
 ·exact f1qz_ok)
theorem fcz_main (ta : OA) (xa : Nat) (va : Nat) (qa : OA) (ua : Nat) (sa : Nat) (za : OA) (wa : Nat) (cb : Nat) (hard : Bool) (H : AHeap) (K : Value → AHeap → Prop) (h : T_fcz ta xa va qa ua sa za wa cb hard H fun (mb : OA) (ob : Nat) (nb : Nat) (db : OA) (gb : Nat) (eb : Nat) (r2 : Bool) (H' : AHeap) => K (.tuple #[.agg #[.slice mb ob nb, .slice db gb eb], .bool r2]) H') : bodyL Try.prog E_fcz Try.f33 [.agg #[.slice ta xa va, .slice qa ua sa], .slice za wa cb, .bool hard] H K := by
 rw [fcz_vc]
 obtain ⟨fa, ca, ya, i_b_Coarse, i_b_Details, i_limits, bd_251, bd_252, bd_253, bb_l_b_Details, hk⟩ := h
 obtain rfl := i_b_Coarse.eqn
 obtain rfl := i_b_Details.eqn
 obtain rfl := i_limits.eqn
 have e : (p_fcz fa ca ya hard) = _ := rfl
 have e := e.trans (p_fcz_eq fa ca ya hard)
 have g0 := Grow.refl H
 refine Al.intro (fun b_1 H_1 hb_2 hl_3 g_4 o_5 => ?_)
 have l7 := g_4.1
 have g8 := g0.trans g_4
 have l9 := g8.1
 have w250 := o_5.lt
 refine Al.intro (fun b_10 H_2 hb_11 hl_12 g13 o14 => ?_)
 have l16 := g13.1
 have g17 := g8.trans g13
 have l18 := g17.1
 have o19 := o_5.grow g13
 have w20 := o19.lt
 have w249 := o14.lt
 refine T_f1az_i ⟨ta, fa.length, va, qa, ca.length, sa, _, ca, ((o19.rdN (Nat.le_of_ble_eq_true rfl)).trans rfl), (i_b_Coarse.grow g17), (i_b_Details.grow g17), ω0, ω0, ω6, ?_⟩
 refine Br.intro (fun c21 => ?_) (fun c21 => ?_)
 ·have e := e.trans (cond_t c21)
  have c_21n := nf_of_t c21
  refine Lt.setN (n := 2) o14 (Nat.le_of_ble_eq_true rfl) rfl (fun H_3 hl_22 o24 k23 => ?_)
  have o24 : Own H_3 b_10 [.slice none 0 0, .slice none 0 0] := o24
  have l25 := k23.1
  have g26 := g17.keep (b := b_10) ω2 k23
  have l27 := g26.1
  have o28 := o19.keep ω2 k23
  have w29 := o28.lt
  have w30 := o24.lt
  refine ⟨none, 0, 0, none, 0, 0, (o24.rdN (Nat.le_of_ble_eq_true rfl)).trans rfl, ?_⟩
  rw [e] at hk
  exact hk _ _ _ _ _ _ H_3 g26 ω9 ω9
 ·have e := e.trans (cond_f c21)
  have c_21n := nt_of_f c21
  have c_21n' := f1az_t c_21n
  refine ⟨qa, ca.length, sa, (o19.rdC _).trans rfl, ?_⟩
  refine Br.intro (fun c31 => ?_) (fun c31 => ?_)
  ·have e := e.trans (cond_t c31)
   have c_31' := ine_t c31
   refine Lt.setN (n := 2) o14 (Nat.le_of_ble_eq_true rfl) rfl (fun H_4 hl_32 o34 k33 => ?_)
   have o34 : Own H_4 b_10 [.slice none 0 0, .slice none 0 0] := o34
   have l35 := k33.1
   have g36 := g17.keep (b := b_10) ω2 k33
   have l37 := g36.1
   have o38 := o19.keep ω2 k33
   have w39 := o38.lt
   have w40 := o34.lt
   refine ⟨none, 0, 0, none, 0, 0, (o34.rdN (Nat.le_of_ble_eq_true rfl)).trans rfl, ?_⟩
   rw [e] at hk
   exact hk _ _ _ _ _ _ H_4 g36 ω9 ω9
  ·have e := e.trans (cond_f c31)
   have c_31' := ine_f c31
   refine Al.intro (fun b41 H_5 hb_42 hl_43 g44 o45 => ?_)
   have o45 : Own H_5 b41 ((([] : LN)).map fF) := o45
   have l47 := g44.1
   have g48 := g17.trans g44
   have l49 := g48.1
   have o50 := o19.grow g44
   have w51 := o50.lt
   have o52 := o14.grow g44
   have w53 := o52.lt
   have w248 := o45.lt
   refine ⟨ta, fa.length, va, (o50.rdC _).trans rfl, ?_⟩
   refine ⟨_, _, o45.ownB ω5 rfl, (isl_rdS (i_b_Coarse.grow g48)), (fun h => by cases h), ω24, ?_⟩
   refine Ap.app o45 rfl rfl (fun b58 H_6 q246 hl_54 o55 k56 => ?_)
   have o55 := map_snoc o55
   have l59 := k56.1
   have g60 := g48.keep (b := b41) ω2 k56
   have l61 := g60.1
   have o62 := o50.keep ω2 k56
   have w63 := o62.lt
   have o64 := o52.keep ω2 k56
   have w65 := o64.lt
   have w247 := o55.lt
   refine Al.intro (fun b66 H_7 hb_67 hl_68 g69 o70 => ?_)
   have l72 := g69.1
   have g73 := g60.trans g69
   have l74 := g73.1
   have o75 := o62.grow g69
   have w76 := o75.lt
   have o77 := o64.grow g69
   have w78 := o77.lt
   have o79 := o55.grow g69
   have w80 := o79.lt
   have w245 := o70.lt
   refine Lt.setN (n := 2) o70 (Nat.le_of_ble_eq_true rfl) rfl (fun H_8 hl_81 o83 k82 => ?_)
   have o83 : Own H_8 b66 [.slice (some ⟨b58, 0, none⟩) (0 + fa.length) 1, .slice none 0 0] := o83
   have l84 := k82.1
   have g85 := g73.keep (b := b66) ω2 k82
   have l86 := g85.1
   have o87 := o75.keep ω2 k82
   have w88 := o87.lt
   have o89 := o77.keep ω2 k82
   have w90 := o89.lt
   have o91 := o79.keep ω2 k82
   have w92 := o91.lt
   have w244 := o83.lt
   refine ⟨qa, ca.length, sa, (o87.rdC _).trans rfl, ?_⟩
   refine fcz_L1 _ _ _ _ _ _ _ _ (fun (μ : Nat) (t29 : Int) (H_9 : AHeap) => ∃ (t7 : Bool), ∃ (q1_4 : List LN), ∃ (xd : OA), ∃ (yd : Nat), Own H_9 b_1 ([.slice ta fa.length va, .slice qa ca.length sa]) ∧ Own H_9 b_10 [.slice none 0 0, .slice none 0 0] ∧ Own H_9 b58 (((([] : LN) ++ fa)).map fF) ∧ OwnLL fF H_9 H_8.length H_9.length xd q1_4.length yd q1_4 ∧ Own H_9 b66 [.slice (some ⟨b58, 0, none⟩) (0 + fa.length) 1, .slice xd q1_4.length yd] ∧ (b_10 ≠ b_1) ∧ (b58 ≠ b_1) ∧ (b58 ≠ b_10) ∧ (b66 ≠ b_1) ∧ (b66 ≠ b_10) ∧ (b66 ≠ b58) ∧ Grow H H_9 ∧ (0 : Int) ≤ t29 ∧ t29 ≤ (ca.length : Int) ∧ (q1_4.length : Int) ≤ t29 ∧ (ca.length : Int) - t29 ≤ (μ : Int) ∧ p_fcz fa ca ya hard = p_fcz_l1 fa ca ya hard (μ + 1) t7 t29 q1_4) (Int.toNat ((ca.length : Int) - (0 : Int))) _ H_8 ?_ ?_
   ·exact ⟨_, _, _, _, o87, (by first | exact o89 | (have hbx := o89; (try simp only [List.length_append, List.length_cons, List.length_nil, Nat.zero_add] at hbx); (try simp only [List.length_append, List.length_cons, List.length_nil, Nat.zero_add]); exact hbx)), o91, (OwnLL.nil _ _ _ _), (by first | exact o83 | (have hbx := o83; (try simp only [List.length_append, List.length_cons, List.length_nil, Nat.zero_add] at hbx); (try simp only [List.length_append, List.length_cons, List.length_nil, Nat.zero_add]); exact hbx)), ω2, ω2, ω2, ω2, ω2, ω2, g85, ω7, ω7, ω7, ω2, e⟩
   ·intro μ t29  H_9 hI
    obtain ⟨t7, q1_4, xd, yd, o93, o94, o95, r98, o96, n101, n102, n103, n104, n105, n106, g107, v108, v109, v110, hμ, e⟩ := hI
    rw [fcz_r1]
    have e := e.trans (p_fcz_l1_s fa ca ya hard μ t7 t29 q1_4)
    have u99 := r98.up
    have u100 := r98.lo
    have w111 := o93.lt
    have w112 := o94.lt
    have w113 := o95.lt
    have w114 := o96.lt
    have l115 := g107.1
    refine Br.intro (fun c116 => ?_) (fun c116 => ?_)
    ·have e := e.trans (cond_t c116)
     have c_116' := of_decide_eq_true c116
     obtain ⟨b117, f_118, q119⟩ := ((i_limits.grow g107)).pos ω0
     refine ⟨by omega, by omega, b117, f_118, q119, ?_⟩
     refine ⟨((ya).getD (t29 : Int).toNat 0), (i_limits).rd g107 q119 ω2 _, ?_⟩
     refine T_f19z_i ?_
     refine Br.intro (fun c120 => ?_) (fun c120 => ?_)
     ·have e := e.trans (cond_t c120)
      have c_120n := nf_of_t c120
      refine Lt.setN (n := 2) o94 (Nat.le_of_ble_eq_true rfl) rfl (fun H_10 hl_121 o123 k122 => ?_)
      have o123 : Own H_10 b_10 [.slice none 0 0, .slice none 0 0] := o123
      have l124 := k122.1
      have g125 := g107.keep (b := b_10) ω2 k122
      have l126 := g125.1
      have o127 := o93.keep ω2 k122
      have w128 := o127.lt
      have o129 := o95.keep ω2 k122
      have w130 := o129.lt
      have o131 := o96.keep ω2 k122
      have w132 := o131.lt
      have r133 := r98.keep ω2 k122
      have w134 := o123.lt
      rw [fcz_x1_ret]
      refine ⟨none, 0, 0, none, 0, 0, (o123.rdN (Nat.le_of_ble_eq_true rfl)).trans rfl, ?_⟩
      rw [e] at hk
      exact hk _ _ _ _ _ _ H_10 g125 ω9 ω9
     ·have e := e.trans (cond_f c120)
      have c_120n := nt_of_f c120
      refine ⟨qa, ca.length, sa, (o93.rdC _).trans rfl, ?_⟩
      refine ⟨xd, q1_4.length, yd, (o96.rdC _).trans rfl, ?_⟩
      obtain ⟨b135, f136, q137⟩ := ((i_b_Details.grow g107)).pos ω0
      refine ⟨by omega, by omega, b135, f136, q137, ?_⟩
      obtain ⟨a138, n139, e140, r141, i142⟩ := (i_b_Details).rd (i := (t29 : Int).toNat) g107 q137 ω2
      obtain rfl := i142.eqn
      refine ⟨a138, _, e140, r141, ?_⟩
      have z143 := getD_len bb_l_b_Details (t29 : Int).toNat
      obtain ⟨b144, f_145, q146⟩ := ((i_limits.grow g107)).pos ω0
      refine ⟨by omega, by omega, b144, f_145, q146, ?_⟩
      refine ⟨((ya).getD (t29 : Int).toNat 0), (i_limits).rd g107 q146 ω2 _, ?_⟩
      refine T_f1qz_i ⟨_, (i142.grow g107), ω0, fun a147 n148 e149 H_11 g152 r150 => ?_⟩
      have z151 := f1qz_len (((ca).getD (t29 : Int).toNat [])) (((ya).getD (t29 : Int).toNat 0)) hard
      have l153 := g152.1
      have g154 := g107.trans g152
      have l155 := g154.1
      have o156 := o93.grow g152
      have w157 := o156.lt
      have o158 := o94.grow g152
      have w159 := o158.lt
      have o160 := o95.grow g152
      have w161 := o160.lt
      have o162 := o96.grow g152
      have w163 := o162.lt
      have r164 := r98.grow g152
      obtain rfl := r150.isL.eqn
      have u165 := r150.up
      have u166 := r150.lo
      refine Al.intro (fun b168 H_12 hb_169 hl_170 g171 o172 => ?_)
      have l174 := g171.1
      have g175 := g154.trans g171
      have l176 := g175.1
      have o177 := o156.grow g171
      have w178 := o177.lt
      have o179 := o158.grow g171
      have w180 := o179.lt
      have o181 := o160.grow g171
      have w182 := o181.lt
      have o183 := o162.grow g171
      have w184 := o183.lt
      have r185 := r164.grow g171
      have r186 := r150.grow g171
      have w229 := o172.lt
      obtain ⟨v190, q191, q192, q193⟩ := r185.ownB
      refine ⟨v190, _, q191, o172.rdAll rfl, (fun _ => by decide), ω24, ?_⟩
      refine Ap.appLL r185 ω2 r186 ω2 ω2 (fun x hx => by have := u165 x hx; have := u166 x hx; omega) q191 rfl (fun b196 H_13 q194 hl_187 o188 k189 => ?_)
      have l197 := k189.1
      have g198 := g175.keepA (fun x hx => by have := u100 x hx; omega) k189
      have l199 := g198.1
      have o200 := o177.keepA (fun x hx => by have := u100 x hx; have := u99 x hx; omega) k189
      have w201 := o200.lt
      have o202 := o179.keepA (fun x hx => by have := u100 x hx; have := u99 x hx; omega) k189
      have w203 := o202.lt
      have o204 := o181.keepA (fun x hx => by have := u100 x hx; have := u99 x hx; omega) k189
      have w205 := o204.lt
      have o206 := o183.keepA (fun x hx => by have := u100 x hx; have := u99 x hx; omega) k189
      have w207 := o206.lt
      have o208 := o172.keepA (fun x hx => by have := u100 x hx; have := u99 x hx; omega) k189
      have w209 := o208.lt
      have w227 := o188.lt
      have v228 := o188.rng
      refine Lt.set o206 (Nat.le_of_ble_eq_true rfl) (fun H_14 hl_210 o212 k211 => ?_)
      have o212 : Own H_14 b66 [.slice (some ⟨b58, 0, none⟩) (0 + fa.length) 1, .slice (some ⟨b196, 0, none⟩) (q1_4.length + 1) 1] := o212
      have l213 := k211.1
      have g214 := g198.keep (b := b66) ω2 k211
      have l215 := g214.1
      have o216 := o200.keep ω2 k211
      have w217 := o216.lt
      have o218 := o202.keep ω2 k211
      have w219 := o218.lt
      have o220 := o204.keep ω2 k211
      have w221 := o220.lt
      have o222 := o208.keep ω2 k211
      have w223 := o222.lt
      have o224 := o188.keep ω2 k211
      have w225 := o224.lt
      have w226 := o212.lt
      rw [show IntKind.wrap .i64 (t29 + 1) = (t29 + 1) from wrap64 ω2 ω2]
      refine fcz_n1 (μ - 1) ω17 ⟨_, _, _, _, o216, (by first | exact o218 | (have hbx := o218; (try simp only [List.length_append, List.length_cons, List.length_nil, Nat.zero_add] at hbx); (try simp only [List.length_append, List.length_cons, List.length_nil, Nat.zero_add]); exact hbx)), o220, ((o224.ownLL rfl).weak ω2 ω2 (Nat.le_refl _)), (by first | exact o212 | (have hbx := o212; (try simp only [List.length_append, List.length_cons, List.length_nil, Nat.zero_add] at hbx); (try simp only [List.length_append, List.length_cons, List.length_nil, Nat.zero_add]); exact hbx)), ω2, ω2, ω2, ω2, ω2, ω2, g214, ω1, ω1, ω1, ω17, ω12⟩
    ·have e := e.trans (cond_f c116)
     have c_116' := of_decide_eq_false c116
     rw [fcz_x1_0]
     refine ⟨some ⟨b58, 0, none⟩, 0 + fa.length, 1, xd, q1_4.length, yd, (o96.rdN (Nat.le_of_ble_eq_true rfl)).trans rfl, ?_⟩
     refine Lt.setN (n := 2) o94 (Nat.le_of_ble_eq_true rfl) rfl (fun H_15 hl_230 o232 k231 => ?_)
     have o232 : Own H_15 b_10 [.slice (some ⟨b58, 0, none⟩) (0 + fa.length) 1, .slice xd q1_4.length yd] := o232
     have l233 := k231.1
     have g234 := g107.keep (b := b_10) ω2 k231
     have l235 := g234.1
     have o236 := o93.keep ω2 k231
     have w237 := o236.lt
     have o238 := o95.keep ω2 k231
     have w239 := o238.lt
     have o240 := o96.keep ω2 k231
     have w241 := o240.lt
     have r242 := r98.keep ω2 k231
     have w243 := o232.lt
     refine ⟨some ⟨b58, 0, none⟩, 0 + fa.length, 1, xd, q1_4.length, yd, (o232.rdN (Nat.le_of_ble_eq_true rfl)).trans rfl, ?_⟩
     rw [e] at hk
     exact hk _ _ _ _ _ _ H_15 g234 (o238.ownS ω8 ω2) (r242.weak ω2 ω2 (Nat.le_refl _))
theorem fcz_ok : FnOk Try.prog 33 S_fcz := by
 refine FnOk.body mix_ok E_fcz_ok Try.func33 rfl ω15 ω15 ?_ ?_ ?_ ?_ ?_
 ·intro args H K K' h hk
  simp only [S_fcz] at *
  unfold F_fcz at *
  split at hk
  ·obtain ⟨fa, ca, ya, i_b_Coarse, i_b_Details, i_limits, bd_251, bd_252, bd_253, bb_l_b_Details, k⟩ := hk
   exact ⟨fa, ca, ya, i_b_Coarse, i_b_Details, i_limits, bd_251, bd_252, bd_253, bb_l_b_Details, (fun mb ob nb db gb eb H' gg ow0 ow1 => h _ _ (k mb ob nb db gb eb H' gg ow0 ow1))⟩
  ·exact hk.elim
 ·intro hq; cases hq
 ·intro args H K hk
  simp only [S_fcz] at *
  unfold F_fcz at *
  split at hk
  ·obtain ⟨fa, ca, ya, i_b_Coarse, i_b_Details, i_limits, bd_251, bd_252, bd_253, bb_l_b_Details, k⟩ := hk
   exact liveSL fun a n e a2 n2 e2 H1 g o o2 => ⟨_, _, k a n e a2 n2 e2 H1 g o o2⟩
  ·exact hk.elim
 ·intro _ args H K hk
  simp only [S_fcz] at *
  unfold F_fcz at *
  split at hk
  ·obtain ⟨fa, ca, ya, i_b_Coarse, i_b_Details, i_limits, bd_251, bd_252, bd_253, bb_l_b_Details, k⟩ := hk
   exact ⟨fa, ca, ya, i_b_Coarse, i_b_Details, i_limits, bd_251, bd_252, bd_253, bb_l_b_Details, (fun mb ob nb db gb eb H' gg ow0 ow1 => ⟨gg, k mb ob nb db gb eb H' gg ow0 ow1⟩)⟩
  ·exact hk.elim
 ·have mm := @fcz_main
  have ml := fun (args : List Value) (H : AHeap) (K : Value → AHeap → Prop) => bodyL_body (P := Try.prog) (env := E_fcz ) (fn := Try.f33) (args := args) (H := H) (K := K) E_fcz_ok 
  revert mm ml
  generalize bodyK Try.prog E_fcz Try.f33 = Q
  generalize bodyL Try.prog E_fcz Try.f33 = QL
  intro mm ml args H K hk
  simp only [S_fcz] at *
  unfold F_fcz at *
  split at hk
  ·exact ml _ H K (mm _ _ _ _ _ _ _ _ _ _ H K hk)
  ·exact hk.elim

def p_f1lz_l2 (xb : LN) (bc : LN) (ma : LN) (t22 : Int) (y1_1 : LN) (k2_2 : Int → LN → LN) : Nat → Int → LN → LN
 | 0, _, _ => []
 | μ2 + 1, t30, y2_1 => (bif decide ((t30 : Int) < (ma.length : Int)) then (p_f1lz_l2 xb bc ma t22 y1_1 k2_2 μ2 (t30 + 1) (((y2_1).set (Int.tmod (((2 * t22) + t30)) ((2 * (xb.length : Int))) : Int).toNat ((fadd .f32 (((y2_1).getD (Int.tmod (((2 * t22) + t30)) ((2 * (xb.length : Int))) : Int).toNat 0)) (fadd .f32 (fmul .f32 (((ma).getD (t30 : Int).toNat 0)) (((xb).getD (t22 : Int).toNat 0))) (fmul .f32 ((((p_f1kz ma)).getD (t30 : Int).toNat 0)) (((bc).getD (t22 : Int).toNat 0))))))))) else (k2_2 t30 y2_1))
def p_f1lz_l2_s := fun xb bc ma t22 y1_1 k2_2 μ2 t30 y2_1 => @p_f1lz_l2.eq_2 xb bc ma t22 y1_1 k2_2 t30 y2_1 μ2
def p_f1lz_l1 (xb : LN) (bc : LN) (ma : LN) : Nat → Int → LN → LN
 | 0, _, _ => []
 | μ + 1, t22, y1_1 => (bif decide ((t22 : Int) < (xb.length : Int)) then (p_f1lz_l2 xb bc ma t22 y1_1 (fun (t30 : Int) (y2_1 : LN) => (p_f1lz_l1 xb bc ma μ (t22 + 1) y2_1)) (Int.toNat ((ma.length : Int) - (0 : Int)) + 1) (0 : Int) y1_1) else y1_1)
def p_f1lz_l1_s := fun xb bc ma μ t22 y1_1 => @p_f1lz_l1.eq_2 xb bc ma t22 y1_1 μ
def p_f1lz (xb : LN) (bc : LN) (ma : LN) : LN := (p_f1lz_l1 xb bc ma (Int.toNat ((xb.length : Int) - (0 : Int)) + 1) (0 : Int) (List.replicate (((2 * (xb.length : Int))).toNat) 0))
def p_f1lz_eq := @p_f1lz.eq_1
def T_f1lz (gc : OA) (tb : Nat) (kc : Nat) (sb : OA) (ub : Nat) (vb : Nat) (p : Nat) (H : AHeap) (K : OA → Nat → Nat → AHeap → Prop) : Prop := ∃ (zb : OA), ∃ (ic : Nat), ∃ (ec : Nat), ∃ (xb : LN), ∃ (bc : LN), ∃ (ma : LN), rdN H p 0 1 = some [.slice zb ic ec] ∧ IsL fF H gc tb xb ∧ IsL fF H sb ub bc ∧ IsL fF H zb ic ma ∧ xb.length < 1073741824 ∧ bc.length < 1073741824 ∧ ma.length < 1073741824 ∧ 1 ≤ xb.length ∧ xb.length ≤ 64 ∧ bc.length = xb.length ∧ ma.length ≤ 8 ∧ ((∀ (ib : OA) (kb jb : Nat), ∀ H' : AHeap, Grow H H' → OwnS fF H' H.length ib kb jb (p_f1lz xb bc ma) → K ib kb jb H'))
theorem T_f1lz_i {gc : OA} {tb : Nat} {kc : Nat} {sb : OA} {ub : Nat} {vb : Nat} {p : Nat} {H : AHeap} {K : OA → Nat → Nat → AHeap → Prop} (h : ∃ (zb : OA), ∃ (ic : Nat), ∃ (ec : Nat), ∃ (xb : LN), ∃ (bc : LN), ∃ (ma : LN), rdN H p 0 1 = some [.slice zb ic ec] ∧ IsL fF H gc tb xb ∧ IsL fF H sb ub bc ∧ IsL fF H zb ic ma ∧ xb.length < 1073741824 ∧ bc.length < 1073741824 ∧ ma.length < 1073741824 ∧ 1 ≤ xb.length ∧ xb.length ≤ 64 ∧ bc.length = xb.length ∧ ma.length ≤ 8 ∧ ((∀ (ib : OA) (kb jb : Nat), ∀ H' : AHeap, Grow H H' → OwnS fF H' H.length ib kb jb (p_f1lz xb bc ma) → K ib kb jb H'))) : T_f1lz gc tb kc sb ub vb p H K := h
theorem f1lz_l2_full (N : Nat) (a b c : LN) (t : Int) (y : LN) (K : Int → LN → LN) (hK : ∀ j z, z.length = N → (K j z).length = N) : ∀ (μ : Nat) (j : Int) (z : LN), z.length = N → ((c.length : Int) - j).toNat < μ → (p_f1lz_l2 a b c t y K μ j z).length = N := by
 intro μ
 induction μ with
 | zero => intro j z hz hm; omega
 | succ μ ih =>
  intro j z hz hm
  rw [p_f1lz_l2_s]
  by_cases h : j < (c.length : Int)
  ·rw [decide_eq_true h, cond_true]; exact ih _ _ (by rw [List.length_set]; exact hz) ω2
  ·rw [decide_eq_false h, cond_false]; exact hK _ _ hz
theorem f1lz_l1_full (a b c : LN) (N : Nat) : ∀ (μ : Nat) (j : Int) (z : LN), z.length = N → ((a.length : Int) - j).toNat < μ → (p_f1lz_l1 a b c μ j z).length = N := by
 intro μ
 induction μ with
 | zero => intro j z hz hm; omega
 | succ μ ih =>
  intro j z hz hm
  rw [p_f1lz_l1_s]
  by_cases h : j < (a.length : Int)
  ·rw [decide_eq_true h, cond_true]
   exact f1lz_l2_full N _ _ _ _ _ _ (fun j z hz => ih _ _ hz ω2) _ _ _ hz ω2
  ·rw [decide_eq_false h, cond_false]; exact hz
theorem f1lz_len (a b c : LN) : a.length < 1073741824 → (p_f1lz a b c).length = 2 * a.length := by
 intro h
 rw [p_f1lz_eq, f1lz_l1_full a b c (2 * a.length) _ _ _ ?_ ω2]
 first | (rw [List.length_replicate, wrap64 ω2 ω2]; omega) | (rw [List.length_replicate]; omega)
/-! f1lz: function 204 -/
def E_f1lz : Env := envOf [(195, S_f1kz)]
def F_f1lz : List Value → AHeap → (Value → AHeap → Prop) → Prop
 | [.slice gc tb kc, .slice sb ub vb, .pointer (some ⟨p, 0, none⟩)], H, K => T_f1lz gc tb kc sb ub vb p H fun (ib : OA) (kb : Nat) (jb : Nat) (H' : AHeap) => K (.slice ib kb jb) H'
 | _, _, _ => False
def S_f1lz : FSpec := { F := F_f1lz, quiet := false, tame := true }
theorem f1lz_vc (gc : OA) (tb : Nat) (kc : Nat) (sb : OA) (ub : Nat) (vb : Nat) (p : Nat) (H : AHeap) (K : Value → AHeap → Prop) : bodyL Try.prog E_f1lz Try.f204 [.slice gc tb kc, .slice sb ub vb, .pointer (some ⟨p, 0, none⟩)] H K =
 (T_f1kz p H fun (a1 : OA) (r1 : Nat) (r2 : Nat) (H1 : AHeap) => (0 : Int) ≤ IntKind.wrap .i64 (2 * (tb : Int)) ∧ IntKind.wrap .i64 (2 * (tb : Int)) = IntKind.wrap .i64 (2 * (tb : Int)) ∧ IntKind.wrap .i64 (2 * (tb : Int)) < (most : Int) ∧ Al (zerosOf (.float .f32 0) (IntKind.wrap .i64 (2 * (tb : Int))).toNat) H1 fun b1 H2 => loopK (exL Try.prog E_f1lz (cl (cl (cr (cl (cr (cr (cr (cr (bodyC Try.f204))))))))) 6292359 64 [(0, 512)]) (.slice gc tb kc :: .slice sb ub vb :: .pointer (some ⟨p, 0, none⟩) :: ud4 (.int .i64 (IntKind.wrap .i64 (2 * (tb : Int))) :: .slice a1 r1 r2 :: .slice (some ⟨b1, 0, none⟩) ((IntKind.wrap .i64 (2 * (tb : Int))).toNat) 1 :: ud11 (.int .i64 (tb : Int) :: .int .i64 0 :: ud49 []))) H2 (blockQ 0 (seqQ (exL Try.prog E_f1lz (cr (cr (cr (cr (cr (bodyC Try.f204)))))) 64 64 []) (retK Try.prog Try.f204 K)))) := by kernel_rfl
abbrev f1lz_P1 (a1 : OA) (sb : OA) (vb : Nat) (ub : Nat) (gc : OA) (kc : Nat) (tb : Nat) (p : Nat) (r1 : Nat) (r2 : Nat) (z1_7 : Int) (kd : OA) (ld : Nat) (t22 : Int)  : List Value := (.slice gc tb kc :: .slice sb ub vb :: .pointer (some ⟨p, 0, none⟩) :: ud4 (.int .i64 z1_7 :: .slice a1 r1 r2 :: .slice kd ld 1 :: ud11 (.int .i64 (tb : Int) :: .int .i64 t22 :: ud49 [])))
theorem f1lz_r1 (a1 : OA) (sb : OA) (vb : Nat) (ub : Nat) (gc : OA) (kc : Nat) (tb : Nat) (p : Nat) (r1 : Nat) (r2 : Nat) (z1_7 : Int) (kd : OA) (ld : Nat) (t22 : Int)  (H : AHeap) (R : Post) : exL Try.prog E_f1lz (cl (cl (cr (cl (cr (cr (cr (cr (bodyC Try.f204))))))))) 6292359 64 [(0, 512)] (f1lz_P1 a1 sb vb ub gc kc tb p r1 r2 z1_7 kd ld t22) H R =
 (Br (decide ((t22 : Int) < (tb : Int))) (∃ sc : OA, ∃ bb : Nat, ∃ tc : Nat,  rdC H p 0 = some (.slice sc bb tc) ∧ loopK (exL Try.prog E_f1lz (cl (cl (cr (cr (cl (cl (cr (cr (cl (cl (cr (cl (cr (cr (cr (cr (bodyC Try.f204))))))))))))))))) 1616906119 64 [(2, 6292359), (1, 6292359), (0, 512)]) (.slice gc tb kc :: .slice sb ub vb :: .pointer (some ⟨p, 0, none⟩) :: ud4 (.int .i64 z1_7 :: .slice a1 r1 r2 :: .slice kd ld 1 :: .int .i64 t22 :: ud10 (.int .i64 (tb : Int) :: .int .i64 t22 :: ud6 (.int .i64 (bb : Int) :: .int .i64 0 :: ud41 [])))) H (blockQ 2 (blockQ 1 (seqQ (exL Try.prog E_f1lz (cr (cr (cr (cl (cl (cr (cl (cr (cr (cr (cr (bodyC Try.f204)))))))))))) 6292359 64 [(0, 512)]) (R))))) (R (.exit 0) (ud9 (.slice kd ld 1 :: ud62 [])) H)) := by kernel_rfl
def f1lz_I1 (a1 : OA) (sb : OA) (vb : Nat) (ub : Nat) (gc : OA) (kc : Nat) (tb : Nat) (p : Nat) (r1 : Nat) (r2 : Nat) (z1_7 : Int) (kd : OA) (ld : Nat) (Inv : Nat → Int → AHeap → Prop) : Nat → List Value → AHeap → Prop := fun μ tm H => ∃ (t22 : Int), tm = (f1lz_P1 a1 sb vb ub gc kc tb p r1 r2 z1_7 kd ld t22) ∧ Inv μ t22 H
theorem f1lz_L1 (a1 : OA) (sb : OA) (vb : Nat) (ub : Nat) (gc : OA) (kc : Nat) (tb : Nat) (p : Nat) (r1 : Nat) (r2 : Nat) (z1_7 : Int) (kd : OA) (ld : Nat) {Q : Post} (Inv : Nat → Int → AHeap → Prop) (ν : Nat) (t22 : Int)  (H : AHeap) (h0 : Inv ν t22 H)
  (hs : ∀ (μ : Nat) (t22 : Int)  (H : AHeap), Inv μ t22 H → exL Try.prog E_f1lz (cl (cl (cr (cl (cr (cr (cr (cr (bodyC Try.f204))))))))) 6292359 64 [(0, 512)] (f1lz_P1 a1 sb vb ub gc kc tb p r1 r2 z1_7 kd ld t22) H (loopQ (f1lz_I1 a1 sb vb ub gc kc tb p r1 r2 z1_7 kd ld Inv) μ Q)) : loopK (exL Try.prog E_f1lz (cl (cl (cr (cl (cr (cr (cr (cr (bodyC Try.f204))))))))) 6292359 64 [(0, 512)]) (f1lz_P1 a1 sb vb ub gc kc tb p r1 r2 z1_7 kd ld t22) H Q :=
 ⟨f1lz_I1 a1 sb vb ub gc kc tb p r1 r2 z1_7 kd ld Inv, ν, ⟨t22, rfl, h0⟩, fun μ tm H h => by obtain ⟨t22, rfl, hI⟩ := h; exact hs μ t22  H hI⟩
theorem f1lz_n1 {a1 : OA} {sb : OA} {vb : Nat} {ub : Nat} {gc : OA} {kc : Nat} {tb : Nat} {p : Nat} {r1 : Nat} {r2 : Nat} {z1_7 : Int} {kd : OA} {ld : Nat} {Q : Post} {Inv : Nat → Int → AHeap → Prop} {μ : Nat} (μ' : Nat) {t22 : Int}  {H : AHeap} (hm : μ' < μ) (hI : Inv μ' t22 H) : loopQ (f1lz_I1 a1 sb vb ub gc kc tb p r1 r2 z1_7 kd ld Inv) μ Q .normal (f1lz_P1 a1 sb vb ub gc kc tb p r1 r2 z1_7 kd ld t22) H := ⟨μ', hm, t22, rfl, hI⟩
theorem f1lz_x1_0 (kd : OA) (ld : Nat) (H : AHeap) (K : Value → AHeap → Prop)  {I : Nat → List Value → AHeap → Prop} {μ : Nat} : loopQ I μ (blockQ 0 (seqQ (exL Try.prog E_f1lz (cr (cr (cr (cr (cr (bodyC Try.f204)))))) 64 64 []) (retK Try.prog Try.f204 K))) (.exit 0) (ud9 (.slice kd ld 1 :: ud62 [])) H =
 (K (.slice kd ld 1) H) := by kernel_rfl
abbrev f1lz_P2 (a1 : OA) (sb : OA) (vb : Nat) (ub : Nat) (gc : OA) (kc : Nat) (tb : Nat) (p : Nat) (r1 : Nat) (r2 : Nat) (t22 : Int) (bb : Nat) (z1_7 : Int) (kd : OA) (ld : Nat) (t30 : Int)  : List Value := (.slice gc tb kc :: .slice sb ub vb :: .pointer (some ⟨p, 0, none⟩) :: ud4 (.int .i64 z1_7 :: .slice a1 r1 r2 :: .slice kd ld 1 :: .int .i64 t22 :: ud10 (.int .i64 (tb : Int) :: .int .i64 t22 :: ud6 (.int .i64 (bb : Int) :: .int .i64 t30 :: ud41 []))))
theorem f1lz_r2 (a1 : OA) (sb : OA) (vb : Nat) (ub : Nat) (gc : OA) (kc : Nat) (tb : Nat) (p : Nat) (r1 : Nat) (r2 : Nat) (t22 : Int) (bb : Nat) (z1_7 : Int) (kd : OA) (ld : Nat) (t30 : Int)  (H : AHeap) (R : Post) : exL Try.prog E_f1lz (cl (cl (cr (cr (cl (cl (cr (cr (cl (cl (cr (cl (cr (cr (cr (cr (bodyC Try.f204))))))))))))))))) 1616906119 64 [(2, 6292359), (1, 6292359), (0, 512)] (f1lz_P2 a1 sb vb ub gc kc tb p r1 r2 t22 bb z1_7 kd ld t30) H R =
 (Br (decide ((t30 : Int) < (bb : Int))) (z1_7 ≠ (0 : Int) ∧ (0 : Int) ≤ Int.tmod (IntKind.wrap .i64 ((IntKind.wrap .i64 (2 * t22)) + t30)) z1_7 ∧ Int.tmod (IntKind.wrap .i64 ((IntKind.wrap .i64 (2 * t22)) + t30)) z1_7 < (ld : Int) ∧ ∃ b2 f1, (kd : OA) = some ⟨b2, f1, none⟩ ∧ ∃ x2 : Nat,  rdC H b2 (f1 + (Int.tmod (IntKind.wrap .i64 ((IntKind.wrap .i64 (2 * t22)) + t30)) z1_7 : Int).toNat * 1) = some (.float .f32 x2) ∧ ∃ re : OA, ∃ zd : Nat, ∃ ue : Nat,  rdC H p 0 = some (.slice re zd ue) ∧ (0 : Int) ≤ t30 ∧ t30 < (zd : Int) ∧ ∃ b3 f2, (re : OA) = some ⟨b3, f2, none⟩ ∧ ∃ x4 : Nat,  rdC H b3 (f2 + (t30 : Int).toNat * 1) = some (.float .f32 x4) ∧ (0 : Int) ≤ t22 ∧ t22 < (tb : Int) ∧ ∃ b4 f3, (gc : OA) = some ⟨b4, f3, none⟩ ∧ ∃ x5 : Nat,  rdC H b4 (f3 + (t22 : Int).toNat * 1) = some (.float .f32 x5) ∧ (0 : Int) ≤ t30 ∧ t30 < (r1 : Int) ∧ ∃ b5 f4, (a1 : OA) = some ⟨b5, f4, none⟩ ∧ ∃ x6 : Nat,  rdC H b5 (f4 + (t30 : Int).toNat * 1) = some (.float .f32 x6) ∧ (0 : Int) ≤ t22 ∧ t22 < (ub : Int) ∧ ∃ b6 f5, (sb : OA) = some ⟨b6, f5, none⟩ ∧ ∃ x7 : Nat,  rdC H b6 (f5 + (t22 : Int).toNat * 1) = some (.float .f32 x7) ∧ (0 : Int) ≤ Int.tmod (IntKind.wrap .i64 ((IntKind.wrap .i64 (2 * t22)) + t30)) z1_7 ∧ Int.tmod (IntKind.wrap .i64 ((IntKind.wrap .i64 (2 * t22)) + t30)) z1_7 < (ld : Int) ∧ ∃ b7 f6, (kd : OA) = some ⟨b7, f6, none⟩ ∧ isOwn H b7 ∧ (∃ l, rdN H b7 (f6 + (Int.tmod (IntKind.wrap .i64 ((IntKind.wrap .i64 (2 * t22)) + t30)) z1_7 : Int).toNat * 1) 1 = some l) ∧ Lt (setC H b7 (f6 + (Int.tmod (IntKind.wrap .i64 ((IntKind.wrap .i64 (2 * t22)) + t30)) z1_7 : Int).toNat * 1) (.float .f32 (fadd .f32 x2 (fadd .f32 (fmul .f32 x4 x5) (fmul .f32 x6 x7))))) fun H3 => R .normal (.slice gc tb kc :: .slice sb ub vb :: .pointer (some ⟨p, 0, none⟩) :: ud4 (.int .i64 z1_7 :: .slice a1 r1 r2 :: .slice kd ld 1 :: .int .i64 t22 :: ud10 (.int .i64 (tb : Int) :: .int .i64 t22 :: ud6 (.int .i64 (bb : Int) :: .int .i64 (IntKind.wrap .i64 (t30 + 1)) :: ud41 [])))) H3) (R (.exit 2) (.slice gc tb kc :: .slice sb ub vb :: .pointer (some ⟨p, 0, none⟩) :: ud4 (.int .i64 z1_7 :: .slice a1 r1 r2 :: .slice kd ld 1 :: ud11 (.int .i64 (tb : Int) :: .int .i64 t22 :: ud49 []))) H)) := by kernel_rfl
def f1lz_I2 (a1 : OA) (sb : OA) (vb : Nat) (ub : Nat) (gc : OA) (kc : Nat) (tb : Nat) (p : Nat) (r1 : Nat) (r2 : Nat) (t22 : Int) (bb : Nat) (z1_7 : Int) (kd : OA) (ld : Nat) (Inv : Nat → Int → AHeap → Prop) : Nat → List Value → AHeap → Prop := fun μ tm H => ∃ (t30 : Int), tm = (f1lz_P2 a1 sb vb ub gc kc tb p r1 r2 t22 bb z1_7 kd ld t30) ∧ Inv μ t30 H
theorem f1lz_L2 (a1 : OA) (sb : OA) (vb : Nat) (ub : Nat) (gc : OA) (kc : Nat) (tb : Nat) (p : Nat) (r1 : Nat) (r2 : Nat) (t22 : Int) (bb : Nat) (z1_7 : Int) (kd : OA) (ld : Nat) {Q : Post} (Inv : Nat → Int → AHeap → Prop) (ν : Nat) (t30 : Int)  (H : AHeap) (h0 : Inv ν t30 H)
  (hs : ∀ (μ : Nat) (t30 : Int)  (H : AHeap), Inv μ t30 H → exL Try.prog E_f1lz (cl (cl (cr (cr (cl (cl (cr (cr (cl (cl (cr (cl (cr (cr (cr (cr (bodyC Try.f204))))))))))))))))) 1616906119 64 [(2, 6292359), (1, 6292359), (0, 512)] (f1lz_P2 a1 sb vb ub gc kc tb p r1 r2 t22 bb z1_7 kd ld t30) H (loopQ (f1lz_I2 a1 sb vb ub gc kc tb p r1 r2 t22 bb z1_7 kd ld Inv) μ Q)) : loopK (exL Try.prog E_f1lz (cl (cl (cr (cr (cl (cl (cr (cr (cl (cl (cr (cl (cr (cr (cr (cr (bodyC Try.f204))))))))))))))))) 1616906119 64 [(2, 6292359), (1, 6292359), (0, 512)]) (f1lz_P2 a1 sb vb ub gc kc tb p r1 r2 t22 bb z1_7 kd ld t30) H Q :=
 ⟨f1lz_I2 a1 sb vb ub gc kc tb p r1 r2 t22 bb z1_7 kd ld Inv, ν, ⟨t30, rfl, h0⟩, fun μ tm H h => by obtain ⟨t30, rfl, hI⟩ := h; exact hs μ t30  H hI⟩
theorem f1lz_n2 {a1 : OA} {sb : OA} {vb : Nat} {ub : Nat} {gc : OA} {kc : Nat} {tb : Nat} {p : Nat} {r1 : Nat} {r2 : Nat} {t22 : Int} {bb : Nat} {z1_7 : Int} {kd : OA} {ld : Nat} {Q : Post} {Inv : Nat → Int → AHeap → Prop} {μ : Nat} (μ' : Nat) {t30 : Int}  {H : AHeap} (hm : μ' < μ) (hI : Inv μ' t30 H) : loopQ (f1lz_I2 a1 sb vb ub gc kc tb p r1 r2 t22 bb z1_7 kd ld Inv) μ Q .normal (f1lz_P2 a1 sb vb ub gc kc tb p r1 r2 t22 bb z1_7 kd ld t30) H := ⟨μ', hm, t30, rfl, hI⟩
theorem f1lz_x2_2 (a1 : OA) (sb : OA) (vb : Nat) (ub : Nat) (gc : OA) (kc : Nat) (tb : Nat) (p : Nat) (r1 : Nat) (r2 : Nat) (t22 : Int) (z1_7 : Int) (kd : OA) (ld : Nat) (H : AHeap)  (R : Post) {I : Nat → List Value → AHeap → Prop} {μ : Nat} : loopQ I μ (blockQ 2 (blockQ 1 (seqQ (exL Try.prog E_f1lz (cr (cr (cr (cl (cl (cr (cl (cr (cr (cr (cr (bodyC Try.f204)))))))))))) 6292359 64 [(0, 512)]) (R)))) (.exit 2) (.slice gc tb kc :: .slice sb ub vb :: .pointer (some ⟨p, 0, none⟩) :: ud4 (.int .i64 z1_7 :: .slice a1 r1 r2 :: .slice kd ld 1 :: ud11 (.int .i64 (tb : Int) :: .int .i64 t22 :: ud49 []))) H =
 (R .normal (.slice gc tb kc :: .slice sb ub vb :: .pointer (some ⟨p, 0, none⟩) :: ud4 (.int .i64 z1_7 :: .slice a1 r1 r2 :: .slice kd ld 1 :: ud11 (.int .i64 (tb : Int) :: .int .i64 (IntKind.wrap .i64 (t22 + 1)) :: ud49 []))) H) := by kernel_rfl
theorem E_f1lz_ok : ∀ g, FnOk Try.prog g (E_f1lz g) := FnOk.envOf (by
 intro x hx
 simp only [List.mem_cons, List.not_mem_nil, or_false] at hx
 subst hx; exact f1kz_ok)
theorem f1lz_main (gc : OA) (tb : Nat) (kc : Nat) (sb : OA) (ub : Nat) (vb : Nat) (p : Nat) (H : AHeap) (K : Value → AHeap → Prop) (h : T_f1lz gc tb kc sb ub vb p H fun (ib : OA) (kb : Nat) (jb : Nat) (H' : AHeap) => K (.slice ib kb jb) H') : bodyL Try.prog E_f1lz Try.f204 [.slice gc tb kc, .slice sb ub vb, .pointer (some ⟨p, 0, none⟩)] H K := by
 rw [f1lz_vc]
 obtain ⟨zb, ic, ec, xb, bc, ma, i_p, i_low, i_high, i_pp_Low, bd_66, bd_67, bd_68, pr0, pr1, pr2, pr3, hk⟩ := h
 obtain rfl := i_low.eqn
 obtain rfl := i_high.eqn
 obtain rfl := i_pp_Low.eqn
 have e : (p_f1lz xb bc ma) = _ := rfl
 have e := e.trans (p_f1lz_eq xb bc ma)
 have g0 := Grow.refl H
 rw [show IntKind.wrap .i64 (2 * (xb.length : Int)) = (2 * (xb.length : Int)) from wrap64 ω2 ω2]
 refine T_f1kz_i ⟨zb, ma.length, ec, _, (rdN_grow g0 i_p), (i_pp_Low.grow g0), ω0, fun a_1 n_2 e_3 H_1 g_6 r_4 => ?_⟩
 have z5 := f1kz_len ma
 have l7 := g_6.1
 have g8 := g0.trans g_6
 have l9 := g8.1
 obtain rfl := r_4.isL.eqn
 have u10 := r_4.up
 have u11 := r_4.lo
 refine ⟨by omega, rfl, ω24, ?_⟩
 refine Al.intro (fun b_13 H_2 hb_14 hl_15 g16 o17 => ?_)
 rw [zeros_map fF 0 _ rfl] at o17
 have l19 := g16.1
 have g20 := g8.trans g16
 have l21 := g20.1
 have r_22 := r_4.grow g16
 have w65 := o17.lt
 refine f1lz_L1 _ _ _ _ _ _ _ _ _ _ _ _ _ (fun (μ : Nat) (t22 : Int) (H_3 : AHeap) => ∃ (y1_1 : LN), Own H_3 b_13 (y1_1.map fF) ∧ y1_1.length = ((2 * (xb.length : Int))).toNat ∧ OwnS fF H_3 H.length a_1 (((p_f1kz ma)).length) e_3 (p_f1kz ma) ∧ H_1.length ≤ H_3.length ∧ Grow H H_3 ∧ (0 : Int) ≤ t22 ∧ t22 ≤ (xb.length : Int) ∧ (xb.length : Int) - t22 ≤ (μ : Int) ∧ p_f1lz xb bc ma = p_f1lz_l1 xb bc ma (μ + 1) t22 y1_1) (Int.toNat ((xb.length : Int) - (0 : Int))) _ H_2 ?_ ?_
 ·exact ⟨_, o17, ω20, r_22, ω2, g20, ω7, ω7, ω2, e⟩
 ·intro μ t22  H_3 hI
  obtain ⟨y1_1, o23, y24, r_25, n26, g27, v28, v29, hμ, e⟩ := hI
  rw [f1lz_r1]
  have e := e.trans (p_f1lz_l1_s xb bc ma μ t22 y1_1)
  have w30 := o23.lt
  have l31 := g27.1
  refine Br.intro (fun c32 => ?_) (fun c32 => ?_)
  ·have e := e.trans (cond_t c32)
   have c_32' := of_decide_eq_true c32
   refine ⟨zb, ma.length, ec, (rdN_at (rdN_grow g27 i_p) 0 (Nat.le_of_ble_eq_true rfl)).trans rfl, ?_⟩
   refine f1lz_L2 _ _ _ _ _ _ _ _ _ _ _ _ _ _ _ (fun (μ2 : Nat) (t30 : Int) (H_4 : AHeap) => ∃ (y2_1 : LN), Own H_4 b_13 (y2_1.map fF) ∧ y2_1.length = ((2 * (xb.length : Int))).toNat ∧ OwnS fF H_4 H.length a_1 (((p_f1kz ma)).length) e_3 (p_f1kz ma) ∧ H_1.length ≤ H_4.length ∧ Grow H H_4 ∧ (0 : Int) ≤ t30 ∧ t30 ≤ (ma.length : Int) ∧ (ma.length : Int) - t30 ≤ (μ2 : Int) ∧ p_f1lz xb bc ma = p_f1lz_l2 xb bc ma t22 y1_1 (fun (t30 : Int) (y2_1 : LN) => (p_f1lz_l1 xb bc ma μ (t22 + 1) y2_1)) (μ2 + 1) t30 y2_1) (Int.toNat ((ma.length : Int) - (0 : Int))) _ H_3 ?_ ?_
   ·exact ⟨_, o23, ω20, r_25, ω2, g27, ω7, ω7, ω2, e⟩
   ·intro μ2 t30  H_4 hI
    obtain ⟨y2_1, o33, y34, r_35, n36, g37, v38, v39, hμ, e⟩ := hI
    rw [f1lz_r2]
    have e := e.trans (p_f1lz_l2_s xb bc ma t22 y1_1 (fun (t30 : Int) (y2_1 : LN) => (p_f1lz_l1 xb bc ma μ (t22 + 1) y2_1)) μ2 t30 y2_1)
    have w40 := o33.lt
    have l41 := g37.1
    refine Br.intro (fun c42 => ?_) (fun c42 => ?_)
    ·have e := e.trans (cond_t c42)
     have c_42' := of_decide_eq_true c42
     rw [show IntKind.wrap .i64 (2 * t22) = (2 * t22) from wrap64 ω2 ω2]
     rw [show IntKind.wrap .i64 ((2 * t22) + t30) = ((2 * t22) + t30) from wrap64 ω2 ω2]
     refine ⟨ω25, ?_⟩
     have z43 := tmod_rng (((2 * t22) + t30)) ((2 * (xb.length : Int)))
     have z44 := tmod_nn (((2 * t22) + t30)) ((2 * (xb.length : Int)))
     refine ⟨by omega, ω2, _, _, rfl, ?_⟩
     refine ⟨((y2_1).getD (Int.tmod (((2 * t22) + t30)) ((2 * (xb.length : Int))) : Int).toNat 0), o33.rd ω0 _, ?_⟩
     refine ⟨zb, ma.length, ec, (rdN_at (rdN_grow g37 i_p) 0 (Nat.le_of_ble_eq_true rfl)).trans rfl, ?_⟩
     obtain ⟨b45, f46, q47⟩ := ((i_pp_Low.grow g37)).pos ω0
     refine ⟨by omega, by omega, b45, f46, q47, ?_⟩
     refine ⟨((ma).getD (t30 : Int).toNat 0), (i_pp_Low).rd g37 q47 ω2 _, ?_⟩
     obtain ⟨b48, f49, q50⟩ := ((i_low.grow g37)).pos ω0
     refine ⟨by omega, by omega, b48, f49, q50, ?_⟩
     refine ⟨((xb).getD (t22 : Int).toNat 0), (i_low).rd g37 q50 ω2 _, ?_⟩
     obtain ⟨b51, f52, q53⟩ := (r_35.isL).pos ω0
     refine ⟨by omega, by omega, b51, f52, q53, ?_⟩
     refine ⟨(((p_f1kz ma)).getD (t30 : Int).toNat 0), (r_35.isL).rd (Grow.refl _) q53 ω2 _, ?_⟩
     obtain ⟨b54, f55, q56⟩ := ((i_high.grow g37)).pos ω0
     refine ⟨by omega, by omega, b54, f55, q56, ?_⟩
     refine ⟨((bc).getD (t22 : Int).toNat 0), (i_high).rd g37 q56 ω2 _, ?_⟩
     refine ⟨by omega, ω2, _, _, rfl, ?_⟩
     refine Lt.set o33 ω19 (fun H_5 hl_57 o59 k58 => ?_)
     have o59 := map_set o59
     have l60 := k58.1
     have g61 := g37.keep (b := b_13) ω2 k58
     have l62 := g61.1
     have r63 := r_35.keep u10 ω2 k58
     have w64 := o59.lt
     rw [show IntKind.wrap .i64 (t30 + 1) = (t30 + 1) from wrap64 ω2 ω2]
     refine f1lz_n2 (μ2 - 1) ω17 ⟨_, o59, ω13, r63, ω2, g61, ω1, ω1, ω17, ω22⟩
    ·have e := e.trans (cond_f c42)
     have c_42' := of_decide_eq_false c42
     rw [f1lz_x2_2]
     rw [show IntKind.wrap .i64 (t22 + 1) = (t22 + 1) from wrap64 ω2 ω2]
     refine f1lz_n1 (μ - 1) ω17 ⟨_, o33, ω13, r_35, ω2, g37, ω1, ω1, ω17, ω12⟩
  ·have e := e.trans (cond_f c32)
   have c_32' := of_decide_eq_false c32
   rw [f1lz_x1_0]
   rw [e] at hk
   exact hk _ _ _ H_3 g27 (o23.ownS ω38 ω2)
theorem f1lz_ok : FnOk Try.prog 204 S_f1lz := by
 refine FnOk.body mix_ok E_f1lz_ok Try.func204 rfl ω15 ω15 ?_ ?_ ?_ ?_ ?_
 ·intro args H K K' h hk
  simp only [S_f1lz] at *
  unfold F_f1lz at *
  split at hk
  ·obtain ⟨zb, ic, ec, xb, bc, ma, i_p, i_low, i_high, i_pp_Low, bd_66, bd_67, bd_68, pr0, pr1, pr2, pr3, k⟩ := hk
   exact ⟨zb, ic, ec, xb, bc, ma, i_p, i_low, i_high, i_pp_Low, bd_66, bd_67, bd_68, pr0, pr1, pr2, pr3, (fun ib kb jb H' gg ow0 => h _ _ (k ib kb jb H' gg ow0))⟩
  ·exact hk.elim
 ·intro hq; cases hq
 ·intro args H K hk
  simp only [S_f1lz] at *
  unfold F_f1lz at *
  split at hk
  ·obtain ⟨zb, ic, ec, xb, bc, ma, i_p, i_low, i_high, i_pp_Low, bd_66, bd_67, bd_68, pr0, pr1, pr2, pr3, k⟩ := hk
   exact liveS fun a n e H1 g o => ⟨_, _, k a n e H1 g o⟩
  ·exact hk.elim
 ·intro _ args H K hk
  simp only [S_f1lz] at *
  unfold F_f1lz at *
  split at hk
  ·obtain ⟨zb, ic, ec, xb, bc, ma, i_p, i_low, i_high, i_pp_Low, bd_66, bd_67, bd_68, pr0, pr1, pr2, pr3, k⟩ := hk
   exact ⟨zb, ic, ec, xb, bc, ma, i_p, i_low, i_high, i_pp_Low, bd_66, bd_67, bd_68, pr0, pr1, pr2, pr3, (fun ib kb jb H' gg ow0 => ⟨gg, k ib kb jb H' gg ow0⟩)⟩
  ·exact hk.elim
 ·have mm := @f1lz_main
  have ml := fun (args : List Value) (H : AHeap) (K : Value → AHeap → Prop) => bodyL_body (P := Try.prog) (env := E_f1lz ) (fn := Try.f204) (args := args) (H := H) (K := K) E_f1lz_ok 
  revert mm ml
  generalize bodyK Try.prog E_f1lz Try.f204 = Q
  generalize bodyL Try.prog E_f1lz Try.f204 = QL
  intro mm ml args H K hk
  simp only [S_f1lz] at *
  unfold F_f1lz at *
  split at hk
  ·exact ml _ H K (mm _ _ _ _ _ _ _ H K hk)
  ·exact hk.elim

def p_f12z_l1 (ab : LN) (la : List LN) (ma : LN) : Nat → Bool → LN → Int → LN × Bool
 | 0, _, _, _ => ([], false)
 | μ + 1, t5, ke, i => (bif decide ((0 : Int) ≤ i) then (bif !((p_f10z ((p_f1lz ke (((la).getD (i : Int).toNat [])) ma)))) then ([], false) else (p_f12z_l1 ab la ma μ t5 ((p_f1lz ke (((la).getD (i : Int).toNat [])) ma)) (i - 1))) else (ke, true))
def p_f12z_l1_s := fun ab la ma μ t5 ke i => @p_f12z_l1.eq_2 ab la ma t5 ke i μ
def p_f12z (ab : LN) (la : List LN) (ma : LN) : LN × Bool := (p_f12z_l1 ab la ma (Int.toNat (((((la.length : Int) - 1))) - 0 + 1) + 1) false ((([] : LN) ++ ab)) ((((la.length : Int) - 1))))
def p_f12z_eq := @p_f12z.eq_1
def T_f12z (b : Nat) (p : Nat) (H : AHeap) (K : OA → Nat → Nat → Bool → AHeap → Prop) : Prop := ∃ (yb : OA), ∃ (cc : Nat), ∃ (fc : Nat), ∃ (pb : OA), ∃ (wb : Nat), ∃ (rb : Nat), ∃ (zb : OA), ∃ (ic : Nat), ∃ (ec : Nat), ∃ (ab : LN), ∃ (la : List LN), ∃ (ma : LN), rdN H b 0 2 = some [.slice yb cc fc, .slice pb wb rb] ∧ rdN H p 0 1 = some [.slice zb ic ec] ∧ IsL fF H yb cc ab ∧ IsLL fF H pb wb la ∧ IsL fF H zb ic ma ∧ ab.length < 1073741824 ∧ la.length < 1073741824 ∧ ma.length < 1073741824 ∧ (∀ y ∈ la, y.length < 1073741824) ∧ bandsRel ab la ∧ ma.length ≤ 8 ∧ ((∀ (ib : OA) (kb jb : Nat), ∀ H' : AHeap, Grow H H' → OwnS fF H' H.length ib kb jb ((p_f12z ab la ma).1) → K ib kb jb ((p_f12z ab la ma).2) H'))
theorem T_f12z_i {b : Nat} {p : Nat} {H : AHeap} {K : OA → Nat → Nat → Bool → AHeap → Prop} (h : ∃ (yb : OA), ∃ (cc : Nat), ∃ (fc : Nat), ∃ (pb : OA), ∃ (wb : Nat), ∃ (rb : Nat), ∃ (zb : OA), ∃ (ic : Nat), ∃ (ec : Nat), ∃ (ab : LN), ∃ (la : List LN), ∃ (ma : LN), rdN H b 0 2 = some [.slice yb cc fc, .slice pb wb rb] ∧ rdN H p 0 1 = some [.slice zb ic ec] ∧ IsL fF H yb cc ab ∧ IsLL fF H pb wb la ∧ IsL fF H zb ic ma ∧ ab.length < 1073741824 ∧ la.length < 1073741824 ∧ ma.length < 1073741824 ∧ (∀ y ∈ la, y.length < 1073741824) ∧ bandsRel ab la ∧ ma.length ≤ 8 ∧ ((∀ (ib : OA) (kb jb : Nat), ∀ H' : AHeap, Grow H H' → OwnS fF H' H.length ib kb jb ((p_f12z ab la ma).1) → K ib kb jb ((p_f12z ab la ma).2) H'))) : T_f12z b p H K := h
theorem f12z_go (a : LN) (ds : List LN) (p : LN) (hb : bandsRel a ds) : ∀ (μ : Nat) (t : Bool) (o : LN) (i : Int), o.length ≤ 128 → i ≤ (ds.length : Int) - 1 → (0 ≤ i → o.length = (ds.getD i.toNat []).length) → (p_f12z_l1 a ds p μ t o i).1.length ≤ 128 := by
 intro μ
 induction μ with
 | zero => intro t o i h1 h2 h3; exact (by decide : 0 ≤ 128)
 | succ μ ih =>
  intro t o i h1 h2 h3
  rw [p_f12z_l1_s]
  refine cnb (P := fun r : LN × Bool => r.1.length ≤ 128) (fun hc => ?_) (fun _ => h1)
  have hc := of_decide_eq_true hc
  refine cnb (P := fun r : LN × Bool => r.1.length ≤ 128) (fun _ => (by decide : 0 ≤ 128)) (fun _ => ?_)
  obtain ⟨g1, g2, g3, g4⟩ := bands_now hb h3 hc h2
  have hj := f1lz_len o (ds.getD i.toNat []) p ω2
  exact ih _ _ _ ω2 ω2 (fun h => by rw [hj]; exact (g4 ω2).symm)
theorem f12z_len (a : LN) (ds : List LN) (p : LN) : bandsRel a ds → (p_f12z a ds p).1.length ≤ 128 := by
 intro hb
 obtain ⟨h1, h2, h3, h4, h5⟩ := bands_start hb
 rw [p_f12z_eq]
 exact f12z_go a ds p hb _ _ _ _ (by rw [List.nil_append]; omega) ω2 (fun _ => by rw [List.nil_append]; exact h2)
/-! f12z: function 177 -/
def E_f12z : Env := envOf [(204, S_f1lz), (104, S_f10z)]
def F_f12z : List Value → AHeap → (Value → AHeap → Prop) → Prop
 | [.pointer (some ⟨b, 0, none⟩), .pointer (some ⟨p, 0, none⟩)], H, K => T_f12z b p H fun (ib : OA) (kb : Nat) (jb : Nat) (r2 : Bool) (H' : AHeap) => K (.tuple #[.slice ib kb jb, .bool r2]) H'
 | _, _, _ => False
def S_f12z : FSpec := { F := F_f12z, quiet := false, tame := true }
theorem f12z_vc (b : Nat) (p : Nat) (H : AHeap) (K : Value → AHeap → Prop) : bodyL Try.prog E_f12z Try.f177 [.pointer (some ⟨b, 0, none⟩), .pointer (some ⟨p, 0, none⟩)] H K =
 (Al [] H fun b1 H1 => ∃ sc : OA, ∃ bb : Nat, ∃ tc : Nat,  rdC H1 b 0 = some (.slice sc bb tc) ∧ ∃ o1 w1 : List Value, ownB H1 (some ⟨b1, 0, none⟩) 0 1 1 = some o1 ∧ rdS H1 sc (bb * 1) = some w1 ∧ ((some ⟨b1, 0, none⟩ : OA) = none → 0 < (bb : Nat)) ∧ (0 : Nat) + bb < most ∧ Ap H1 (killB H1 (some ⟨b1, 0, none⟩) ++ [some ⟨o1 ++ w1, true⟩]) fun b2 H2 => ∃ oe : OA, ∃ je : Nat, ∃ te : Nat,  rdC H2 b 1 = some (.slice oe je te) ∧ loopK (exL Try.prog E_f12z (cl (cl (cr (cl (cr (cr (bodyC Try.f177))))))) 195 48 [(0, 64)]) (.pointer (some ⟨b, 0, none⟩) :: .pointer (some ⟨p, 0, none⟩) :: ud4 (.slice (some ⟨b2, 0, none⟩) (0 + bb) 1 :: .int .i64 (IntKind.wrap .i64 ((je : Int) - 1)) :: ud30 [])) H2 (blockQ 0 (seqQ (exL Try.prog E_f12z (cr (cr (cr (bodyC Try.f177)))) 48 48 []) (retK Try.prog Try.f177 K)))) := by kernel_rfl
abbrev f12z_P1 (b : Nat) (p : Nat) (bd : OA) (dd : Nat) (cd : Nat) (i : Int)  : List Value := (.pointer (some ⟨b, 0, none⟩) :: .pointer (some ⟨p, 0, none⟩) :: ud4 (.slice bd dd cd :: .int .i64 i :: ud30 []))
theorem f12z_r1 (b : Nat) (p : Nat) (bd : OA) (dd : Nat) (cd : Nat) (i : Int)  (H : AHeap) (R : Post) : exL Try.prog E_f12z (cl (cl (cr (cl (cr (cr (bodyC Try.f177))))))) 195 48 [(0, 64)] (f12z_P1 b p bd dd cd i) H R =
 (Br (decide ((0 : Int) ≤ i)) (∃ re : OA, ∃ zd : Nat, ∃ ue : Nat,  rdC H b 1 = some (.slice re zd ue) ∧ (0 : Int) ≤ i ∧ i < (zd : Int) ∧ ∃ b3 f1, (re : OA) = some ⟨b3, f1, none⟩ ∧ ∃ xg : OA, ∃ yg : Nat, ∃ zg : Nat,  rdC H b3 (f1 + (i : Int).toNat * 1) = some (.slice xg yg zg) ∧ T_f1lz bd dd cd xg yg zg p H fun (a1 : OA) (r1 : Nat) (r2 : Nat) (H3 : AHeap) => T_f10z a1 r1 r2 H3 fun (r3 : Bool) (H4 : AHeap) => Br (!r3) (R .ret (ud4 (.slice none 0 0 :: .bool false :: ud32 [])) H4) (R .normal (.pointer (some ⟨b, 0, none⟩) :: .pointer (some ⟨p, 0, none⟩) :: ud4 (.slice a1 r1 r2 :: .int .i64 (IntKind.wrap .i64 (i - 1)) :: ud30 [])) H4)) (R (.exit 0) (ud6 (.slice bd dd cd :: ud31 [])) H)) := by kernel_rfl
def f12z_I1 (b : Nat) (p : Nat) (Inv : Nat → OA → Nat → Nat → Int → AHeap → Prop) : Nat → List Value → AHeap → Prop := fun μ tm H => ∃ (bd : OA), ∃ (dd : Nat), ∃ (cd : Nat), ∃ (i : Int), tm = (f12z_P1 b p bd dd cd i) ∧ Inv μ bd dd cd i H
theorem f12z_L1 (b : Nat) (p : Nat) {Q : Post} (Inv : Nat → OA → Nat → Nat → Int → AHeap → Prop) (ν : Nat) (bd : OA) (dd : Nat) (cd : Nat) (i : Int)  (H : AHeap) (h0 : Inv ν bd dd cd i H)
  (hs : ∀ (μ : Nat) (bd : OA) (dd : Nat) (cd : Nat) (i : Int)  (H : AHeap), Inv μ bd dd cd i H → exL Try.prog E_f12z (cl (cl (cr (cl (cr (cr (bodyC Try.f177))))))) 195 48 [(0, 64)] (f12z_P1 b p bd dd cd i) H (loopQ (f12z_I1 b p Inv) μ Q)) : loopK (exL Try.prog E_f12z (cl (cl (cr (cl (cr (cr (bodyC Try.f177))))))) 195 48 [(0, 64)]) (f12z_P1 b p bd dd cd i) H Q :=
 ⟨f12z_I1 b p Inv, ν, ⟨bd, dd, cd, i, rfl, h0⟩, fun μ tm H h => by obtain ⟨bd, dd, cd, i, rfl, hI⟩ := h; exact hs μ bd dd cd i  H hI⟩
theorem f12z_n1 {b : Nat} {p : Nat} {Q : Post} {Inv : Nat → OA → Nat → Nat → Int → AHeap → Prop} {μ : Nat} (μ' : Nat) {bd : OA} {dd : Nat} {cd : Nat} {i : Int}  {H : AHeap} (hm : μ' < μ) (hI : Inv μ' bd dd cd i H) : loopQ (f12z_I1 b p Inv) μ Q .normal (f12z_P1 b p bd dd cd i) H := ⟨μ', hm, bd, dd, cd, i, rfl, hI⟩
theorem f12z_x1_0 (bd : OA) (dd : Nat) (cd : Nat) (H : AHeap) (K : Value → AHeap → Prop)  {I : Nat → List Value → AHeap → Prop} {μ : Nat} : loopQ I μ (blockQ 0 (seqQ (exL Try.prog E_f12z (cr (cr (cr (bodyC Try.f177)))) 48 48 []) (retK Try.prog Try.f177 K))) (.exit 0) (ud6 (.slice bd dd cd :: ud31 [])) H =
 (K (.tuple #[.slice bd dd cd, .bool true]) H) := by kernel_rfl
theorem f12z_x1_ret (ki : OA) (mi : Nat) (li : Nat) (t5 : Bool) (H : AHeap) (K : Value → AHeap → Prop)  {I : Nat → List Value → AHeap → Prop} {μ : Nat} : loopQ I μ (blockQ 0 (seqQ (exL Try.prog E_f12z (cr (cr (cr (bodyC Try.f177)))) 48 48 []) (retK Try.prog Try.f177 K))) .ret (ud4 (.slice ki mi li :: .bool t5 :: ud32 [])) H =
 (K (.tuple #[.slice ki mi li, .bool t5]) H) := by kernel_rfl
theorem E_f12z_ok : ∀ g, FnOk Try.prog g (E_f12z g) := FnOk.envOf (by
 intro x hx
 simp only [List.mem_cons, List.not_mem_nil, or_false] at hx
 rcases hx with rfl | rfl
 ·exact f1lz_ok
 ·exact f10z_ok)
theorem ω18 {P : Prop} (h : P := by first | omega | (simp; done) | (simp; omega) | (first | (exact fun _ => (bands_start (by assumption)).2.1) | (have hz9 := bands_now (by assumption) (by assumption) (by omega) (by omega); simp only [List.nil_append] at *; omega) | (have hz9 := bands_now (by assumption) (by assumption) (by omega) (by omega); intro hz7; have := hz9.2.2.2 (by omega); omega))) : P := h
theorem ω27 {P : Prop} (h : P := by first | assumption | omega | (simp; omega) | ((have hz9 := bands_now (by assumption) (by assumption) (by omega) (by omega); omega))) : P := h
theorem ω16 {P : Prop} (h : P := by first | omega | (first | (exact fun _ => (bands_start (by assumption)).2.1) | (have hz9 := bands_now (by assumption) (by assumption) (by omega) (by omega); simp only [List.nil_append] at *; omega) | (have hz9 := bands_now (by assumption) (by assumption) (by omega) (by omega); intro hz7; have := hz9.2.2.2 (by omega); omega)) | (simp only [List.length_append, List.length_cons, List.length_nil, List.length_set]; done) | (simp only [List.length_append, List.length_cons, List.length_nil, List.length_set]; omega)) : P := h
theorem f12z_main (b : Nat) (p : Nat) (H : AHeap) (K : Value → AHeap → Prop) (h : T_f12z b p H fun (ib : OA) (kb : Nat) (jb : Nat) (r2 : Bool) (H' : AHeap) => K (.tuple #[.slice ib kb jb, .bool r2]) H') : bodyL Try.prog E_f12z Try.f177 [.pointer (some ⟨b, 0, none⟩), .pointer (some ⟨p, 0, none⟩)] H K := by
 rw [f12z_vc]
 obtain ⟨yb, cc, fc, pb, wb, rb, zb, ic, ec, ab, la, ma, i_b, i_p, i_bp_Coarse, i_bp_Details, i_pp_Low, bd_57, bd_58, bd_59, bb_l_bp_Details, pr0, pr1, hk⟩ := h
 obtain rfl := i_bp_Coarse.eqn
 obtain rfl := i_bp_Details.eqn
 obtain rfl := i_pp_Low.eqn
 have hz8 := bands_start (by assumption)
 have e : (p_f12z ab la ma) = _ := rfl
 have e := e.trans (p_f12z_eq ab la ma)
 have g0 := Grow.refl H
 refine Al.intro (fun b_1 H_1 hb_2 hl_3 g_4 o_5 => ?_)
 have o_5 : Own H_1 b_1 ((([] : LN)).map fF) := o_5
 have l7 := g_4.1
 have g8 := g0.trans g_4
 have l9 := g8.1
 have w56 := o_5.lt
 refine ⟨yb, ab.length, fc, (rdN_at (rdN_grow g8 i_b) 0 (Nat.le_of_ble_eq_true rfl)).trans rfl, ?_⟩
 refine ⟨_, _, o_5.ownB ω5 rfl, (isl_rdS (i_bp_Coarse.grow g8)), (fun h => by cases h), ω24, ?_⟩
 refine Ap.app o_5 rfl rfl (fun b_14 H_2 q54 hl_10 o11 k12 => ?_)
 have o11 := map_snoc o11
 have l15 := k12.1
 have g16 := g8.keep (b := b_1) ω2 k12
 have l17 := g16.1
 have w55 := o11.lt
 refine ⟨pb, la.length, rb, (rdN_at (rdN_grow g16 i_b) 1 (Nat.le_of_ble_eq_true rfl)).trans rfl, ?_⟩
 rw [show IntKind.wrap .i64 ((la.length : Int) - 1) = ((la.length : Int) - 1) from wrap64 ω2 ω2]
 refine f12z_L1 _ _ (fun (μ : Nat) (bd : OA) (dd : Nat) (cd : Nat) (i : Int) (H_3 : AHeap) => ∃ (t5 : Bool), ∃ (ke : LN), dd = ke.length ∧ OwnS fF H_3 b_14 bd ke.length cd ke ∧ b_14 ≤ H_3.length ∧ Grow H H_3 ∧ i ≤ (((la.length : Int) - 1)) ∧ i ≤ (la.length : Int) - 1 ∧ -1 ≤ i ∧ (0 ≤ i → ke.length = (la.getD (i : Int).toNat []).length) ∧ ke.length ≤ 128 ∧ i - 0 + 1 ≤ (μ : Int) ∧ p_f12z ab la ma = p_f12z_l1 ab la ma (μ + 1) t5 ke i) (Int.toNat (((((la.length : Int) - 1))) - 0 + 1)) _ _ _ _ H_2 ?_ ?_
 ·exact ⟨_, _, ω8, (o11.ownS ω8 (Nat.le_refl _)), ω2, g16, ω18, ω18, ω18, ω18, ω18, ω2, e⟩
 ·intro μ bd dd cd i  H_3 hI
  obtain ⟨t5, ke, rfl, r_19, n22, g23, v24, v25, v26, v27, v28, hμ, e⟩ := hI
  rw [f12z_r1]
  have e := e.trans (p_f12z_l1_s ab la ma μ t5 ke i)
  have u20 := r_19.up
  have u21 := r_19.lo
  have l29 := g23.1
  refine Br.intro (fun c30 => ?_) (fun c30 => ?_)
  ·have e := e.trans (cond_t c30)
   have c_30' := of_decide_eq_true c30
   refine ⟨pb, la.length, rb, (rdN_at (rdN_grow g23 i_b) 1 (Nat.le_of_ble_eq_true rfl)).trans rfl, ?_⟩
   obtain ⟨b31, f_32, q33⟩ := ((i_bp_Details.grow g23)).pos ω0
   refine ⟨by omega, by omega, b31, f_32, q33, ?_⟩
   obtain ⟨a34, n35, e36, r37, i38⟩ := (i_bp_Details).rd (i := (i : Int).toNat) g23 q33 ω2
   obtain rfl := i38.eqn
   refine ⟨a34, _, e36, r37, ?_⟩
   have z39 := getD_len bb_l_bp_Details (i : Int).toNat
   refine T_f1lz_i ⟨zb, ma.length, ec, _, _, _, (rdN_grow g23 i_p), r_19.isL, (i38.grow g23), (i_pp_Low.grow g23), ω0, ω0, ω0, ω27, ω27, ω27, ω27, fun a40 n41 e42 H_4 g45 r43 => ?_⟩
   have z44 := f1lz_len ke (((la).getD (i : Int).toNat [])) ma
   have l46 := g45.1
   have g47 := g23.trans g45
   have l48 := g47.1
   have r49 := r_19.grow g45
   obtain rfl := r43.isL.eqn
   have u50 := r43.up
   have u51 := r43.lo
   refine T_f10z_i ⟨_, r43.isL, ω0, ?_⟩
   refine Br.intro (fun c53 => ?_) (fun c53 => ?_)
   ·have e := e.trans (cond_t c53)
    have c_53n := nf_of_t c53
    rw [f12z_x1_ret]
    rw [e] at hk
    exact hk _ _ _ H_4 g47 ω9
   ·have e := e.trans (cond_f c53)
    have c_53n := nt_of_f c53
    rw [show IntKind.wrap .i64 (i - 1) = (i - 1) from wrap64 ω2 ω2]
    refine f12z_n1 (μ - 1) ω17 ⟨_, _, rfl, (r43.weak ω2), ω2, g47, ω16, ω16, ω16, ω16, ω16, ω17, ω12⟩
  ·have e := e.trans (cond_f c30)
   have c_30' := of_decide_eq_false c30
   rw [f12z_x1_0]
   rw [e] at hk
   exact hk _ _ _ H_3 g23 (r_19.weak ω2)
theorem f12z_ok : FnOk Try.prog 177 S_f12z := by
 refine FnOk.body mix_ok E_f12z_ok Try.func177 rfl ω15 ω15 ?_ ?_ ?_ ?_ ?_
 ·intro args H K K' h hk
  simp only [S_f12z] at *
  unfold F_f12z at *
  split at hk
  ·obtain ⟨yb, cc, fc, pb, wb, rb, zb, ic, ec, ab, la, ma, i_b, i_p, i_bp_Coarse, i_bp_Details, i_pp_Low, bd_57, bd_58, bd_59, bb_l_bp_Details, pr0, pr1, k⟩ := hk
   exact ⟨yb, cc, fc, pb, wb, rb, zb, ic, ec, ab, la, ma, i_b, i_p, i_bp_Coarse, i_bp_Details, i_pp_Low, bd_57, bd_58, bd_59, bb_l_bp_Details, pr0, pr1, (fun ib kb jb H' gg ow0 => h _ _ (k ib kb jb H' gg ow0))⟩
  ·exact hk.elim
 ·intro hq; cases hq
 ·intro args H K hk
  simp only [S_f12z] at *
  unfold F_f12z at *
  split at hk
  ·obtain ⟨yb, cc, fc, pb, wb, rb, zb, ic, ec, ab, la, ma, i_b, i_p, i_bp_Coarse, i_bp_Details, i_pp_Low, bd_57, bd_58, bd_59, bb_l_bp_Details, pr0, pr1, k⟩ := hk
   exact liveS fun a n e H1 g o => ⟨_, _, k a n e H1 g o⟩
  ·exact hk.elim
 ·intro _ args H K hk
  simp only [S_f12z] at *
  unfold F_f12z at *
  split at hk
  ·obtain ⟨yb, cc, fc, pb, wb, rb, zb, ic, ec, ab, la, ma, i_b, i_p, i_bp_Coarse, i_bp_Details, i_pp_Low, bd_57, bd_58, bd_59, bb_l_bp_Details, pr0, pr1, k⟩ := hk
   exact ⟨yb, cc, fc, pb, wb, rb, zb, ic, ec, ab, la, ma, i_b, i_p, i_bp_Coarse, i_bp_Details, i_pp_Low, bd_57, bd_58, bd_59, bb_l_bp_Details, pr0, pr1, (fun ib kb jb H' gg ow0 => ⟨gg, k ib kb jb H' gg ow0⟩)⟩
  ·exact hk.elim
 ·have mm := @f12z_main
  have ml := fun (args : List Value) (H : AHeap) (K : Value → AHeap → Prop) => bodyL_body (P := Try.prog) (env := E_f12z ) (fn := Try.f177) (args := args) (H := H) (K := K) E_f12z_ok 
  revert mm ml
  generalize bodyK Try.prog E_f12z Try.f177 = Q
  generalize bodyL Try.prog E_f12z Try.f177 = QL
  intro mm ml args H K hk
  simp only [S_f12z] at *
  unfold F_f12z at *
  split at hk
  ·exact ml _ H K (mm _ _ H K hk)
  ·exact hk.elim

def p_foz (fa : LN) (ca : List LN) (ba : LN) : LN × Bool := (bif !(p_f1az fa ca) then ([], false) else (bif !(p_f1nz ba) then ([], false) else ((p_f12z fa ca ba).1, (p_f12z fa ca ba).2)))
def p_foz_eq := @p_foz.eq_1
def T_foz (ta : OA) (xa : Nat) (va : Nat) (qa : OA) (ua : Nat) (sa : Nat) (p_Low_a : OA) (p_Low_n : Nat) (p_Low_e : Nat) (H : AHeap) (K : OA → Nat → Nat → Bool → AHeap → Prop) : Prop := ∃ (fa : LN), ∃ (ca : List LN), ∃ (ba : LN), IsL fF H ta xa fa ∧ IsLL fF H qa ua ca ∧ IsL fF H p_Low_a p_Low_n ba ∧ fa.length < 1073741824 ∧ ca.length < 1073741824 ∧ ba.length < 1073741824 ∧ (∀ y ∈ ca, y.length < 1073741824) ∧ ((∀ (ib : OA) (kb jb : Nat), ∀ H' : AHeap, Grow H H' → OwnS fF H' H.length ib kb jb ((p_foz fa ca ba).1) → K ib kb jb ((p_foz fa ca ba).2) H'))
theorem T_foz_i {ta : OA} {xa : Nat} {va : Nat} {qa : OA} {ua : Nat} {sa : Nat} {p_Low_a : OA} {p_Low_n : Nat} {p_Low_e : Nat} {H : AHeap} {K : OA → Nat → Nat → Bool → AHeap → Prop} (h : ∃ (fa : LN), ∃ (ca : List LN), ∃ (ba : LN), IsL fF H ta xa fa ∧ IsLL fF H qa ua ca ∧ IsL fF H p_Low_a p_Low_n ba ∧ fa.length < 1073741824 ∧ ca.length < 1073741824 ∧ ba.length < 1073741824 ∧ (∀ y ∈ ca, y.length < 1073741824) ∧ ((∀ (ib : OA) (kb jb : Nat), ∀ H' : AHeap, Grow H H' → OwnS fF H' H.length ib kb jb ((p_foz fa ca ba).1) → K ib kb jb ((p_foz fa ca ba).2) H'))) : T_foz ta xa va qa ua sa p_Low_a p_Low_n p_Low_e H K := h
theorem foz_len (a : LN) (ds : List LN) (p : LN) : (∀ y ∈ ds, y.length < 1073741824) → (p_foz a ds p).1.length ≤ 128 := by
 intro h
 rw [p_foz_eq]
 refine cnb (P := fun r : LN × Bool => r.1.length ≤ 128) (fun _ => (by decide : 0 ≤ 128)) (fun hc => ?_)
 refine cnb (P := fun r : LN × Bool => r.1.length ≤ 128) (fun _ => (by decide : 0 ≤ 128)) (fun _ => ?_)
 exact f12z_len a ds p (bands_rel (nt_of_f hc) h)
/-! foz: function 127 -/
def E_foz : Env := envOf [(112, S_f1az), (161, S_f1nz), (177, S_f12z)]
def F_foz : List Value → AHeap → (Value → AHeap → Prop) → Prop
 | [.agg ⟨[.slice ta xa va, .slice qa ua sa]⟩, .agg ⟨[.slice p_Low_a p_Low_n p_Low_e]⟩], H, K => T_foz ta xa va qa ua sa p_Low_a p_Low_n p_Low_e H fun (ib : OA) (kb : Nat) (jb : Nat) (r2 : Bool) (H' : AHeap) => K (.tuple #[.slice ib kb jb, .bool r2]) H'
 | _, _, _ => False
def S_foz : FSpec := { F := F_foz, quiet := false, tame := true }
theorem foz_vc (ta : OA) (xa : Nat) (va : Nat) (qa : OA) (ua : Nat) (sa : Nat) (p_Low_a : OA) (p_Low_n : Nat) (p_Low_e : Nat) (H : AHeap) (K : Value → AHeap → Prop) : bodyL Try.prog E_foz Try.f127 [.agg #[.slice ta xa va, .slice qa ua sa], .agg #[.slice p_Low_a p_Low_n p_Low_e]] H K =
 (Al [.slice ta xa va, .slice qa ua sa] H fun b1 H1 => Al [.slice p_Low_a p_Low_n p_Low_e] H1 fun b2 H2 => T_f1az b1 H2 fun (r1 : Bool) (H3 : AHeap) => Br (!r1) (K (.tuple #[.slice none 0 0, .bool false]) H3) (T_f1nz b2 H3 fun (r2 : Bool) (H4 : AHeap) => Br (!r2) (K (.tuple #[.slice none 0 0, .bool false]) H4) (T_f12z b1 b2 H4 fun (a1 : OA) (r3 : Nat) (r4 : Nat) (r5 : Bool) (H5 : AHeap) => K (.tuple #[.slice a1 r3 r4, .bool r5]) H5))) := by kernel_rfl
theorem E_foz_ok : ∀ g, FnOk Try.prog g (E_foz g) := FnOk.envOf (by
 intro x hx
 simp only [List.mem_cons, List.not_mem_nil, or_false] at hx
 rcases hx with rfl | rfl | rfl
 ·exact f1az_ok
 ·exact f1nz_ok
 ·exact f12z_ok)
theorem ω37 {P : Prop} (h : P := by first | assumption | omega | (simp; omega) | (first | exact bands_rel (by assumption) (by assumption) | (have := f1nz_t (by assumption); omega))) : P := h
theorem foz_main (ta : OA) (xa : Nat) (va : Nat) (qa : OA) (ua : Nat) (sa : Nat) (p_Low_a : OA) (p_Low_n : Nat) (p_Low_e : Nat) (H : AHeap) (K : Value → AHeap → Prop) (h : T_foz ta xa va qa ua sa p_Low_a p_Low_n p_Low_e H fun (ib : OA) (kb : Nat) (jb : Nat) (r2 : Bool) (H' : AHeap) => K (.tuple #[.slice ib kb jb, .bool r2]) H') : bodyL Try.prog E_foz Try.f127 [.agg #[.slice ta xa va, .slice qa ua sa], .agg #[.slice p_Low_a p_Low_n p_Low_e]] H K := by
 rw [foz_vc]
 obtain ⟨fa, ca, ba, i_b_Coarse, i_b_Details, i_p_Low, bd_41, bd_42, bd_43, bb_l_b_Details, hk⟩ := h
 obtain rfl := i_b_Coarse.eqn
 obtain rfl := i_b_Details.eqn
 obtain rfl := i_p_Low.eqn
 have e : (p_foz fa ca ba) = _ := rfl
 have e := e.trans (p_foz_eq fa ca ba)
 have g0 := Grow.refl H
 refine Al.intro (fun b_1 H_1 hb_2 hl_3 g_4 o_5 => ?_)
 have l7 := g_4.1
 have g8 := g0.trans g_4
 have l9 := g8.1
 have w40 := o_5.lt
 refine Al.intro (fun b_10 H_2 hb_11 hl_12 g13 o14 => ?_)
 have l16 := g13.1
 have g17 := g8.trans g13
 have l18 := g17.1
 have o19 := o_5.grow g13
 have w20 := o19.lt
 have w39 := o14.lt
 refine T_f1az_i ⟨ta, fa.length, va, qa, ca.length, sa, _, ca, ((o19.rdN (Nat.le_of_ble_eq_true rfl)).trans rfl), (i_b_Coarse.grow g17), (i_b_Details.grow g17), ω0, ω0, ω6, ?_⟩
 refine Br.intro (fun c21 => ?_) (fun c21 => ?_)
 ·have e := e.trans (cond_t c21)
  have c_21n := nf_of_t c21
  rw [e] at hk
  exact hk _ _ _ H_2 g17 ω9
 ·have e := e.trans (cond_f c21)
  have c_21n := nt_of_f c21
  have c_21n' := f1az_t c_21n
  refine T_f1nz_i ⟨p_Low_a, ba.length, p_Low_e, _, ((o14.rdN (Nat.le_of_ble_eq_true rfl)).trans rfl), (i_p_Low.grow g17), ω0, ?_⟩
  refine Br.intro (fun c22 => ?_) (fun c22 => ?_)
  ·have e := e.trans (cond_t c22)
   have c_22n := nf_of_t c22
   rw [e] at hk
   exact hk _ _ _ H_2 g17 ω9
  ·have e := e.trans (cond_f c22)
   have c_22n := nt_of_f c22
   have c_22n' := f1nz_t c_22n
   refine T_f12z_i ⟨ta, fa.length, va, qa, ca.length, sa, p_Low_a, ba.length, p_Low_e, _, ca, _, ((o19.rdN (Nat.le_of_ble_eq_true rfl)).trans rfl), ((o14.rdN (Nat.le_of_ble_eq_true rfl)).trans rfl), (i_b_Coarse.grow g17), (i_b_Details.grow g17), (i_p_Low.grow g17), ω0, ω0, ω0, ω6, ω37, ω37, fun a23 n24 e_25 H_3 g28 r_26 => ?_⟩
   have z27 := f12z_len fa ca ba (by first | assumption | exact bands_rel (by assumption) (by assumption))
   have l29 := g28.1
   have g30 := g17.trans g28
   have l31 := g30.1
   have o32 := o19.grow g28
   have w33 := o32.lt
   have o34 := o14.grow g28
   have w35 := o34.lt
   obtain rfl := r_26.isL.eqn
   have u36 := r_26.up
   have u37 := r_26.lo
   rw [e] at hk
   exact hk _ _ _ H_3 g30 (r_26.weak ω2)
theorem foz_ok : FnOk Try.prog 127 S_foz := by
 refine FnOk.body mix_ok E_foz_ok Try.func127 rfl ω15 ω15 ?_ ?_ ?_ ?_ ?_
 ·intro args H K K' h hk
  simp only [S_foz] at *
  unfold F_foz at *
  split at hk
  ·obtain ⟨fa, ca, ba, i_b_Coarse, i_b_Details, i_p_Low, bd_41, bd_42, bd_43, bb_l_b_Details, k⟩ := hk
   exact ⟨fa, ca, ba, i_b_Coarse, i_b_Details, i_p_Low, bd_41, bd_42, bd_43, bb_l_b_Details, (fun ib kb jb H' gg ow0 => h _ _ (k ib kb jb H' gg ow0))⟩
  ·exact hk.elim
 ·intro hq; cases hq
 ·intro args H K hk
  simp only [S_foz] at *
  unfold F_foz at *
  split at hk
  ·obtain ⟨fa, ca, ba, i_b_Coarse, i_b_Details, i_p_Low, bd_41, bd_42, bd_43, bb_l_b_Details, k⟩ := hk
   exact liveS fun a n e H1 g o => ⟨_, _, k a n e H1 g o⟩
  ·exact hk.elim
 ·intro _ args H K hk
  simp only [S_foz] at *
  unfold F_foz at *
  split at hk
  ·obtain ⟨fa, ca, ba, i_b_Coarse, i_b_Details, i_p_Low, bd_41, bd_42, bd_43, bb_l_b_Details, k⟩ := hk
   exact ⟨fa, ca, ba, i_b_Coarse, i_b_Details, i_p_Low, bd_41, bd_42, bd_43, bb_l_b_Details, (fun ib kb jb H' gg ow0 => ⟨gg, k ib kb jb H' gg ow0⟩)⟩
  ·exact hk.elim
 ·have mm := @foz_main
  have ml := fun (args : List Value) (H : AHeap) (K : Value → AHeap → Prop) => bodyL_body (P := Try.prog) (env := E_foz ) (fn := Try.f127) (args := args) (H := H) (K := K) E_foz_ok 
  revert mm ml
  generalize bodyK Try.prog E_foz Try.f127 = Q
  generalize bodyL Try.prog E_foz Try.f127 = QL
  intro mm ml args H K hk
  simp only [S_foz] at *
  unfold F_foz at *
  split at hk
  ·exact ml _ H K (mm _ _ _ _ _ _ _ _ _ H K hk)
  ·exact hk.elim

def p_f1hz_l1 (aa : LN) (ba : LN) (levels : Int) (hard : Bool) : Nat → LN → Int → LN × Bool
 | 0, _, _ => ([], false)
 | μ + 1, ya, t50 => (bif decide ((t50 : Int) < (((p_fdz aa ba levels).2.1).length : Int)) then (p_f1hz_l1 aa ba levels hard μ ((ya ++ [((p_fpz ((p_f1iz ((p_fdz aa ba levels).1) ((p_fdz aa ba levels).2.1)).1) (aa.length : Int)).1)])) (t50 + 1)) else (bif !((p_fcz ((p_fdz aa ba levels).1) ((p_fdz aa ba levels).2.1) ya hard).2.2) then ([], false) else ((p_foz ((p_fcz ((p_fdz aa ba levels).1) ((p_fdz aa ba levels).2.1) ya hard).1) ((p_fcz ((p_fdz aa ba levels).1) ((p_fdz aa ba levels).2.1) ya hard).2.1) ba).1, (p_foz ((p_fcz ((p_fdz aa ba levels).1) ((p_fdz aa ba levels).2.1) ya hard).1) ((p_fcz ((p_fdz aa ba levels).1) ((p_fdz aa ba levels).2.1) ya hard).2.1) ba).2)))
def p_f1hz_l1_s := fun aa ba levels hard μ ya t50 => @p_f1hz_l1.eq_2 aa ba levels hard ya t50 μ
def p_f1hz (aa : LN) (ba : LN) (levels : Int) (hard : Bool) : LN × Bool := (bif !((p_fdz aa ba levels).2.2) then ([], false) else (bif !((p_f1iz ((p_fdz aa ba levels).1) ((p_fdz aa ba levels).2.1)).2) then ([], false) else (bif !((p_fpz ((p_f1iz ((p_fdz aa ba levels).1) ((p_fdz aa ba levels).2.1)).1) (aa.length : Int)).2) then ([], false) else (p_f1hz_l1 aa ba levels hard (Int.toNat ((((p_fdz aa ba levels).2.1).length : Int) - (0 : Int)) + 1) ([] : LN) (0 : Int)))))
def p_f1hz_eq := @p_f1hz.eq_1
def T_f1hz (ea : OA) (da : Nat) (ga : Nat) (p_Low_a : OA) (p_Low_n : Nat) (p_Low_e : Nat) (levels : Int) (hard : Bool) (H : AHeap) (K : OA → Nat → Nat → Bool → AHeap → Prop) : Prop := ∃ (aa : LN), ∃ (ba : LN), IsL fF H ea da aa ∧ IsL fF H p_Low_a p_Low_n ba ∧ aa.length < 1073741824 ∧ ba.length < 1073741824 ∧ ((∀ (ib : OA) (kb jb : Nat), ∀ H' : AHeap, Grow H H' → OwnS fF H' H.length ib kb jb ((p_f1hz aa ba levels hard).1) → K ib kb jb ((p_f1hz aa ba levels hard).2) H'))
theorem T_f1hz_i {ea : OA} {da : Nat} {ga : Nat} {p_Low_a : OA} {p_Low_n : Nat} {p_Low_e : Nat} {levels : Int} {hard : Bool} {H : AHeap} {K : OA → Nat → Nat → Bool → AHeap → Prop} (h : ∃ (aa : LN), ∃ (ba : LN), IsL fF H ea da aa ∧ IsL fF H p_Low_a p_Low_n ba ∧ aa.length < 1073741824 ∧ ba.length < 1073741824 ∧ ((∀ (ib : OA) (kb jb : Nat), ∀ H' : AHeap, Grow H H' → OwnS fF H' H.length ib kb jb ((p_f1hz aa ba levels hard).1) → K ib kb jb ((p_f1hz aa ba levels hard).2) H'))) : T_f1hz ea da ga p_Low_a p_Low_n p_Low_e levels hard H K := h
theorem f1hz_len (l t : LN) (v : Int) (h : Bool) : l.length < 1073741824 → (p_f1hz l t v h).1.length < 1073741824 := by
 intro hl
 have z : ([] : LN).length < 1073741824 := by decide
 have go : ∀ (μ : Nat) (o : LN) (i : Int), (p_f1hz_l1 l t v h μ o i).1.length < 1073741824 := by
  intro μ
  induction μ with
  | zero => intro o i; exact z
  | succ μ ih =>
   intro o i
   rw [p_f1hz_l1_s]
   refine cnb (P := fun r : LN × Bool => r.1.length < 1073741824) (fun _ => ih _ _) (fun _ => ?_)
   refine cnb (P := fun r : LN × Bool => r.1.length < 1073741824) (fun _ => z) (fun _ => ?_)
   exact Nat.lt_of_le_of_lt (foz_len _ _ _ (fcz_big _ _ _ _ (fdz_big _ _ _ hl))) ω32
 rw [p_f1hz_eq]
 refine cnb (P := fun r : LN × Bool => r.1.length < 1073741824) (fun _ => z) (fun _ => ?_)
 refine cnb (P := fun r : LN × Bool => r.1.length < 1073741824) (fun _ => z) (fun _ => ?_)
 refine cnb (P := fun r : LN × Bool => r.1.length < 1073741824) (fun _ => z) (fun _ => ?_)
 exact go _ _ _
/-! f1hz: function 38 -/
def E_f1hz : Env := envOf [(80, S_fdz), (28, S_f1iz), (126, S_fpz), (33, S_fcz), (127, S_foz)]
def F_f1hz : List Value → AHeap → (Value → AHeap → Prop) → Prop
 | [.slice ea da ga, .agg ⟨[.slice p_Low_a p_Low_n p_Low_e]⟩, .int .i64 levels, .bool hard], H, K => T_f1hz ea da ga p_Low_a p_Low_n p_Low_e levels hard H fun (ib : OA) (kb : Nat) (jb : Nat) (r2 : Bool) (H' : AHeap) => K (.tuple #[.slice ib kb jb, .bool r2]) H'
 | _, _, _ => False
def S_f1hz : FSpec := { F := F_f1hz, quiet := false, tame := true }
theorem f1hz_vc (ea : OA) (da : Nat) (ga : Nat) (p_Low_a : OA) (p_Low_n : Nat) (p_Low_e : Nat) (levels : Int) (hard : Bool) (H : AHeap) (K : Value → AHeap → Prop) : bodyL Try.prog E_f1hz Try.f38 [.slice ea da ga, .agg #[.slice p_Low_a p_Low_n p_Low_e], .int .i64 levels, .bool hard] H K =
 (Al [.slice p_Low_a p_Low_n p_Low_e] H fun b1 H1 => ∃ xe : OA, ∃ ze : Nat, ∃ ye : Nat,  rdN H1 b1 0 1 = some [.slice xe ze ye] ∧ T_fdz ea da ga xe ze ye levels H1 fun (a1 : OA) (r1 : Nat) (r2 : Nat) (a2 : OA) (r3 : Nat) (r4 : Nat) (r5 : Bool) (H2 : AHeap) => Al [.slice none 0 0, .slice none 0 0] H2 fun b2 H3 => isOwn H3 b2 ∧ (∃ l, rdN H3 b2 0 2 = some l) ∧ Lt (setN H3 b2 0 [.slice a1 r1 r2, .slice a2 r3 r4]) fun H4 => Br (!r5) (K (.tuple #[.slice none 0 0, .bool false]) H4) (∃ af : OA, ∃ cf : Nat, ∃ bf : Nat, ∃ yf : OA, ∃ ag : Nat, ∃ zf : Nat,  rdN H4 b2 0 2 = some [.slice af cf bf, .slice yf ag zf] ∧ T_f1iz af cf bf yf ag zf H4 fun (r6 : Nat) (r7 : Bool) (H5 : AHeap) => T_fpz r6 (da : Int) H5 fun (r8 : Nat) (r9 : Bool) (H6 : AHeap) => Br (!r7) (K (.tuple #[.slice none 0 0, .bool false]) H6) (Br (!r9) (K (.tuple #[.slice none 0 0, .bool false]) H6) (Al [] H6 fun b3 H7 => ∃ sc : OA, ∃ bb : Nat, ∃ tc : Nat,  rdC H7 b2 1 = some (.slice sc bb tc) ∧ loopK (exL Try.prog E_f1hz (cl (cl (cr (cl (cr (cr (cr (cr (cr (cr (cr (bodyC Try.f38)))))))))))) 1688849860346920 768 [(0, 66600)]) (ud3 (.bool hard :: ud :: .pointer (some ⟨b1, 0, none⟩) :: ud4 (.pointer (some ⟨b2, 0, none⟩) :: ud3 (.float .f32 r8 :: ud :: .slice (some ⟨b3, 0, none⟩) 0 1 :: ud32 (.int .i64 (bb : Int) :: .int .i64 0 :: ud20 []))))) H7 (blockQ 0 (seqQ (exL Try.prog E_f1hz (cr (cr (cr (cr (cr (cr (cr (cr (bodyC Try.f38))))))))) 768 768 []) (retK Try.prog Try.f38 K))))))) := by kernel_rfl
abbrev f1hz_P1 (b1 : Nat) (b2 : Nat) (hard : Bool) (r8 : Nat) (bb : Nat) (za : OA) (wa : Nat) (cb : Nat) (t50 : Int)  : List Value := (ud3 (.bool hard :: ud :: .pointer (some ⟨b1, 0, none⟩) :: ud4 (.pointer (some ⟨b2, 0, none⟩) :: ud3 (.float .f32 r8 :: ud :: .slice za wa cb :: ud32 (.int .i64 (bb : Int) :: .int .i64 t50 :: ud20 [])))))
theorem f1hz_r1 (b1 : Nat) (b2 : Nat) (hard : Bool) (r8 : Nat) (bb : Nat) (za : OA) (wa : Nat) (cb : Nat) (t50 : Int)  (H : AHeap) (R : Post) : exL Try.prog E_f1hz (cl (cl (cr (cl (cr (cr (cr (cr (cr (cr (cr (bodyC Try.f38)))))))))))) 1688849860346920 768 [(0, 66600)] (f1hz_P1 b1 b2 hard r8 bb za wa cb t50) H R =
 (Br (decide ((t50 : Int) < (bb : Int))) (Al [.float .f32 r8] H fun b4 H8 => ∃ o1 w1 : List Value, ownB H8 za wa cb 1 = some o1 ∧ rdS H8 (some ⟨b4, 0, none⟩) (1 * 1) = some w1 ∧ ((za : OA) = none → 0 < (1 : Nat)) ∧ (wa : Nat) + 1 < most ∧ Ap H8 (killB H8 za ++ [some ⟨o1 ++ w1, true⟩]) fun b5 H9 => R .normal (ud3 (.bool hard :: ud :: .pointer (some ⟨b1, 0, none⟩) :: ud4 (.pointer (some ⟨b2, 0, none⟩) :: ud3 (.float .f32 r8 :: ud :: .slice (some ⟨b5, 0, none⟩) (wa + 1) 1 :: ud32 (.int .i64 (bb : Int) :: .int .i64 (IntKind.wrap .i64 (t50 + 1)) :: ud20 []))))) H9) (R (.exit 0) (ud3 (.bool hard :: ud :: .pointer (some ⟨b1, 0, none⟩) :: ud4 (.pointer (some ⟨b2, 0, none⟩) :: ud5 (.slice za wa cb :: ud54 [])))) H)) := by kernel_rfl
def f1hz_I1 (b1 : Nat) (b2 : Nat) (hard : Bool) (r8 : Nat) (bb : Nat) (Inv : Nat → OA → Nat → Nat → Int → AHeap → Prop) : Nat → List Value → AHeap → Prop := fun μ tm H => ∃ (za : OA), ∃ (wa : Nat), ∃ (cb : Nat), ∃ (t50 : Int), tm = (f1hz_P1 b1 b2 hard r8 bb za wa cb t50) ∧ Inv μ za wa cb t50 H
theorem f1hz_L1 (b1 : Nat) (b2 : Nat) (hard : Bool) (r8 : Nat) (bb : Nat) {Q : Post} (Inv : Nat → OA → Nat → Nat → Int → AHeap → Prop) (ν : Nat) (za : OA) (wa : Nat) (cb : Nat) (t50 : Int)  (H : AHeap) (h0 : Inv ν za wa cb t50 H)
  (hs : ∀ (μ : Nat) (za : OA) (wa : Nat) (cb : Nat) (t50 : Int)  (H : AHeap), Inv μ za wa cb t50 H → exL Try.prog E_f1hz (cl (cl (cr (cl (cr (cr (cr (cr (cr (cr (cr (bodyC Try.f38)))))))))))) 1688849860346920 768 [(0, 66600)] (f1hz_P1 b1 b2 hard r8 bb za wa cb t50) H (loopQ (f1hz_I1 b1 b2 hard r8 bb Inv) μ Q)) : loopK (exL Try.prog E_f1hz (cl (cl (cr (cl (cr (cr (cr (cr (cr (cr (cr (bodyC Try.f38)))))))))))) 1688849860346920 768 [(0, 66600)]) (f1hz_P1 b1 b2 hard r8 bb za wa cb t50) H Q :=
 ⟨f1hz_I1 b1 b2 hard r8 bb Inv, ν, ⟨za, wa, cb, t50, rfl, h0⟩, fun μ tm H h => by obtain ⟨za, wa, cb, t50, rfl, hI⟩ := h; exact hs μ za wa cb t50  H hI⟩
theorem f1hz_n1 {b1 : Nat} {b2 : Nat} {hard : Bool} {r8 : Nat} {bb : Nat} {Q : Post} {Inv : Nat → OA → Nat → Nat → Int → AHeap → Prop} {μ : Nat} (μ' : Nat) {za : OA} {wa : Nat} {cb : Nat} {t50 : Int}  {H : AHeap} (hm : μ' < μ) (hI : Inv μ' za wa cb t50 H) : loopQ (f1hz_I1 b1 b2 hard r8 bb Inv) μ Q .normal (f1hz_P1 b1 b2 hard r8 bb za wa cb t50) H := ⟨μ', hm, za, wa, cb, t50, rfl, hI⟩
theorem f1hz_x1_0 (b1 : Nat) (b2 : Nat) (hard : Bool) (za : OA) (wa : Nat) (cb : Nat) (H : AHeap) (K : Value → AHeap → Prop)  {I : Nat → List Value → AHeap → Prop} {μ : Nat} : loopQ I μ (blockQ 0 (seqQ (exL Try.prog E_f1hz (cr (cr (cr (cr (cr (cr (cr (cr (bodyC Try.f38))))))))) 768 768 []) (retK Try.prog Try.f38 K))) (.exit 0) (ud3 (.bool hard :: ud :: .pointer (some ⟨b1, 0, none⟩) :: ud4 (.pointer (some ⟨b2, 0, none⟩) :: ud5 (.slice za wa cb :: ud54 [])))) H =
 (∃ bg : OA, ∃ eg : Nat, ∃ dg : Nat, ∃ fg : OA, ∃ jg : Nat, ∃ ig : Nat,  rdN H b2 0 2 = some [.slice bg eg dg, .slice fg jg ig] ∧ T_fcz bg eg dg fg jg ig za wa cb hard H fun (a3 : OA) (r10 : Nat) (r11 : Nat) (a4 : OA) (r12 : Nat) (r13 : Nat) (r14 : Bool) (H10 : AHeap) => Al [.slice none 0 0, .slice none 0 0] H10 fun b6 H11 => isOwn H11 b6 ∧ (∃ l, rdN H11 b6 0 2 = some l) ∧ Lt (setN H11 b6 0 [.slice a3 r10 r11, .slice a4 r12 r13]) fun H12 => Br (!r14) (K (.tuple #[.slice none 0 0, .bool false]) H12) (∃ kg : OA, ∃ mg : Nat, ∃ lg : Nat, ∃ ng : OA, ∃ pg : Nat, ∃ og : Nat,  rdN H12 b6 0 2 = some [.slice kg mg lg, .slice ng pg og] ∧ ∃ qg : OA, ∃ tg : Nat, ∃ rg : Nat,  rdN H12 b1 0 1 = some [.slice qg tg rg] ∧ T_foz kg mg lg ng pg og qg tg rg H12 fun (a5 : OA) (r15 : Nat) (r16 : Nat) (r17 : Bool) (H13 : AHeap) => K (.tuple #[.slice a5 r15 r16, .bool r17]) H13)) := by kernel_rfl
theorem E_f1hz_ok : ∀ g, FnOk Try.prog g (E_f1hz g) := FnOk.envOf (by
 intro x hx
 simp only [List.mem_cons, List.not_mem_nil, or_false] at hx
 rcases hx with rfl | rfl | rfl | rfl | rfl
 ·exact fdz_ok
 ·exact f1iz_ok
 ·exact fpz_ok
 ·exact fcz_ok
 ·exact foz_ok)
theorem f1hz_main (ea : OA) (da : Nat) (ga : Nat) (p_Low_a : OA) (p_Low_n : Nat) (p_Low_e : Nat) (levels : Int) (hard : Bool) (H : AHeap) (K : Value → AHeap → Prop) (h : T_f1hz ea da ga p_Low_a p_Low_n p_Low_e levels hard H fun (ib : OA) (kb : Nat) (jb : Nat) (r2 : Bool) (H' : AHeap) => K (.tuple #[.slice ib kb jb, .bool r2]) H') : bodyL Try.prog E_f1hz Try.f38 [.slice ea da ga, .agg #[.slice p_Low_a p_Low_n p_Low_e], .int .i64 levels, .bool hard] H K := by
 rw [f1hz_vc]
 obtain ⟨aa, ba, i_list, i_p_Low, bd_236, bd_237, hk⟩ := h
 obtain rfl := i_list.eqn
 obtain rfl := i_p_Low.eqn
 have e : (p_f1hz aa ba levels hard) = _ := rfl
 have e := e.trans (p_f1hz_eq aa ba levels hard)
 have g0 := Grow.refl H
 refine Al.intro (fun b_1 H_1 hb_2 hl_3 g_4 o_5 => ?_)
 have l7 := g_4.1
 have g8 := g0.trans g_4
 have l9 := g8.1
 have w235 := o_5.lt
 refine ⟨p_Low_a, ba.length, p_Low_e, (o_5.rdN (Nat.le_of_ble_eq_true rfl)).trans rfl, ?_⟩
 refine T_fdz_i ⟨_, _, (i_list.grow g8), (i_p_Low.grow g8), ω0, ω0, fun a_10 n11 e12 a14 n15 e16 H_2 g20 r_13 r_17 => ?_⟩
 have z18 := fdz_len aa ba levels
 have z19 := fdz_big aa ba levels ω2
 have l21 := g20.1
 have g22 := g8.trans g20
 have l23 := g22.1
 have o24 := o_5.grow g20
 have w25 := o24.lt
 obtain rfl := r_13.isL.eqn
 have u26 := r_13.up
 have u27 := r_13.lo
 obtain rfl := r_17.isL.eqn
 have u29 := r_17.up
 have u30 := r_17.lo
 refine Al.intro (fun b_32 H_3 hb_33 hl_34 g35 o36 => ?_)
 have l38 := g35.1
 have g39 := g22.trans g35
 have l40 := g39.1
 have o41 := o24.grow g35
 have w42 := o41.lt
 have r43 := r_13.grow g35
 have r44 := r_17.grow g35
 have w234 := o36.lt
 refine Lt.setN (n := 2) o36 (Nat.le_of_ble_eq_true rfl) rfl (fun H_4 hl_45 o47 k46 => ?_)
 have o47 : Own H_4 b_32 [.slice a_10 (((p_fdz aa ba levels).1).length) e12, .slice a14 (((p_fdz aa ba levels).2.1).length) e16] := o47
 have l48 := k46.1
 have g49 := g39.keep (b := b_32) ω2 k46
 have l50 := g49.1
 have o51 := o41.keep ω2 k46
 have w52 := o51.lt
 have r53 := r43.keep u26 ω2 k46
 have r54 := r44.keep ω2 k46
 have w233 := o47.lt
 refine Br.intro (fun c55 => ?_) (fun c55 => ?_)
 ·have e := e.trans (cond_t c55)
  have c_55n := nf_of_t c55
  rw [e] at hk
  exact hk _ _ _ H_4 g49 ω9
 ·have e := e.trans (cond_f c55)
  have c_55n := nt_of_f c55
  refine ⟨a_10, ((p_fdz aa ba levels).1).length, e12, a14, ((p_fdz aa ba levels).2.1).length, e16, (o47.rdN (Nat.le_of_ble_eq_true rfl)).trans rfl, ?_⟩
  refine T_f1iz_i ⟨_, (p_fdz aa ba levels).2.1, r53.isL, r54.isL, ω0, ω0, ω6, fun  H_5 g56  => ?_⟩
  have l57 := g56.1
  have g58 := g49.trans g56
  have l59 := g58.1
  have o60 := o51.grow g56
  have w61 := o60.lt
  have o62 := o47.grow g56
  have w63 := o62.lt
  have r64 := r53.grow g56
  have r65 := r54.grow g56
  refine T_fpz_i ?_
  refine Br.intro (fun c66 => ?_) (fun c66 => ?_)
  ·have e := e.trans (cond_t c66)
   have c_66n := nf_of_t c66
   rw [e] at hk
   exact hk _ _ _ H_5 g58 ω9
  ·have e := e.trans (cond_f c66)
   have c_66n := nt_of_f c66
   refine Br.intro (fun c67 => ?_) (fun c67 => ?_)
   ·have e := e.trans (cond_t c67)
    have c_67n := nf_of_t c67
    rw [e] at hk
    exact hk _ _ _ H_5 g58 ω9
   ·have e := e.trans (cond_f c67)
    have c_67n := nt_of_f c67
    refine Al.intro (fun b68 H_6 hb_69 hl_70 g71 o72 => ?_)
    have o72 : Own H_6 b68 ((([] : LN)).map fF) := o72
    have l74 := g71.1
    have g75 := g58.trans g71
    have l76 := g75.1
    have o77 := o60.grow g71
    have w78 := o77.lt
    have o79 := o62.grow g71
    have w80 := o79.lt
    have r81 := r64.grow g71
    have r82 := r65.grow g71
    have w232 := o72.lt
    refine ⟨a14, ((p_fdz aa ba levels).2.1).length, e16, (o79.rdC _).trans rfl, ?_⟩
    refine f1hz_L1 _ _ _ _ _ (fun (μ : Nat) (za : OA) (wa : Nat) (cb : Nat) (t50 : Int) (H_7 : AHeap) => ∃ (ya : LN), ∃ (b83 : Nat), za = some ⟨b83, 0, none⟩ ∧ wa = ya.length ∧ cb = 1 ∧ Own H_7 b83 (ya.map fF) ∧ Own H_7 b_1 ([.slice p_Low_a ba.length p_Low_e]) ∧ Own H_7 b_32 ([.slice a_10 (((p_fdz aa ba levels).1).length) e12, .slice a14 (((p_fdz aa ba levels).2.1).length) e16]) ∧ OwnS fF H_7 H_1.length a_10 (((p_fdz aa ba levels).1).length) e12 ((p_fdz aa ba levels).1) ∧ OwnLL fF H_7 H_1.length H_2.length a14 (((p_fdz aa ba levels).2.1).length) e16 ((p_fdz aa ba levels).2.1) ∧ (b_32 ≠ b_1) ∧ (b83 ≠ b_1) ∧ (b83 ≠ b_32) ∧ H_2.length ≤ H_7.length ∧ (b83 < H_1.length ∨ H_2.length ≤ b83) ∧ H_2.length ≤ H_7.length ∧ (b83 < H_1.length ∨ H_2.length ≤ b83) ∧ Grow H H_7 ∧ H.length ≤ b83 ∧ (0 : Int) ≤ t50 ∧ t50 ≤ (((p_fdz aa ba levels).2.1).length : Int) ∧ (ya.length : Int) ≤ t50 - (0 : Int) + 0 ∧ (((p_fdz aa ba levels).2.1).length : Int) - t50 ≤ (μ : Int) ∧ p_f1hz aa ba levels hard = p_f1hz_l1 aa ba levels hard (μ + 1) ya t50) (Int.toNat ((((p_fdz aa ba levels).2.1).length : Int) - (0 : Int))) _ _ _ _ H_6 ?_ ?_
    ·exact ⟨_, _, rfl, ω10, rfl, o72, o77, o79, r81, r82, ω2, ω2, ω2, ω2, ω2, ω2, ω2, g75, ω2, ω7, ω7, ω7, ω2, e⟩
    ·intro μ za wa cb t50  H_7 hI
     obtain ⟨ya, b83, rfl, rfl, rfl, o84, o85, o86, r87, r88, n89, n90, n91, n92, n93, n94, n95, g96, l97, v98, v99, v100, hμ, e⟩ := hI
     rw [f1hz_r1]
     have e := e.trans (p_f1hz_l1_s aa ba levels hard μ ya t50)
     have w101 := o85.lt
     have w102 := o86.lt
     have w103 := o84.lt
     have l104 := g96.1
     refine Br.intro (fun c105 => ?_) (fun c105 => ?_)
     ·have e := e.trans (cond_t c105)
      have c_105' := of_decide_eq_true c105
      refine Al.intro (fun b106 H_8 hb_107 hl_108 g109 o110 => ?_)
      have o110 : Own H_8 b106 (([((p_fpz ((p_f1iz ((p_fdz aa ba levels).1) ((p_fdz aa ba levels).2.1)).1) (aa.length : Int)).1)]).map fF) := o110
      have l112 := g109.1
      have g113 := g96.trans g109
      have l114 := g113.1
      have o115 := o85.grow g109
      have w116 := o115.lt
      have o117 := o86.grow g109
      have w118 := o117.lt
      have o119 := o84.grow g109
      have w120 := o119.lt
      have r121 := r87.grow g109
      have r122 := r88.grow g109
      have w141 := o110.lt
      refine ⟨_, _, o119.ownB ω5 rfl, (isl_rdS (o110.isL ω10)), (fun h => by cases h), ω24, ?_⟩
      refine Ap.app o119 rfl rfl (fun b127 H_9 q139 hl_123 o124 k125 => ?_)
      have o124 := map_snoc o124
      have l128 := k125.1
      have g129 := g113.keep (b := b83) ω2 k125
      have l130 := g129.1
      have o131 := o115.keep ω2 k125
      have w132 := o131.lt
      have o133 := o117.keep ω2 k125
      have w134 := o133.lt
      have o135 := o110.keep ω2 k125
      have w136 := o135.lt
      have r137 := r121.keep u26 ω2 k125
      have r138 := r122.keep ω2 k125
      have w140 := o124.lt
      rw [show IntKind.wrap .i64 (t50 + 1) = (t50 + 1) from wrap64 ω2 ω2]
      refine f1hz_n1 (μ - 1) ω17 ⟨_, _, rfl, ω8, rfl, o124, o131, o133, r137, r138, ω2, ω2, ω2, ω2, ω2, ω2, ω2, g129, ω2, ω1, ω1, ω1, ω17, ω12⟩
     ·have e := e.trans (cond_f c105)
      have c_105' := of_decide_eq_false c105
      rw [f1hz_x1_0]
      refine ⟨a_10, ((p_fdz aa ba levels).1).length, e12, a14, ((p_fdz aa ba levels).2.1).length, e16, (o86.rdN (Nat.le_of_ble_eq_true rfl)).trans rfl, ?_⟩
      refine T_fcz_i ⟨_, (p_fdz aa ba levels).2.1, _, r87.isL, r88.isL, (o84.isL ω10), ω0, ω0, ω0, ω6, fun a142 n143 e144 a146 n147 e148 H_10 g152 r145 r149 => ?_⟩
      have z150 := fcz_len ((p_fdz aa ba levels).1) ((p_fdz aa ba levels).2.1) ya hard
      have z151 := fcz_big ((p_fdz aa ba levels).1) ((p_fdz aa ba levels).2.1) ya hard (by assumption)
      have l153 := g152.1
      have g154 := g96.trans g152
      have l155 := g154.1
      have o156 := o85.grow g152
      have w157 := o156.lt
      have o158 := o86.grow g152
      have w159 := o158.lt
      have o160 := o84.grow g152
      have w161 := o160.lt
      have r162 := r87.grow g152
      have r163 := r88.grow g152
      obtain rfl := r145.isL.eqn
      have u164 := r145.up
      have u165 := r145.lo
      obtain rfl := r149.isL.eqn
      have u167 := r149.up
      have u168 := r149.lo
      refine Al.intro (fun b170 H_11 hb_171 hl_172 g173 o174 => ?_)
      have l176 := g173.1
      have g177 := g154.trans g173
      have l178 := g177.1
      have o179 := o156.grow g173
      have w180 := o179.lt
      have o181 := o158.grow g173
      have w182 := o181.lt
      have o183 := o160.grow g173
      have w184 := o183.lt
      have r185 := r162.grow g173
      have r186 := r163.grow g173
      have r187 := r145.grow g173
      have r188 := r149.grow g173
      have w231 := o174.lt
      refine Lt.setN (n := 2) o174 (Nat.le_of_ble_eq_true rfl) rfl (fun H_12 hl_189 o191 k190 => ?_)
      have o191 : Own H_12 b170 [.slice a142 (((p_fcz ((p_fdz aa ba levels).1) ((p_fdz aa ba levels).2.1) ya hard).1).length) e144, .slice a146 (((p_fcz ((p_fdz aa ba levels).1) ((p_fdz aa ba levels).2.1) ya hard).2.1).length) e148] := o191
      have l192 := k190.1
      have g193 := g177.keep (b := b170) ω2 k190
      have l194 := g193.1
      have o195 := o179.keep ω2 k190
      have w196 := o195.lt
      have o197 := o181.keep ω2 k190
      have w198 := o197.lt
      have o199 := o183.keep ω2 k190
      have w200 := o199.lt
      have r201 := r185.keep u26 ω2 k190
      have r202 := r186.keep ω2 k190
      have r203 := r187.keep u164 ω2 k190
      have r204 := r188.keep ω2 k190
      have w230 := o191.lt
      refine Br.intro (fun c205 => ?_) (fun c205 => ?_)
      ·have e := e.trans (cond_t c205)
       have c_205n := nf_of_t c205
       rw [e] at hk
       exact hk _ _ _ H_12 g193 ω9
      ·have e := e.trans (cond_f c205)
       have c_205n := nt_of_f c205
       refine ⟨a142, ((p_fcz ((p_fdz aa ba levels).1) ((p_fdz aa ba levels).2.1) ya hard).1).length, e144, a146, ((p_fcz ((p_fdz aa ba levels).1) ((p_fdz aa ba levels).2.1) ya hard).2.1).length, e148, (o191.rdN (Nat.le_of_ble_eq_true rfl)).trans rfl, ?_⟩
       refine ⟨p_Low_a, ba.length, p_Low_e, (o195.rdN (Nat.le_of_ble_eq_true rfl)).trans rfl, ?_⟩
       refine T_foz_i ⟨_, (p_fcz ((p_fdz aa ba levels).1) ((p_fdz aa ba levels).2.1) ya hard).2.1, _, r203.isL, r204.isL, (i_p_Low.grow g193), ω0, ω0, ω0, ω6, fun a206 n207 e208 H_13 g211 r209 => ?_⟩
       have z210 := foz_len ((p_fcz ((p_fdz aa ba levels).1) ((p_fdz aa ba levels).2.1) ya hard).1) ((p_fcz ((p_fdz aa ba levels).1) ((p_fdz aa ba levels).2.1) ya hard).2.1) ba (by assumption)
       have l212 := g211.1
       have g213 := g193.trans g211
       have l214 := g213.1
       have o215 := o195.grow g211
       have w216 := o215.lt
       have o217 := o197.grow g211
       have w218 := o217.lt
       have o219 := o199.grow g211
       have w220 := o219.lt
       have o221 := o191.grow g211
       have w222 := o221.lt
       have r223 := r201.grow g211
       have r224 := r202.grow g211
       have r225 := r203.grow g211
       have r226 := r204.grow g211
       obtain rfl := r209.isL.eqn
       have u227 := r209.up
       have u228 := r209.lo
       rw [e] at hk
       exact hk _ _ _ H_13 g213 (r209.weak ω2)
theorem f1hz_ok : FnOk Try.prog 38 S_f1hz := by
 refine FnOk.body mix_ok E_f1hz_ok Try.func38 rfl ω15 ω15 ?_ ?_ ?_ ?_ ?_
 ·intro args H K K' h hk
  simp only [S_f1hz] at *
  unfold F_f1hz at *
  split at hk
  ·obtain ⟨aa, ba, i_list, i_p_Low, bd_236, bd_237, k⟩ := hk
   exact ⟨aa, ba, i_list, i_p_Low, bd_236, bd_237, (fun ib kb jb H' gg ow0 => h _ _ (k ib kb jb H' gg ow0))⟩
  ·exact hk.elim
 ·intro hq; cases hq
 ·intro args H K hk
  simp only [S_f1hz] at *
  unfold F_f1hz at *
  split at hk
  ·obtain ⟨aa, ba, i_list, i_p_Low, bd_236, bd_237, k⟩ := hk
   exact liveS fun a n e H1 g o => ⟨_, _, k a n e H1 g o⟩
  ·exact hk.elim
 ·intro _ args H K hk
  simp only [S_f1hz] at *
  unfold F_f1hz at *
  split at hk
  ·obtain ⟨aa, ba, i_list, i_p_Low, bd_236, bd_237, k⟩ := hk
   exact ⟨aa, ba, i_list, i_p_Low, bd_236, bd_237, (fun ib kb jb H' gg ow0 => ⟨gg, k ib kb jb H' gg ow0⟩)⟩
  ·exact hk.elim
 ·have mm := @f1hz_main
  have ml := fun (args : List Value) (H : AHeap) (K : Value → AHeap → Prop) => bodyL_body (P := Try.prog) (env := E_f1hz ) (fn := Try.f38) (args := args) (H := H) (K := K) E_f1hz_ok 
  revert mm ml
  generalize bodyK Try.prog E_f1hz Try.f38 = Q
  generalize bodyL Try.prog E_f1hz Try.f38 = QL
  intro mm ml args H K hk
  simp only [S_f1hz] at *
  unfold F_f1hz at *
  split at hk
  ·exact ml _ H K (mm _ _ _ _ _ _ _ _ H K hk)
  ·exact hk.elim
def p_f1yz (n : Int) (low : Int) (high : Int) : Bool := (bif decide ((low : Int) ≤ n) then decide ((n : Int) ≤ high) else false)
def T_f1yz (n : Int) (low : Int) (high : Int) (H : AHeap) (K : Bool → AHeap → Prop) : Prop := K (p_f1yz n low high) H
theorem f1yz_t {n a b : Int} (h : p_f1yz n a b = true) : a ≤ n ∧ n ≤ b := by
 unfold p_f1yz at h
 by_cases h1 : a ≤ n
 ·rw [decide_eq_true h1, cond_true] at h; exact ⟨h1, of_decide_eq_true h⟩
 ·rw [decide_eq_false h1] at h; cases h
theorem T_f1yz_i {n : Int} {low : Int} {high : Int} {H : AHeap} {K : Bool → AHeap → Prop} (h : K (p_f1yz n low high) H) : T_f1yz n low high H K := h
/-! f1yz: function 96 -/
def E_f1yz : Env := envOf []
def F_f1yz : List Value → AHeap → (Value → AHeap → Prop) → Prop
 | [.int .i64 n, .int .i64 low, .int .i64 high], H, K => T_f1yz n low high H fun (r1 : Bool) (H' : AHeap) => K (.bool r1) H'
 | _, _, _ => False
def S_f1yz : FSpec := { F := F_f1yz, quiet := true, tame := false }
theorem f1yz_vc (n : Int) (low : Int) (high : Int) (H : AHeap) (K : Value → AHeap → Prop) : bodyL Try.prog E_f1yz Try.f96 [.int .i64 n, .int .i64 low, .int .i64 high] H K =
 (Br (decide ((low : Int) ≤ n)) (K (.bool (decide ((n : Int) ≤ high))) H) (K (.bool false) H)) := by kernel_rfl
theorem E_f1yz_ok : ∀ g, FnOk Try.prog g (E_f1yz g) := FnOk.envOf (by
 intro x hx; cases hx)
theorem f1yz_main (n : Int) (low : Int) (high : Int) (H : AHeap) (K : Value → AHeap → Prop) (h : T_f1yz n low high H fun (r1 : Bool) (H' : AHeap) => K (.bool r1) H') : bodyL Try.prog E_f1yz Try.f96 [.int .i64 n, .int .i64 low, .int .i64 high] H K := by
 rw [f1yz_vc]
 unfold T_f1yz p_f1yz at h
 repeat' (first | exact h | (exfalso; simp_all; done) | (refine ⟨by decide, ?_⟩) | (refine Br.intro (fun hb => ?_) (fun hb => ?_) <;> (try simp only [hb, cond_true, cond_false, Bool.not_true, Bool.not_false] at h)))
theorem f1yz_ok : FnOk Try.prog 96 S_f1yz := by
 refine FnOk.body mix_ok E_f1yz_ok Try.func96 rfl ω15 ω15 ?_ ?_ ?_ ?_ ?_
 ·intro args H K K' h hk
  simp only [S_f1yz] at *
  unfold F_f1yz at *
  split at hk
  ·have k := hk
   exact h _ _ k
  ·exact hk.elim
 ·intro _ args H K hk
  simp only [S_f1yz] at *
  unfold F_f1yz at *
  split at hk
  ·have k := hk
   exact ⟨_, k, fun K' k' => k'⟩
  ·exact hk.elim
 ·intro args H K hk
  simp only [S_f1yz] at *
  unfold F_f1yz at *
  split at hk
  ·have k := hk
   exact ⟨_, _, k⟩
  ·exact hk.elim
 ·intro hq; cases hq
 ·have mm := @f1yz_main
  have ml := fun (args : List Value) (H : AHeap) (K : Value → AHeap → Prop) => bodyL_body (P := Try.prog) (env := E_f1yz ) (fn := Try.f96) (args := args) (H := H) (K := K) E_f1yz_ok 
  revert mm ml
  generalize bodyK Try.prog E_f1yz Try.f96 = Q
  generalize bodyL Try.prog E_f1yz Try.f96 = QL
  intro mm ml args H K hk
  simp only [S_f1yz] at *
  unfold F_f1yz at *
  split at hk
  ·exact ml _ H K (mm _ _ _ H K hk)
  ·exact hk.elim
def p_f16z (x : Nat) : Bool := feq .f32 (fsub .f32 x x) 0
def T_f16z (x : Nat) (H : AHeap) (K : Bool → AHeap → Prop) : Prop := K (p_f16z x) H

theorem T_f16z_i {x : Nat} {H : AHeap} {K : Bool → AHeap → Prop} (h : K (p_f16z x) H) : T_f16z x H K := h
/-! f16z: function 133 -/
def E_f16z : Env := envOf []
def F_f16z : List Value → AHeap → (Value → AHeap → Prop) → Prop
 | [.float .f32 x], H, K => T_f16z x H fun (r1 : Bool) (H' : AHeap) => K (.bool r1) H'
 | _, _, _ => False
def S_f16z : FSpec := { F := F_f16z, quiet := true, tame := false }
theorem f16z_vc (x : Nat) (H : AHeap) (K : Value → AHeap → Prop) : bodyL Try.prog E_f16z Try.f133 [.float .f32 x] H K =
 (K (.bool (feq .f32 (fsub .f32 x x) 0)) H) := by kernel_rfl
theorem E_f16z_ok : ∀ g, FnOk Try.prog g (E_f16z g) := FnOk.envOf (by
 intro x hx; cases hx)
theorem f16z_main (x : Nat) (H : AHeap) (K : Value → AHeap → Prop) (h : T_f16z x H fun (r1 : Bool) (H' : AHeap) => K (.bool r1) H') : bodyL Try.prog E_f16z Try.f133 [.float .f32 x] H K := by
 rw [f16z_vc]
 unfold T_f16z p_f16z at h
 repeat' (first | exact h | (exfalso; simp_all; done) | (refine ⟨by decide, ?_⟩) | (refine Br.intro (fun hb => ?_) (fun hb => ?_) <;> (try simp only [hb, cond_true, cond_false, Bool.not_true, Bool.not_false] at h)))
theorem f16z_ok : FnOk Try.prog 133 S_f16z := by
 refine FnOk.body mix_ok E_f16z_ok Try.func133 rfl ω15 ω15 ?_ ?_ ?_ ?_ ?_
 ·intro args H K K' h hk
  simp only [S_f16z] at *
  unfold F_f16z at *
  split at hk
  ·have k := hk
   exact h _ _ k
  ·exact hk.elim
 ·intro _ args H K hk
  simp only [S_f16z] at *
  unfold F_f16z at *
  split at hk
  ·have k := hk
   exact ⟨_, k, fun K' k' => k'⟩
  ·exact hk.elim
 ·intro args H K hk
  simp only [S_f16z] at *
  unfold F_f16z at *
  split at hk
  ·have k := hk
   exact ⟨_, _, k⟩
  ·exact hk.elim
 ·intro hq; cases hq
 ·have mm := @f16z_main
  have ml := fun (args : List Value) (H : AHeap) (K : Value → AHeap → Prop) => bodyL_body (P := Try.prog) (env := E_f16z ) (fn := Try.f133) (args := args) (H := H) (K := K) E_f16z_ok 
  revert mm ml
  generalize bodyK Try.prog E_f16z Try.f133 = Q
  generalize bodyL Try.prog E_f16z Try.f133 = QL
  intro mm ml args H K hk
  simp only [S_f16z] at *
  unfold F_f16z at *
  split at hk
  ·exact ml _ H K (mm _ H K hk)
  ·exact hk.elim

def p_fvz_l2 (nc : List LN) (t2 : Bool) (t9 : Int) (k2_2 : Bool → Int → Bool) : Nat → Bool → Int → Bool
 | 0, _, _ => false
 | μ2 + 1, t2_2, t15 => (bif decide ((t15 : Int) < ((((nc).getD (t9 : Int).toNat [])).length : Int)) then (bif !((p_f16z (((((nc).getD (t9 : Int).toNat [])).getD (t15 : Int).toNat 0)))) then false else (p_fvz_l2 nc t2 t9 k2_2 μ2 t2_2 (t15 + 1))) else (k2_2 t2_2 t15))
def p_fvz_l2_s := fun nc t2 t9 k2_2 μ2 t2_2 t15 => @p_fvz_l2.eq_2 nc t2 t9 k2_2 t2_2 t15 μ2
def p_fvz_l1 (nc : List LN) : Nat → Bool → Int → Bool
 | 0, _, _ => false
 | μ + 1, t2, t9 => (bif decide ((t9 : Int) < (nc.length : Int)) then (p_fvz_l2 nc t2 t9 (fun (t2_2 : Bool) (t15 : Int) => (p_fvz_l1 nc μ t2_2 (t9 + 1))) (Int.toNat (((((nc).getD (t9 : Int).toNat [])).length : Int) - (0 : Int)) + 1) t2 (0 : Int)) else true)
def p_fvz_l1_s := fun nc μ t2 t9 => @p_fvz_l1.eq_2 nc t2 t9 μ
def p_fvz (nc : List LN) : Bool := (p_fvz_l1 nc (Int.toNat ((nc.length : Int) - (0 : Int)) + 1) false (0 : Int))
def p_fvz_eq := @p_fvz.eq_1
def T_fvz (oc : OA) (jc : Nat) (rc : Nat) (H : AHeap) (K : Bool → AHeap → Prop) : Prop := ∃ (nc : List LN), IsLL fF H oc jc nc ∧ nc.length < 1073741824 ∧ (∀ y ∈ nc, y.length < 1073741824) ∧ K (p_fvz nc) H
theorem T_fvz_i {oc : OA} {jc : Nat} {rc : Nat} {H : AHeap} {K : Bool → AHeap → Prop} (h : ∃ (nc : List LN), IsLL fF H oc jc nc ∧ nc.length < 1073741824 ∧ (∀ y ∈ nc, y.length < 1073741824) ∧ K (p_fvz nc) H) : T_fvz oc jc rc H K := h

/-! fvz: function 166 -/
def E_fvz : Env := envOf [(133, S_f16z)]
def F_fvz : List Value → AHeap → (Value → AHeap → Prop) → Prop
 | [.slice oc jc rc], H, K => T_fvz oc jc rc H fun (r1 : Bool) (H' : AHeap) => K (.bool r1) H'
 | _, _, _ => False
def S_fvz : FSpec := { F := F_fvz, quiet := true, tame := false }
theorem fvz_vc (oc : OA) (jc : Nat) (rc : Nat) (H : AHeap) (K : Value → AHeap → Prop) : bodyL Try.prog E_fvz Try.f166 [.slice oc jc rc] H K =
 (loopK (exL Try.prog E_fvz (cl (cl (cr (cl (cr (bodyC Try.f166)))))) 896 4 [(0, 0)]) (ud7 (.slice oc jc rc :: .int .i64 (jc : Int) :: .int .i64 0 :: ud14 [])) H (blockQ 0 (seqQ (exL Try.prog E_fvz (cr (cr (bodyC Try.f166))) 4 4 []) (retK Try.prog Try.f166 K)))) := by kernel_rfl
abbrev fvz_P1 (oc : OA) (rc : Nat) (jc : Nat) (t9 : Int)  : List Value := (ud7 (.slice oc jc rc :: .int .i64 (jc : Int) :: .int .i64 t9 :: ud14 []))
theorem fvz_r1 (oc : OA) (rc : Nat) (jc : Nat) (t9 : Int)  (H : AHeap) (R : Post) : exL Try.prog E_fvz (cl (cl (cr (cl (cr (bodyC Try.f166)))))) 896 4 [(0, 0)] (fvz_P1 oc rc jc t9) H R =
 (Br (decide ((t9 : Int) < (jc : Int))) ((0 : Int) ≤ t9 ∧ t9 < (jc : Int) ∧ ∃ b1 f1, (oc : OA) = some ⟨b1, f1, none⟩ ∧ ∃ sc : OA, ∃ bb : Nat, ∃ tc : Nat,  rdC H b1 (f1 + (t9 : Int).toNat * 1) = some (.slice sc bb tc) ∧ loopK (exL Try.prog E_fvz (cl (cl (cr (cr (cl (cl (cr (cr (cl (cl (cr (cl (cr (bodyC Try.f166)))))))))))))) 58240 4 [(2, 896), (1, 896), (0, 0)]) (ud7 (.slice oc jc rc :: .int .i64 (jc : Int) :: .int .i64 t9 :: ud3 (.slice sc bb tc :: .int .i64 (bb : Int) :: .int .i64 0 :: ud8 []))) H (blockQ 2 (blockQ 1 (seqQ (exL Try.prog E_fvz (cr (cr (cr (cl (cl (cr (cl (cr (bodyC Try.f166))))))))) 896 4 [(0, 0)]) (R))))) (R (.exit 0) (ud24 []) H)) := by kernel_rfl
def fvz_I1 (oc : OA) (rc : Nat) (jc : Nat) (Inv : Nat → Int → AHeap → Prop) : Nat → List Value → AHeap → Prop := fun μ tm H => ∃ (t9 : Int), tm = (fvz_P1 oc rc jc t9) ∧ Inv μ t9 H
theorem fvz_L1 (oc : OA) (rc : Nat) (jc : Nat) {Q : Post} (Inv : Nat → Int → AHeap → Prop) (ν : Nat) (t9 : Int)  (H : AHeap) (h0 : Inv ν t9 H)
  (hs : ∀ (μ : Nat) (t9 : Int)  (H : AHeap), Inv μ t9 H → exL Try.prog E_fvz (cl (cl (cr (cl (cr (bodyC Try.f166)))))) 896 4 [(0, 0)] (fvz_P1 oc rc jc t9) H (loopQ (fvz_I1 oc rc jc Inv) μ Q)) : loopK (exL Try.prog E_fvz (cl (cl (cr (cl (cr (bodyC Try.f166)))))) 896 4 [(0, 0)]) (fvz_P1 oc rc jc t9) H Q :=
 ⟨fvz_I1 oc rc jc Inv, ν, ⟨t9, rfl, h0⟩, fun μ tm H h => by obtain ⟨t9, rfl, hI⟩ := h; exact hs μ t9  H hI⟩
theorem fvz_n1 {oc : OA} {rc : Nat} {jc : Nat} {Q : Post} {Inv : Nat → Int → AHeap → Prop} {μ : Nat} (μ' : Nat) {t9 : Int}  {H : AHeap} (hm : μ' < μ) (hI : Inv μ' t9 H) : loopQ (fvz_I1 oc rc jc Inv) μ Q .normal (fvz_P1 oc rc jc t9) H := ⟨μ', hm, t9, rfl, hI⟩
theorem fvz_x1_0  (H : AHeap) (K : Value → AHeap → Prop)  {I : Nat → List Value → AHeap → Prop} {μ : Nat} : loopQ I μ (blockQ 0 (seqQ (exL Try.prog E_fvz (cr (cr (bodyC Try.f166))) 4 4 []) (retK Try.prog Try.f166 K))) (.exit 0) (ud24 []) H =
 (K (.bool true) H) := by kernel_rfl
theorem fvz_x1_ret (t2 : Bool) (H : AHeap) (K : Value → AHeap → Prop)  {I : Nat → List Value → AHeap → Prop} {μ : Nat} : loopQ I μ (blockQ 0 (seqQ (exL Try.prog E_fvz (cr (cr (bodyC Try.f166))) 4 4 []) (retK Try.prog Try.f166 K))) .ret (ud2 (.bool t2 :: ud21 [])) H =
 (K (.bool t2) H) := by kernel_rfl
abbrev fvz_P2 (oc : OA) (rc : Nat) (jc : Nat) (t9 : Int) (sc : OA) (tc : Nat) (bb : Nat) (t15 : Int)  : List Value := (ud7 (.slice oc jc rc :: .int .i64 (jc : Int) :: .int .i64 t9 :: ud3 (.slice sc bb tc :: .int .i64 (bb : Int) :: .int .i64 t15 :: ud8 [])))
theorem fvz_r2 (oc : OA) (rc : Nat) (jc : Nat) (t9 : Int) (sc : OA) (tc : Nat) (bb : Nat) (t15 : Int)  (H : AHeap) (R : Post) : exL Try.prog E_fvz (cl (cl (cr (cr (cl (cl (cr (cr (cl (cl (cr (cl (cr (bodyC Try.f166)))))))))))))) 58240 4 [(2, 896), (1, 896), (0, 0)] (fvz_P2 oc rc jc t9 sc tc bb t15) H R =
 (Br (decide ((t15 : Int) < (bb : Int))) ((0 : Int) ≤ t15 ∧ t15 < (bb : Int) ∧ ∃ b2 f2, (sc : OA) = some ⟨b2, f2, none⟩ ∧ ∃ x2 : Nat,  rdC H b2 (f2 + (t15 : Int).toNat * 1) = some (.float .f32 x2) ∧ T_f16z x2 H fun (r1 : Bool) (H1 : AHeap) => Br (!r1) (R .ret (ud2 (.bool false :: ud21 [])) H1) (R .normal (ud7 (.slice oc jc rc :: .int .i64 (jc : Int) :: .int .i64 t9 :: ud3 (.slice sc bb tc :: .int .i64 (bb : Int) :: .int .i64 (IntKind.wrap .i64 (t15 + 1)) :: ud8 []))) H1)) (R (.exit 2) (ud7 (.slice oc jc rc :: .int .i64 (jc : Int) :: .int .i64 t9 :: ud14 [])) H)) := by kernel_rfl
def fvz_I2 (oc : OA) (rc : Nat) (jc : Nat) (t9 : Int) (sc : OA) (tc : Nat) (bb : Nat) (Inv : Nat → Int → AHeap → Prop) : Nat → List Value → AHeap → Prop := fun μ tm H => ∃ (t15 : Int), tm = (fvz_P2 oc rc jc t9 sc tc bb t15) ∧ Inv μ t15 H
theorem fvz_L2 (oc : OA) (rc : Nat) (jc : Nat) (t9 : Int) (sc : OA) (tc : Nat) (bb : Nat) {Q : Post} (Inv : Nat → Int → AHeap → Prop) (ν : Nat) (t15 : Int)  (H : AHeap) (h0 : Inv ν t15 H)
  (hs : ∀ (μ : Nat) (t15 : Int)  (H : AHeap), Inv μ t15 H → exL Try.prog E_fvz (cl (cl (cr (cr (cl (cl (cr (cr (cl (cl (cr (cl (cr (bodyC Try.f166)))))))))))))) 58240 4 [(2, 896), (1, 896), (0, 0)] (fvz_P2 oc rc jc t9 sc tc bb t15) H (loopQ (fvz_I2 oc rc jc t9 sc tc bb Inv) μ Q)) : loopK (exL Try.prog E_fvz (cl (cl (cr (cr (cl (cl (cr (cr (cl (cl (cr (cl (cr (bodyC Try.f166)))))))))))))) 58240 4 [(2, 896), (1, 896), (0, 0)]) (fvz_P2 oc rc jc t9 sc tc bb t15) H Q :=
 ⟨fvz_I2 oc rc jc t9 sc tc bb Inv, ν, ⟨t15, rfl, h0⟩, fun μ tm H h => by obtain ⟨t15, rfl, hI⟩ := h; exact hs μ t15  H hI⟩
theorem fvz_n2 {oc : OA} {rc : Nat} {jc : Nat} {t9 : Int} {sc : OA} {tc : Nat} {bb : Nat} {Q : Post} {Inv : Nat → Int → AHeap → Prop} {μ : Nat} (μ' : Nat) {t15 : Int}  {H : AHeap} (hm : μ' < μ) (hI : Inv μ' t15 H) : loopQ (fvz_I2 oc rc jc t9 sc tc bb Inv) μ Q .normal (fvz_P2 oc rc jc t9 sc tc bb t15) H := ⟨μ', hm, t15, rfl, hI⟩
theorem fvz_x2_2 (oc : OA) (rc : Nat) (jc : Nat) (t9 : Int) (H : AHeap)  (R : Post) {I : Nat → List Value → AHeap → Prop} {μ : Nat} : loopQ I μ (blockQ 2 (blockQ 1 (seqQ (exL Try.prog E_fvz (cr (cr (cr (cl (cl (cr (cl (cr (bodyC Try.f166))))))))) 896 4 [(0, 0)]) (R)))) (.exit 2) (ud7 (.slice oc jc rc :: .int .i64 (jc : Int) :: .int .i64 t9 :: ud14 [])) H =
 (R .normal (ud7 (.slice oc jc rc :: .int .i64 (jc : Int) :: .int .i64 (IntKind.wrap .i64 (t9 + 1)) :: ud14 [])) H) := by kernel_rfl
theorem fvz_x2_ret (t2_2 : Bool) (H : AHeap)  (R : Post) {I : Nat → List Value → AHeap → Prop} {μ : Nat} : loopQ I μ (blockQ 2 (blockQ 1 (seqQ (exL Try.prog E_fvz (cr (cr (cr (cl (cl (cr (cl (cr (bodyC Try.f166))))))))) 896 4 [(0, 0)]) (R)))) .ret (ud2 (.bool t2_2 :: ud21 [])) H =
 (R .ret (ud2 (.bool t2_2 :: ud21 [])) H) := by kernel_rfl
theorem E_fvz_ok : ∀ g, FnOk Try.prog g (E_fvz g) := FnOk.envOf (by
 intro x hx
 simp only [List.mem_cons, List.not_mem_nil, or_false] at hx
 subst hx; exact f16z_ok)
theorem fvz_main (oc : OA) (jc : Nat) (rc : Nat) (H : AHeap) (K : Value → AHeap → Prop) (h : T_fvz oc jc rc H fun (r1 : Bool) (H' : AHeap) => K (.bool r1) H') : bodyL Try.prog E_fvz Try.f166 [.slice oc jc rc] H K := by
 rw [fvz_vc]
 obtain ⟨nc, i_lists, bd_22, bb_l_lists, hk⟩ := h
 obtain rfl := i_lists.eqn
 have e : (p_fvz nc) = _ := rfl
 have e := e.trans (p_fvz_eq nc)
 have g0 := Grow.refl H
 refine fvz_L1 _ _ _ (fun (μ : Nat) (t9 : Int) (H_1 : AHeap) => ∃ (t2 : Bool), H = H_1 ∧ (0 : Int) ≤ t9 ∧ t9 ≤ (nc.length : Int) ∧ (nc.length : Int) - t9 ≤ (μ : Int) ∧ p_fvz nc = p_fvz_l1 nc (μ + 1) t2 t9) (Int.toNat ((nc.length : Int) - (0 : Int))) _ H ?_ ?_
 ·exact ⟨_, rfl, ω7, ω7, ω2, e⟩
 ·intro μ t9  H_1 hI
  obtain ⟨t2, rfl, v_1, v_2, hμ, e⟩ := hI
  rw [fvz_r1]
  have e := e.trans (p_fvz_l1_s nc μ t2 t9)
  have l3 := g0.1
  refine Br.intro (fun c_4 => ?_) (fun c_4 => ?_)
  ·have e := e.trans (cond_t c_4)
   have c_4' := of_decide_eq_true c_4
   obtain ⟨b_5, f_6, q7⟩ := ((i_lists.grow g0)).pos ω0
   refine ⟨by omega, by omega, b_5, f_6, q7, ?_⟩
   obtain ⟨a_8, n9, e10, r_11, i12⟩ := (i_lists).rd (i := (t9 : Int).toNat) g0 q7 ω2
   obtain rfl := i12.eqn
   refine ⟨a_8, _, e10, r_11, ?_⟩
   have z13 := getD_len bb_l_lists (t9 : Int).toNat
   refine fvz_L2 _ _ _ _ _ _ _ (fun (μ2 : Nat) (t15 : Int) (H_2 : AHeap) => ∃ (t2_2 : Bool), H = H_2 ∧ (0 : Int) ≤ t15 ∧ t15 ≤ ((((nc).getD (t9 : Int).toNat [])).length : Int) ∧ ((((nc).getD (t9 : Int).toNat [])).length : Int) - t15 ≤ (μ2 : Int) ∧ p_fvz nc = p_fvz_l2 nc t2 t9 (fun (t2_2 : Bool) (t15 : Int) => (p_fvz_l1 nc μ t2_2 (t9 + 1))) (μ2 + 1) t2_2 t15) (Int.toNat (((((nc).getD (t9 : Int).toNat [])).length : Int) - (0 : Int))) _ H ?_ ?_
   ·exact ⟨_, rfl, ω7, ω7, ω2, e⟩
   ·intro μ2 t15  H_2 hI
    obtain ⟨t2_2, rfl, v14, v15, hμ, e⟩ := hI
    rw [fvz_r2]
    have e := e.trans (p_fvz_l2_s nc t2 t9 (fun (t2_2 : Bool) (t15 : Int) => (p_fvz_l1 nc μ t2_2 (t9 + 1))) μ2 t2_2 t15)
    have l16 := g0.1
    refine Br.intro (fun c17 => ?_) (fun c17 => ?_)
    ·have e := e.trans (cond_t c17)
     have c_17' := of_decide_eq_true c17
     obtain ⟨b_18, f19, q20⟩ := ((i12.grow g0)).pos ω0
     refine ⟨by omega, by omega, b_18, f19, q20, ?_⟩
     refine ⟨((((nc).getD (t9 : Int).toNat [])).getD (t15 : Int).toNat 0), (i12).rd g0 q20 ω2 _, ?_⟩
     refine T_f16z_i ?_
     refine Br.intro (fun c21 => ?_) (fun c21 => ?_)
     ·have e := e.trans (cond_t c21)
      have c_21n := nf_of_t c21
      rw [fvz_x2_ret]
      rw [fvz_x1_ret]
      rw [e] at hk
      exact hk
     ·have e := e.trans (cond_f c21)
      have c_21n := nt_of_f c21
      rw [show IntKind.wrap .i64 (t15 + 1) = (t15 + 1) from wrap64 ω2 ω2]
      refine fvz_n2 (μ2 - 1) ω17 ⟨_, rfl, ω1, ω1, ω17, ω22⟩
    ·have e := e.trans (cond_f c17)
     have c_17' := of_decide_eq_false c17
     rw [fvz_x2_2]
     rw [show IntKind.wrap .i64 (t9 + 1) = (t9 + 1) from wrap64 ω2 ω2]
     refine fvz_n1 (μ - 1) ω17 ⟨_, rfl, ω1, ω1, ω17, ω12⟩
  ·have e := e.trans (cond_f c_4)
   have c_4' := of_decide_eq_false c_4
   rw [fvz_x1_0]
   rw [e] at hk
   exact hk
theorem fvz_ok : FnOk Try.prog 166 S_fvz := by
 refine FnOk.body mix_ok E_fvz_ok Try.func166 rfl ω15 ω15 ?_ ?_ ?_ ?_ ?_
 ·intro args H K K' h hk
  simp only [S_fvz] at *
  unfold F_fvz at *
  split at hk
  ·obtain ⟨nc, i_lists, bd_22, bb_l_lists, k⟩ := hk
   exact ⟨nc, i_lists, bd_22, bb_l_lists, h _ _ k⟩
  ·exact hk.elim
 ·intro _ args H K hk
  simp only [S_fvz] at *
  unfold F_fvz at *
  split at hk
  ·obtain ⟨nc, i_lists, bd_22, bb_l_lists, k⟩ := hk
   exact ⟨_, k, fun K' k' => ⟨nc, i_lists, bd_22, bb_l_lists, k'⟩⟩
  ·exact hk.elim
 ·intro args H K hk
  simp only [S_fvz] at *
  unfold F_fvz at *
  split at hk
  ·obtain ⟨nc, i_lists, bd_22, bb_l_lists, k⟩ := hk
   exact ⟨_, _, k⟩
  ·exact hk.elim
 ·intro hq; cases hq
 ·have mm := @fvz_main
  have ml := fun (args : List Value) (H : AHeap) (K : Value → AHeap → Prop) => bodyL_body (P := Try.prog) (env := E_fvz ) (fn := Try.f166) (args := args) (H := H) (K := K) E_fvz_ok 
  revert mm ml
  generalize bodyK Try.prog E_fvz Try.f166 = Q
  generalize bodyL Try.prog E_fvz Try.f166 = QL
  intro mm ml args H K hk
  simp only [S_fvz] at *
  unfold F_fvz at *
  split at hk
  ·exact ml _ H K (mm _ _ _ H K hk)
  ·exact hk.elim

def p_f1uz (aa : LN) : Bool := (bif (p_f1yz (aa.length : Int) (1 : Int) (128 : Int)) then (p_fvz ([aa])) else false)
def p_f1uz_eq := @p_f1uz.eq_1
def T_f1uz (ea : OA) (da : Nat) (ga : Nat) (H : AHeap) (K : Bool → AHeap → Prop) : Prop := ∃ (aa : LN), IsL fF H ea da aa ∧ aa.length < 1073741824 ∧ ((∀ H' : AHeap, Grow H H' → K (p_f1uz aa) H'))
theorem T_f1uz_i {ea : OA} {da : Nat} {ga : Nat} {H : AHeap} {K : Bool → AHeap → Prop} (h : ∃ (aa : LN), IsL fF H ea da aa ∧ aa.length < 1073741824 ∧ ((∀ H' : AHeap, Grow H H' → K (p_f1uz aa) H'))) : T_f1uz ea da ga H K := h
theorem f1uz_t {l : LN} (h : p_f1uz l = true) : 1 ≤ (l.length : Int) ∧ (l.length : Int) ≤ 128 := by
 rw [p_f1uz_eq] at h
 cases h1 : p_f1yz (l.length : Int) 1 128
 ·rw [h1] at h; cases h
 ·exact f1yz_t h1
/-! f1uz: function 105 -/
def E_f1uz : Env := envOf [(96, S_f1yz), (166, S_fvz)]
def F_f1uz : List Value → AHeap → (Value → AHeap → Prop) → Prop
 | [.slice ea da ga], H, K => T_f1uz ea da ga H fun (r1 : Bool) (H' : AHeap) => K (.bool r1) H'
 | _, _, _ => False
def S_f1uz : FSpec := { F := F_f1uz, quiet := false, tame := true }
theorem f1uz_vc (ea : OA) (da : Nat) (ga : Nat) (H : AHeap) (K : Value → AHeap → Prop) : bodyL Try.prog E_f1uz Try.f105 [.slice ea da ga] H K =
 (T_f1yz (da : Int) 1 128 H fun (r1 : Bool) (H1 : AHeap) => Br r1 (Al [.slice ea da ga] H1 fun b1 H2 => T_fvz (some ⟨b1, 0, none⟩) 1 1 H2 fun (r2 : Bool) (H3 : AHeap) => K (.bool r2) H3) (K (.bool false) H1)) := by kernel_rfl
theorem E_f1uz_ok : ∀ g, FnOk Try.prog g (E_f1uz g) := FnOk.envOf (by
 intro x hx
 simp only [List.mem_cons, List.not_mem_nil, or_false] at hx
 rcases hx with rfl | rfl
 ·exact f1yz_ok
 ·exact fvz_ok)
theorem f1uz_main (ea : OA) (da : Nat) (ga : Nat) (H : AHeap) (K : Value → AHeap → Prop) (h : T_f1uz ea da ga H fun (r1 : Bool) (H' : AHeap) => K (.bool r1) H') : bodyL Try.prog E_f1uz Try.f105 [.slice ea da ga] H K := by
 rw [f1uz_vc]
 obtain ⟨aa, i_list, bd_12, hk⟩ := h
 obtain rfl := i_list.eqn
 have e : (p_f1uz aa) = _ := rfl
 have e := e.trans (p_f1uz_eq aa)
 have g0 := Grow.refl H
 refine T_f1yz_i ?_
 refine Br.intro (fun c_1 => ?_) (fun c_1 => ?_)
 ·have e := e.trans (cond_t c_1)
  have c_1' := f1yz_t c_1
  refine Al.intro (fun b_2 H_1 hb_3 hl_4 g_5 o6 => ?_)
  have l8 := g_5.1
  have g9 := g0.trans g_5
  have l10 := g9.1
  have w11 := o6.lt
  refine T_fvz_i ⟨[aa], ⟨_, o6.rdAll rfl, LLc.cons (i_list.grow g9) (LLc.nil _ _)⟩, ω0, ω6, ?_⟩
  rw [e] at hk
  exact hk  H_1 g9 
 ·have e := e.trans (cond_f c_1)
  rw [e] at hk
  exact hk  H g0 
theorem f1uz_ok : FnOk Try.prog 105 S_f1uz := by
 refine FnOk.body mix_ok E_f1uz_ok Try.func105 rfl ω15 ω15 ?_ ?_ ?_ ?_ ?_
 ·intro args H K K' h hk
  simp only [S_f1uz] at *
  unfold F_f1uz at *
  split at hk
  ·obtain ⟨aa, i_list, bd_12, k⟩ := hk
   exact ⟨aa, i_list, bd_12, (fun  H' gg  => h _ _ (k  H' gg ))⟩
  ·exact hk.elim
 ·intro hq; cases hq
 ·intro args H K hk
  simp only [S_f1uz] at *
  unfold F_f1uz at *
  split at hk
  ·obtain ⟨aa, i_list, bd_12, k⟩ := hk
   exact ⟨_, _, k H (Grow.refl H)⟩
  ·exact hk.elim
 ·intro _ args H K hk
  simp only [S_f1uz] at *
  unfold F_f1uz at *
  split at hk
  ·obtain ⟨aa, i_list, bd_12, k⟩ := hk
   exact ⟨aa, i_list, bd_12, (fun  H' gg  => ⟨gg, k  H' gg ⟩)⟩
  ·exact hk.elim
 ·have mm := @f1uz_main
  have ml := fun (args : List Value) (H : AHeap) (K : Value → AHeap → Prop) => bodyL_body (P := Try.prog) (env := E_f1uz ) (fn := Try.f105) (args := args) (H := H) (K := K) E_f1uz_ok 
  revert mm ml
  generalize bodyK Try.prog E_f1uz Try.f105 = Q
  generalize bodyL Try.prog E_f1uz Try.f105 = QL
  intro mm ml args H K hk
  simp only [S_f1uz] at *
  unfold F_f1uz at *
  split at hk
  ·exact ml _ H K (mm _ _ _ H K hk)
  ·exact hk.elim

def p_f1gz_l1 (aa : LN) : Nat → Nat → Int → Nat
 | 0, _, _ => 0
 | μ + 1, sum, t8 => (bif decide ((t8 : Int) < (aa.length : Int)) then (p_f1gz_l1 aa μ (fadd .f32 sum (fmul .f32 (((aa).getD (t8 : Int).toNat 0)) (((aa).getD (t8 : Int).toNat 0)))) (t8 + 1)) else sum)
def p_f1gz_l1_s := fun aa μ sum t8 => @p_f1gz_l1.eq_2 aa sum t8 μ
def p_f1gz (aa : LN) : Nat := (p_f1gz_l1 aa (Int.toNat ((aa.length : Int) - (0 : Int)) + 1) 0 (0 : Int))
def p_f1gz_eq := @p_f1gz.eq_1
def T_f1gz (ea : OA) (da : Nat) (ga : Nat) (H : AHeap) (K : Nat → AHeap → Prop) : Prop := ∃ (aa : LN), IsL fF H ea da aa ∧ aa.length < 1073741824 ∧ K (p_f1gz aa) H
theorem T_f1gz_i {ea : OA} {da : Nat} {ga : Nat} {H : AHeap} {K : Nat → AHeap → Prop} (h : ∃ (aa : LN), IsL fF H ea da aa ∧ aa.length < 1073741824 ∧ K (p_f1gz aa) H) : T_f1gz ea da ga H K := h

/-! f1gz: function 108 -/
def E_f1gz : Env := envOf []
def F_f1gz : List Value → AHeap → (Value → AHeap → Prop) → Prop
 | [.slice ea da ga], H, K => T_f1gz ea da ga H fun (r1 : Nat) (H' : AHeap) => K (.float .f32 r1) H'
 | _, _, _ => False
def S_f1gz : FSpec := { F := F_f1gz, quiet := true, tame := false }
theorem f1gz_vc (ea : OA) (da : Nat) (ga : Nat) (H : AHeap) (K : Value → AHeap → Prop) : bodyL Try.prog E_f1gz Try.f108 [.slice ea da ga] H K =
 (loopK (exL Try.prog E_f1gz (cl (cl (cr (cl (cr (cr (bodyC Try.f108))))))) 456 4 [(0, 8)]) (ud3 (.float .f32 0 :: ud2 (.slice ea da ga :: .int .i64 (da : Int) :: .int .i64 0 :: ud10 []))) H (blockQ 0 (seqQ (exL Try.prog E_f1gz (cr (cr (cr (bodyC Try.f108)))) 4 4 []) (retK Try.prog Try.f108 K)))) := by kernel_rfl
abbrev f1gz_P1 (ea : OA) (ga : Nat) (da : Nat) (sum : Nat) (t8 : Int)  : List Value := (ud3 (.float .f32 sum :: ud2 (.slice ea da ga :: .int .i64 (da : Int) :: .int .i64 t8 :: ud10 [])))
theorem f1gz_r1 (ea : OA) (ga : Nat) (da : Nat) (sum : Nat) (t8 : Int)  (H : AHeap) (R : Post) : exL Try.prog E_f1gz (cl (cl (cr (cl (cr (cr (bodyC Try.f108))))))) 456 4 [(0, 8)] (f1gz_P1 ea ga da sum t8) H R =
 (Br (decide ((t8 : Int) < (da : Int))) ((0 : Int) ≤ t8 ∧ t8 < (da : Int) ∧ ∃ b1 f1, (ea : OA) = some ⟨b1, f1, none⟩ ∧ ∃ x1 : Nat,  rdC H b1 (f1 + (t8 : Int).toNat * 1) = some (.float .f32 x1) ∧ R .normal (ud3 (.float .f32 (fadd .f32 sum (fmul .f32 x1 x1)) :: ud2 (.slice ea da ga :: .int .i64 (da : Int) :: .int .i64 (IntKind.wrap .i64 (t8 + 1)) :: ud10 []))) H) (R (.exit 0) (ud3 (.float .f32 sum :: ud15 [])) H)) := by kernel_rfl
def f1gz_I1 (ea : OA) (ga : Nat) (da : Nat) (Inv : Nat → Nat → Int → AHeap → Prop) : Nat → List Value → AHeap → Prop := fun μ tm H => ∃ (sum : Nat), ∃ (t8 : Int), tm = (f1gz_P1 ea ga da sum t8) ∧ Inv μ sum t8 H
theorem f1gz_L1 (ea : OA) (ga : Nat) (da : Nat) {Q : Post} (Inv : Nat → Nat → Int → AHeap → Prop) (ν : Nat) (sum : Nat) (t8 : Int)  (H : AHeap) (h0 : Inv ν sum t8 H)
  (hs : ∀ (μ : Nat) (sum : Nat) (t8 : Int)  (H : AHeap), Inv μ sum t8 H → exL Try.prog E_f1gz (cl (cl (cr (cl (cr (cr (bodyC Try.f108))))))) 456 4 [(0, 8)] (f1gz_P1 ea ga da sum t8) H (loopQ (f1gz_I1 ea ga da Inv) μ Q)) : loopK (exL Try.prog E_f1gz (cl (cl (cr (cl (cr (cr (bodyC Try.f108))))))) 456 4 [(0, 8)]) (f1gz_P1 ea ga da sum t8) H Q :=
 ⟨f1gz_I1 ea ga da Inv, ν, ⟨sum, t8, rfl, h0⟩, fun μ tm H h => by obtain ⟨sum, t8, rfl, hI⟩ := h; exact hs μ sum t8  H hI⟩
theorem f1gz_n1 {ea : OA} {ga : Nat} {da : Nat} {Q : Post} {Inv : Nat → Nat → Int → AHeap → Prop} {μ : Nat} (μ' : Nat) {sum : Nat} {t8 : Int}  {H : AHeap} (hm : μ' < μ) (hI : Inv μ' sum t8 H) : loopQ (f1gz_I1 ea ga da Inv) μ Q .normal (f1gz_P1 ea ga da sum t8) H := ⟨μ', hm, sum, t8, rfl, hI⟩
theorem f1gz_x1_0 (sum : Nat) (H : AHeap) (K : Value → AHeap → Prop)  {I : Nat → List Value → AHeap → Prop} {μ : Nat} : loopQ I μ (blockQ 0 (seqQ (exL Try.prog E_f1gz (cr (cr (cr (bodyC Try.f108)))) 4 4 []) (retK Try.prog Try.f108 K))) (.exit 0) (ud3 (.float .f32 sum :: ud15 [])) H =
 (K (.float .f32 sum) H) := by kernel_rfl
theorem E_f1gz_ok : ∀ g, FnOk Try.prog g (E_f1gz g) := FnOk.envOf (by
 intro x hx; cases hx)
theorem f1gz_main (ea : OA) (da : Nat) (ga : Nat) (H : AHeap) (K : Value → AHeap → Prop) (h : T_f1gz ea da ga H fun (r1 : Nat) (H' : AHeap) => K (.float .f32 r1) H') : bodyL Try.prog E_f1gz Try.f108 [.slice ea da ga] H K := by
 rw [f1gz_vc]
 obtain ⟨aa, i_list, bd_8, hk⟩ := h
 obtain rfl := i_list.eqn
 have e : (p_f1gz aa) = _ := rfl
 have e := e.trans (p_f1gz_eq aa)
 have g0 := Grow.refl H
 refine f1gz_L1 _ _ _ (fun (μ : Nat) (sum : Nat) (t8 : Int) (H_1 : AHeap) => H = H_1 ∧ (0 : Int) ≤ t8 ∧ t8 ≤ (aa.length : Int) ∧ (aa.length : Int) - t8 ≤ (μ : Int) ∧ p_f1gz aa = p_f1gz_l1 aa (μ + 1) sum t8) (Int.toNat ((aa.length : Int) - (0 : Int))) _ _ H ?_ ?_
 ·exact ⟨rfl, ω7, ω7, ω2, e⟩
 ·intro μ sum t8  H_1 hI
  obtain ⟨rfl, v_1, v_2, hμ, e⟩ := hI
  rw [f1gz_r1]
  have e := e.trans (p_f1gz_l1_s aa μ sum t8)
  have l3 := g0.1
  refine Br.intro (fun c_4 => ?_) (fun c_4 => ?_)
  ·have e := e.trans (cond_t c_4)
   have c_4' := of_decide_eq_true c_4
   obtain ⟨b_5, f_6, q7⟩ := ((i_list.grow g0)).pos ω0
   refine ⟨by omega, by omega, b_5, f_6, q7, ?_⟩
   refine ⟨((aa).getD (t8 : Int).toNat 0), (i_list).rd g0 q7 ω2 _, ?_⟩
   rw [show IntKind.wrap .i64 (t8 + 1) = (t8 + 1) from wrap64 ω2 ω2]
   refine f1gz_n1 (μ - 1) ω17 ⟨rfl, ω1, ω1, ω17, ω12⟩
  ·have e := e.trans (cond_f c_4)
   have c_4' := of_decide_eq_false c_4
   rw [f1gz_x1_0]
   rw [e] at hk
   exact hk
theorem f1gz_ok : FnOk Try.prog 108 S_f1gz := by
 refine FnOk.body mix_ok E_f1gz_ok Try.func108 rfl ω15 ω15 ?_ ?_ ?_ ?_ ?_
 ·intro args H K K' h hk
  simp only [S_f1gz] at *
  unfold F_f1gz at *
  split at hk
  ·obtain ⟨aa, i_list, bd_8, k⟩ := hk
   exact ⟨aa, i_list, bd_8, h _ _ k⟩
  ·exact hk.elim
 ·intro _ args H K hk
  simp only [S_f1gz] at *
  unfold F_f1gz at *
  split at hk
  ·obtain ⟨aa, i_list, bd_8, k⟩ := hk
   exact ⟨_, k, fun K' k' => ⟨aa, i_list, bd_8, k'⟩⟩
  ·exact hk.elim
 ·intro args H K hk
  simp only [S_f1gz] at *
  unfold F_f1gz at *
  split at hk
  ·obtain ⟨aa, i_list, bd_8, k⟩ := hk
   exact ⟨_, _, k⟩
  ·exact hk.elim
 ·intro hq; cases hq
 ·have mm := @f1gz_main
  have ml := fun (args : List Value) (H : AHeap) (K : Value → AHeap → Prop) => bodyL_body (P := Try.prog) (env := E_f1gz ) (fn := Try.f108) (args := args) (H := H) (K := K) E_f1gz_ok 
  revert mm ml
  generalize bodyK Try.prog E_f1gz Try.f108 = Q
  generalize bodyL Try.prog E_f1gz Try.f108 = QL
  intro mm ml args H K hk
  simp only [S_f1gz] at *
  unfold F_f1gz at *
  split at hk
  ·exact ml _ H K (mm _ _ _ H K hk)
  ·exact hk.elim
def p_f26z (x : Nat) : Nat := (bif flt .f32 x 0 then fneg .f32 x else (bif feq .f32 x 0 then 0 else x))
def T_f26z (x : Nat) (H : AHeap) (K : Nat → AHeap → Prop) : Prop := K (p_f26z x) H

theorem T_f26z_i {x : Nat} {H : AHeap} {K : Nat → AHeap → Prop} (h : K (p_f26z x) H) : T_f26z x H K := h
/-! f26z: function 150 -/
def E_f26z : Env := envOf []
def F_f26z : List Value → AHeap → (Value → AHeap → Prop) → Prop
 | [.float .f32 x], H, K => T_f26z x H fun (r1 : Nat) (H' : AHeap) => K (.float .f32 r1) H'
 | _, _, _ => False
def S_f26z : FSpec := { F := F_f26z, quiet := true, tame := false }
theorem f26z_vc (x : Nat) (H : AHeap) (K : Value → AHeap → Prop) : bodyL Try.prog E_f26z Try.f150 [.float .f32 x] H K =
 (Br (flt .f32 x 0) (K (.float .f32 (fneg .f32 x)) H) (Br (feq .f32 x 0) (K (.float .f32 0) H) (K (.float .f32 x) H))) := by kernel_rfl
theorem E_f26z_ok : ∀ g, FnOk Try.prog g (E_f26z g) := FnOk.envOf (by
 intro x hx; cases hx)
theorem f26z_main (x : Nat) (H : AHeap) (K : Value → AHeap → Prop) (h : T_f26z x H fun (r1 : Nat) (H' : AHeap) => K (.float .f32 r1) H') : bodyL Try.prog E_f26z Try.f150 [.float .f32 x] H K := by
 rw [f26z_vc]
 unfold T_f26z p_f26z at h
 repeat' (first | exact h | (exfalso; simp_all; done) | (refine ⟨by decide, ?_⟩) | (refine Br.intro (fun hb => ?_) (fun hb => ?_) <;> (try simp only [hb, cond_true, cond_false, Bool.not_true, Bool.not_false] at h)))
theorem f26z_ok : FnOk Try.prog 150 S_f26z := by
 refine FnOk.body mix_ok E_f26z_ok Try.func150 rfl ω15 ω15 ?_ ?_ ?_ ?_ ?_
 ·intro args H K K' h hk
  simp only [S_f26z] at *
  unfold F_f26z at *
  split at hk
  ·have k := hk
   exact h _ _ k
  ·exact hk.elim
 ·intro _ args H K hk
  simp only [S_f26z] at *
  unfold F_f26z at *
  split at hk
  ·have k := hk
   exact ⟨_, k, fun K' k' => k'⟩
  ·exact hk.elim
 ·intro args H K hk
  simp only [S_f26z] at *
  unfold F_f26z at *
  split at hk
  ·have k := hk
   exact ⟨_, _, k⟩
  ·exact hk.elim
 ·intro hq; cases hq
 ·have mm := @f26z_main
  have ml := fun (args : List Value) (H : AHeap) (K : Value → AHeap → Prop) => bodyL_body (P := Try.prog) (env := E_f26z ) (fn := Try.f150) (args := args) (H := H) (K := K) E_f26z_ok 
  revert mm ml
  generalize bodyK Try.prog E_f26z Try.f150 = Q
  generalize bodyL Try.prog E_f26z Try.f150 = QL
  intro mm ml args H K hk
  simp only [S_f26z] at *
  unfold F_f26z at *
  split at hk
  ·exact ml _ H K (mm _ H K hk)
  ·exact hk.elim
end Go.Proofs.Ytbnplefohfamnaa.Ai
