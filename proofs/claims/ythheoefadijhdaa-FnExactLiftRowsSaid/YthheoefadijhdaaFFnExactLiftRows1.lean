/- What functions of the program come to on the abstract machine, and that they do so; printed by a program of mine around proofs of mine. -/
import Derived.Test.YthheoefadijhdaaFFnExactLiftRows0
set_option linter.unusedVariables false
set_option linter.unusedSimpArgs false
set_option linter.defProp false
set_option maxRecDepth 100000
set_option maxHeartbeats 1000000
namespace Go.Proofs.Ythheoefadijhdaa.Ai
open Go
attribute [local irreducible] bodyK bodyL

def p_f4z_l1 (da : LN) : Nat → LN → LN → Int → LN × LN
 | 0, _, _, _ => ([], [])
 | μ + 1, jb, wb, t12 => (bif decide ((t12 : Int) < (da.length : Int)) then (bif (Int.tmod t12 2 : Int) == 0 then (p_f4z_l1 da μ ((jb ++ [(((da).getD (t12 : Int).toNat 0))])) wb (t12 + 1)) else (p_f4z_l1 da μ jb ((wb ++ [(((da).getD (t12 : Int).toNat 0))])) (t12 + 1))) else (jb, wb))
def p_f4z_l1_s := fun da μ jb wb t12 => @p_f4z_l1.eq_2 da jb wb t12 μ
def p_f4z (da : LN) : LN × LN := (p_f4z_l1 da (Int.toNat ((da.length : Int) - (0 : Int)) + 1) ([] : LN) ([] : LN) (0 : Int))
def p_f4z_eq := @p_f4z.eq_1
def T_f4z (ib : OA) (ua : Nat) (sb : Nat) (H : AHeap) (K : OA → Nat → Nat → OA → Nat → Nat → AHeap → Prop) : Prop := ∃ (da : LN), IsL fF H ib ua da ∧ da.length < 1073741824 ∧ ((∀ (qc : OA) (uc tc : Nat), ∀ (zd : OA) (ie fe : Nat), ∀ H' : AHeap, Grow H H' → OwnS fF H' H.length qc uc tc (evs da) → OwnS fF H' H.length zd ie fe (ods da) → SepA qc zd → K qc uc tc zd ie fe H'))
theorem T_f4z_i {ib : OA} {ua : Nat} {sb : Nat} {H : AHeap} {K : OA → Nat → Nat → OA → Nat → Nat → AHeap → Prop} (h : ∃ (da : LN), IsL fF H ib ua da ∧ da.length < 1073741824 ∧ ((∀ (qc : OA) (uc tc : Nat), ∀ (zd : OA) (ie fe : Nat), ∀ H' : AHeap, Grow H H' → OwnS fF H' H.length qc uc tc (evs da) → OwnS fF H' H.length zd ie fe (ods da) → SepA qc zd → K qc uc tc zd ie fe H'))) : T_f4z ib ua sb H K := h
theorem impl_split_go (l : LN) : ∀ (μ i : Nat), i ≤ l.length → l.length - i < μ → p_f4z_l1 l μ (evs (l.take i)) (ods (l.take i)) (i : Int) = (evs l, ods l) := by
 intro μ
 induction μ with
 | zero => intro i _ h; omega
 | succ μ ih =>
  intro i hi hm
  rw [p_f4z_l1_s]
  by_cases h : i < l.length
  ·rw [decide_eq_true (show (i : Int) < (l.length : Int) by omega), cond_true, Int.toNat_natCast]
   have := ih (i + 1) ω2 ω2
   have hl : (l.take i).length = i := by simp; omega
   rw [take_snoc l i h, evs_snoc, ods_snoc, hl] at this
   have ht : (Int.tmod (i : Int) 2 == 0) = decide (i % 2 = 0) := by
    have : Int.tmod (i : Int) 2 = ((i % 2 : Nat) : Int) := by rw [Int.tmod_eq_emod_of_nonneg ω2]; omega
    rw [this]
    by_cases hk : i % 2 = 0
    ·simp [hk]
    ·have : i % 2 = 1 := by omega
     simp [this]
   rw [ht]
   by_cases hk : i % 2 = 0
   ·rw [if_pos hk, if_pos hk] at this
    rw [decide_eq_true hk, cond_true]; exact this
   ·rw [if_neg hk, if_neg hk] at this
    rw [decide_eq_false hk, cond_false]; exact this
  ·have e : i = l.length := by omega
   rw [decide_eq_false (show ¬ (i : Int) < (l.length : Int) by omega), cond_false, e, List.take_of_length_le (Nat.le_refl _)]
theorem impl_split_val (l : LN) : p_f4z l = (evs l, ods l) := by
 rw [p_f4z_eq]
 have := impl_split_go l (Int.toNat ((l.length : Int) - 0) + 1) 0 ω2 ω2
 simpa [evs, ods] using this
/-! f4z: function 49 -/
def E_f4z : Env := envOf []
def F_f4z : List Value → AHeap → (Value → AHeap → Prop) → Prop
 | [.slice ib ua sb], H, K => T_f4z ib ua sb H fun (qc : OA) (uc : Nat) (tc : Nat) (zd : OA) (ie : Nat) (fe : Nat) (H' : AHeap) => K (.tuple #[.slice qc uc tc, .slice zd ie fe]) H'
 | _, _, _ => False
def S_f4z : FSpec := { F := F_f4z, quiet := false, tame := true }
theorem f4z_vc (ib : OA) (ua : Nat) (sb : Nat) (H : AHeap) (K : Value → AHeap → Prop) : bodyL Try.prog E_f4z Try.f49 [.slice ib ua sb] H K =
 (Al [] H fun b1 H1 => Al [] H1 fun b2 H2 => loopK (exL Try.prog E_f4z (cl (cl (cr (cl (cr (cr (bodyC Try.f49))))))) 7216 12 [(0, 48)]) (ud4 (.slice (some ⟨b1, 0, none⟩) 0 1 :: .slice (some ⟨b2, 0, none⟩) 0 1 :: ud4 (.slice ib ua sb :: .int .i64 (ua : Int) :: .int .i64 0 :: ud18 []))) H2 (blockQ 0 (seqQ (exL Try.prog E_f4z (cr (cr (cr (bodyC Try.f49)))) 12 12 []) (retK Try.prog Try.f49 K)))) := by kernel_rfl
abbrev f4z_P1 (ib : OA) (sb : Nat) (ua : Nat) (eb : OA) (gb : Nat) (tb : Nat) (yb : OA) (zb : Nat) (bc : Nat) (t12 : Int)  : List Value := (ud4 (.slice eb gb tb :: .slice yb zb bc :: ud4 (.slice ib ua sb :: .int .i64 (ua : Int) :: .int .i64 t12 :: ud18 [])))
theorem f4z_r1 (ib : OA) (sb : Nat) (ua : Nat) (eb : OA) (gb : Nat) (tb : Nat) (yb : OA) (zb : Nat) (bc : Nat) (t12 : Int)  (H : AHeap) (R : Post) : exL Try.prog E_f4z (cl (cl (cr (cl (cr (cr (bodyC Try.f49))))))) 7216 12 [(0, 48)] (f4z_P1 ib sb ua eb gb tb yb zb bc t12) H R =
 (Br (decide ((t12 : Int) < (ua : Int))) ((0 : Int) ≤ t12 ∧ t12 < (ua : Int) ∧ ∃ b3 f1, (ib : OA) = some ⟨b3, f1, none⟩ ∧ ∃ x1 : Nat,  rdC H b3 (f1 + (t12 : Int).toNat * 1) = some (.float .f32 x1) ∧ 2 ≠ (0 : Int) ∧ Br ((Int.tmod t12 2 : Int) == 0) (Al [.float .f32 x1] H fun b4 H3 => ∃ o1 w1 : List Value, ownB H3 eb gb tb 1 = some o1 ∧ rdS H3 (some ⟨b4, 0, none⟩) (1 * 1) = some w1 ∧ ((eb : OA) = none → 0 < (1 : Nat)) ∧ (gb : Nat) + 1 < most ∧ Ap H3 (killB H3 eb ++ [some ⟨o1 ++ w1, true⟩]) fun b5 H4 => R .normal (ud4 (.slice (some ⟨b5, 0, none⟩) (gb + 1) 1 :: .slice yb zb bc :: ud4 (.slice ib ua sb :: .int .i64 (ua : Int) :: .int .i64 (IntKind.wrap .i64 (t12 + 1)) :: ud18 []))) H4) (Al [.float .f32 x1] H fun b6 H5 => ∃ o2 w2 : List Value, ownB H5 yb zb bc 1 = some o2 ∧ rdS H5 (some ⟨b6, 0, none⟩) (1 * 1) = some w2 ∧ ((yb : OA) = none → 0 < (1 : Nat)) ∧ (zb : Nat) + 1 < most ∧ Ap H5 (killB H5 yb ++ [some ⟨o2 ++ w2, true⟩]) fun b7 H6 => R .normal (ud4 (.slice eb gb tb :: .slice (some ⟨b7, 0, none⟩) (zb + 1) 1 :: ud4 (.slice ib ua sb :: .int .i64 (ua : Int) :: .int .i64 (IntKind.wrap .i64 (t12 + 1)) :: ud18 []))) H6)) (R (.exit 0) (ud4 (.slice eb gb tb :: .slice yb zb bc :: ud25 [])) H)) := by kernel_rfl
def f4z_I1 (ib : OA) (sb : Nat) (ua : Nat) (Inv : Nat → OA → Nat → Nat → OA → Nat → Nat → Int → AHeap → Prop) : Nat → List Value → AHeap → Prop := fun μ tm H => ∃ (eb : OA), ∃ (gb : Nat), ∃ (tb : Nat), ∃ (yb : OA), ∃ (zb : Nat), ∃ (bc : Nat), ∃ (t12 : Int), tm = (f4z_P1 ib sb ua eb gb tb yb zb bc t12) ∧ Inv μ eb gb tb yb zb bc t12 H
theorem f4z_L1 (ib : OA) (sb : Nat) (ua : Nat) {Q : Post} (Inv : Nat → OA → Nat → Nat → OA → Nat → Nat → Int → AHeap → Prop) (ν : Nat) (eb : OA) (gb : Nat) (tb : Nat) (yb : OA) (zb : Nat) (bc : Nat) (t12 : Int)  (H : AHeap) (h0 : Inv ν eb gb tb yb zb bc t12 H)
  (hs : ∀ (μ : Nat) (eb : OA) (gb : Nat) (tb : Nat) (yb : OA) (zb : Nat) (bc : Nat) (t12 : Int)  (H : AHeap), Inv μ eb gb tb yb zb bc t12 H → exL Try.prog E_f4z (cl (cl (cr (cl (cr (cr (bodyC Try.f49))))))) 7216 12 [(0, 48)] (f4z_P1 ib sb ua eb gb tb yb zb bc t12) H (loopQ (f4z_I1 ib sb ua Inv) μ Q)) : loopK (exL Try.prog E_f4z (cl (cl (cr (cl (cr (cr (bodyC Try.f49))))))) 7216 12 [(0, 48)]) (f4z_P1 ib sb ua eb gb tb yb zb bc t12) H Q :=
 ⟨f4z_I1 ib sb ua Inv, ν, ⟨eb, gb, tb, yb, zb, bc, t12, rfl, h0⟩, fun μ tm H h => by obtain ⟨eb, gb, tb, yb, zb, bc, t12, rfl, hI⟩ := h; exact hs μ eb gb tb yb zb bc t12  H hI⟩
theorem f4z_n1 {ib : OA} {sb : Nat} {ua : Nat} {Q : Post} {Inv : Nat → OA → Nat → Nat → OA → Nat → Nat → Int → AHeap → Prop} {μ : Nat} (μ' : Nat) {eb : OA} {gb : Nat} {tb : Nat} {yb : OA} {zb : Nat} {bc : Nat} {t12 : Int}  {H : AHeap} (hm : μ' < μ) (hI : Inv μ' eb gb tb yb zb bc t12 H) : loopQ (f4z_I1 ib sb ua Inv) μ Q .normal (f4z_P1 ib sb ua eb gb tb yb zb bc t12) H := ⟨μ', hm, eb, gb, tb, yb, zb, bc, t12, rfl, hI⟩
theorem f4z_x1_0 (eb : OA) (gb : Nat) (tb : Nat) (yb : OA) (zb : Nat) (bc : Nat) (H : AHeap) (K : Value → AHeap → Prop)  {I : Nat → List Value → AHeap → Prop} {μ : Nat} : loopQ I μ (blockQ 0 (seqQ (exL Try.prog E_f4z (cr (cr (cr (bodyC Try.f49)))) 12 12 []) (retK Try.prog Try.f49 K))) (.exit 0) (ud4 (.slice eb gb tb :: .slice yb zb bc :: ud25 [])) H =
 (K (.tuple #[.slice eb gb tb, .slice yb zb bc]) H) := by kernel_rfl
theorem E_f4z_ok : ∀ g, FnOk Try.prog g (E_f4z g) := FnOk.envOf (by
 intro x hx; cases hx)
theorem f4z_main (ib : OA) (ua : Nat) (sb : Nat) (H : AHeap) (K : Value → AHeap → Prop) (h : T_f4z ib ua sb H fun (qc : OA) (uc : Nat) (tc : Nat) (zd : OA) (ie : Nat) (fe : Nat) (H' : AHeap) => K (.tuple #[.slice qc uc tc, .slice zd ie fe]) H') : bodyL Try.prog E_f4z Try.f49 [.slice ib ua sb] H K := by
 rw [f4z_vc]
 obtain ⟨da, i_list, bd_101, hk⟩ := h
 have hk : (∀ (qc : OA) (uc tc : Nat), ∀ (zd : OA) (ie fe : Nat), ∀ H' : AHeap, Grow H H' → OwnS fF H' H.length qc uc tc ((p_f4z da).1) → OwnS fF H' H.length zd ie fe ((p_f4z da).2) → SepA qc zd → (fun (qc : OA) (uc : Nat) (tc : Nat) (zd : OA) (ie : Nat) (fe : Nat) (H' : AHeap) => K (.tuple #[.slice qc uc tc, .slice zd ie fe]) H') qc uc tc zd ie fe H') := by rw [impl_split_val da]; exact hk
 obtain rfl := i_list.eqn
 have e : (p_f4z da) = _ := rfl
 have e := e.trans (p_f4z_eq da)
 have g0 := Grow.refl H
 refine Al.intro (fun b_1 H_1 hb_2 hl_3 g_4 o_5 => ?_)
 have o_5 : Own H_1 b_1 ((([] : LN)).map fF) := o_5
 have l_7 := g_4.1
 have g_8 := g0.trans g_4
 have l_9 := g_8.1
 have w100 := o_5.lt
 refine Al.intro (fun b_10 H_2 hb_11 hl_12 g13 o_14 => ?_)
 have o_14 : Own H_2 b_10 ((([] : LN)).map fF) := o_14
 have l_16 := g13.1
 have g17 := g_8.trans g13
 have l_18 := g17.1
 have o19 := o_5.grow g13
 have w20 := o19.lt
 have w99 := o_14.lt
 refine f4z_L1 _ _ _ (fun (μ : Nat) (eb : OA) (gb : Nat) (tb : Nat) (yb : OA) (zb : Nat) (bc : Nat) (t12 : Int) (H_3 : AHeap) => ∃ (jb : LN), ∃ (b_21 : Nat), ∃ (wb : LN), ∃ (b_23 : Nat), eb = some ⟨b_21, 0, none⟩ ∧ gb = jb.length ∧ tb = 1 ∧ Own H_3 b_21 (jb.map fF) ∧ yb = some ⟨b_23, 0, none⟩ ∧ zb = wb.length ∧ bc = 1 ∧ Own H_3 b_23 (wb.map fF) ∧ (b_23 ≠ b_21) ∧ Grow H H_3 ∧ H.length ≤ b_21 ∧ H.length ≤ b_23 ∧ (0 : Int) ≤ t12 ∧ t12 ≤ (da.length : Int) ∧ (jb.length : Int) ≤ t12 - (0 : Int) + 0 ∧ (wb.length : Int) ≤ t12 - (0 : Int) + 0 ∧ (da.length : Int) - t12 ≤ (μ : Int) ∧ p_f4z da = p_f4z_l1 da (μ + 1) jb wb t12) (Int.toNat ((da.length : Int) - (0 : Int))) _ _ _ _ _ _ _ H_2 ?_ ?_
 ·exact ⟨_, _, _, _, rfl, ω5, rfl, o19, rfl, ω5, rfl, o_14, ω2, g17, ω2, ω2, ω6, ω6, ω6, ω6, ω2, e⟩
 ·intro μ eb gb tb yb zb bc t12  H_3 hI
  obtain ⟨jb, b_21, wb, b_23, rfl, rfl, rfl, o22, rfl, rfl, rfl, o24, n25, g26, l27, l28, v_29, v_30, v_31, v_32, hμ, e⟩ := hI
  rw [f4z_r1]
  have e := e.trans (p_f4z_l1_s da μ jb wb t12)
  have w33 := o22.lt
  have w34 := o24.lt
  have l35 := g26.1
  refine Br.intro (fun c36 => ?_) (fun c36 => ?_)
  ·have e := e.trans (cond_t c36)
   have c_36' := of_decide_eq_true c36
   obtain ⟨b37, f38, q39⟩ := ((i_list.grow g26)).pos ω0
   refine ⟨by omega, by omega, b37, f38, q39, ?_⟩
   refine ⟨((da).getD (t12 : Int).toNat 0), (i_list).rd g26 q39 ω2 _, ?_⟩
   refine ⟨ω22, ?_⟩
   have z40 := tmod_rng t12 2
   have z41 := tmod_nn t12 2
   refine Br.intro (fun c_42 => ?_) (fun c_42 => ?_)
   ·have e := e.trans (cond_t c_42)
    have c_42' := ieq_t c_42
    refine Al.intro (fun b43 H_4 hb_44 hl_45 g46 o47 => ?_)
    have o47 : Own H_4 b43 (([(((da).getD (t12 : Int).toNat 0))]).map fF) := o47
    have l49 := g46.1
    have g50 := g26.trans g46
    have l51 := g50.1
    have o52 := o22.grow g46
    have w53 := o52.lt
    have o54 := o24.grow g46
    have w55 := o54.lt
    have w70 := o47.lt
    refine ⟨_, _, o52.ownB ω7 rfl, (isl_rdS (o47.isL ω5)), (fun h => by cases h), ω21, ?_⟩
    refine Ap.app o52 rfl rfl (fun b60 H_5 q68 hl_56 o57 k58 => ?_)
    have o57 := map_snoc o57
    have l61 := k58.1
    have g62 := g50.keep (b := b_21) ω2 k58
    have l63 := g62.1
    have o64 := o54.keep ω2 k58
    have w65 := o64.lt
    have o66 := o47.keep ω2 k58
    have w67 := o66.lt
    have w69 := o57.lt
    rw [show IntKind.wrap .i64 (t12 + 1) = (t12 + 1) from wrap64 ω2 ω2]
    refine f4z_n1 (μ - 1) ω15 ⟨_, _, _, _, rfl, ω12, rfl, o57, rfl, ω5, rfl, o64, ω2, g62, ω2, ω2, ω1, ω1, ω1, ω1, ω15, ω13⟩
   ·have e := e.trans (cond_f c_42)
    have c_42' := ieq_f c_42
    refine Al.intro (fun b71 H_6 hb_72 hl_73 g74 o75 => ?_)
    have o75 : Own H_6 b71 (([(((da).getD (t12 : Int).toNat 0))]).map fF) := o75
    have l77 := g74.1
    have g78 := g26.trans g74
    have l79 := g78.1
    have o80 := o22.grow g74
    have w81 := o80.lt
    have o82 := o24.grow g74
    have w83 := o82.lt
    have w98 := o75.lt
    refine ⟨_, _, o82.ownB ω7 rfl, (isl_rdS (o75.isL ω5)), (fun h => by cases h), ω21, ?_⟩
    refine Ap.app o82 rfl rfl (fun b88 H_7 q96 hl_84 o85 k86 => ?_)
    have o85 := map_snoc o85
    have l89 := k86.1
    have g90 := g78.keep (b := b_23) ω2 k86
    have l91 := g90.1
    have o92 := o80.keep ω2 k86
    have w93 := o92.lt
    have o94 := o75.keep ω2 k86
    have w95 := o94.lt
    have w97 := o85.lt
    rw [show IntKind.wrap .i64 (t12 + 1) = (t12 + 1) from wrap64 ω2 ω2]
    refine f4z_n1 (μ - 1) ω15 ⟨_, _, _, _, rfl, ω5, rfl, o92, rfl, ω12, rfl, o85, ω2, g90, ω2, ω2, ω1, ω1, ω1, ω1, ω15, ω13⟩
  ·have e := e.trans (cond_f c36)
   have c_36' := of_decide_eq_false c36
   rw [f4z_x1_0]
   rw [e] at hk
   exact hk _ _ _ _ _ _ H_3 g26 (o22.ownS ω5 ω2) (o24.ownS ω5 ω2) (fun x y hx hy => by cases hx; cases hy; intro hh; dsimp only at hh; omega)
theorem f4z_ok : FnOk Try.prog 49 S_f4z := by
 refine FnOk.body mix_ok E_f4z_ok Try.func49 rfl ω9 ω9 ?_ ?_ ?_ ?_ ?_
 ·intro args H K K' h hk
  simp only [S_f4z] at *
  unfold F_f4z at *
  split at hk
  ·obtain ⟨da, i_list, bd_101, k⟩ := hk
   exact ⟨da, i_list, bd_101, (fun qc uc tc zd ie fe H' gg ow0 ow1 sp0_1 => h _ _ (k qc uc tc zd ie fe H' gg ow0 ow1 sp0_1))⟩
  ·exact hk.elim
 ·intro hq; cases hq
 ·intro args H K hk
  simp only [S_f4z] at *
  unfold F_f4z at *
  split at hk
  ·obtain ⟨da, i_list, bd_101, k⟩ := hk
   exact liveS2 fun a n e a2 n2 e2 H1 g o o2 sp => ⟨_, _, k a n e a2 n2 e2 H1 g o o2 sp⟩
  ·exact hk.elim
 ·intro _ args H K hk
  simp only [S_f4z] at *
  unfold F_f4z at *
  split at hk
  ·obtain ⟨da, i_list, bd_101, k⟩ := hk
   exact ⟨da, i_list, bd_101, (fun qc uc tc zd ie fe H' gg ow0 ow1 sp0_1 => ⟨gg, k qc uc tc zd ie fe H' gg ow0 ow1 sp0_1⟩)⟩
  ·exact hk.elim
 ·have mm := @f4z_main
  have ml := fun (args : List Value) (H : AHeap) (K : Value → AHeap → Prop) => bodyL_body (P := Try.prog) (env := E_f4z ) (fn := Try.f49) (args := args) (H := H) (K := K) E_f4z_ok 
  revert mm ml
  generalize bodyK Try.prog E_f4z Try.f49 = Q
  generalize bodyL Try.prog E_f4z Try.f49 = QL
  intro mm ml args H K hk
  simp only [S_f4z] at *
  unfold F_f4z at *
  split at hk
  ·exact ml _ H K (mm _ _ _ H K hk)
  ·exact hk.elim

def p_f1z (jb : LN) (j : Int) : Nat × Nat := (((jb).getD (j : Int).toNat 0), ((jb).getD ((if (((jb.length : Int) - 1) : Int) < (j + 1) then ((jb.length : Int) - 1) else (j + 1)) : Int).toNat 0))
def p_f1z_eq := @p_f1z.eq_1
def T_f1z (eb : OA) (gb : Nat) (tb : Nat) (j : Int) (H : AHeap) (K : Nat → Nat → AHeap → Prop) : Prop := ∃ (jb : LN), IsL fF H eb gb jb ∧ jb.length < 1073741824 ∧ 0 ≤ j ∧ j < jb.length ∧ K ((p_f1z jb j).1) ((p_f1z jb j).2) H
theorem T_f1z_i {eb : OA} {gb : Nat} {tb : Nat} {j : Int} {H : AHeap} {K : Nat → Nat → AHeap → Prop} (h : ∃ (jb : LN), IsL fF H eb gb jb ∧ jb.length < 1073741824 ∧ 0 ≤ j ∧ j < jb.length ∧ K ((p_f1z jb j).1) ((p_f1z jb j).2) H) : T_f1z eb gb tb j H K := h

/-! f1z: function 75 -/
def E_f1z : Env := envOf []
def F_f1z : List Value → AHeap → (Value → AHeap → Prop) → Prop
 | [.slice eb gb tb, .int .i64 j], H, K => T_f1z eb gb tb j H fun (r1 : Nat) (r2 : Nat) (H' : AHeap) => K (.tuple #[.float .f32 r1, .float .f32 r2]) H'
 | _, _, _ => False
def S_f1z : FSpec := { F := F_f1z, quiet := true, tame := false }
theorem f1z_vc (eb : OA) (gb : Nat) (tb : Nat) (j : Int) (H : AHeap) (K : Value → AHeap → Prop) : bodyL Try.prog E_f1z Try.f75 [.slice eb gb tb, .int .i64 j] H K =
 ((0 : Int) ≤ j ∧ j < (gb : Int) ∧ ∃ b1 f1, (eb : OA) = some ⟨b1, f1, none⟩ ∧ ∃ x1 : Nat,  rdC H b1 (f1 + (j : Int).toNat * 1) = some (.float .f32 x1) ∧ (0 : Int) ≤ (if (IntKind.wrap .i64 ((gb : Int) - 1) : Int) < IntKind.wrap .i64 (j + 1) then IntKind.wrap .i64 ((gb : Int) - 1) else IntKind.wrap .i64 (j + 1)) ∧ (if (IntKind.wrap .i64 ((gb : Int) - 1) : Int) < IntKind.wrap .i64 (j + 1) then IntKind.wrap .i64 ((gb : Int) - 1) else IntKind.wrap .i64 (j + 1)) < (gb : Int) ∧ ∃ b2 f2, (eb : OA) = some ⟨b2, f2, none⟩ ∧ ∃ x2 : Nat,  rdC H b2 (f2 + ((if (IntKind.wrap .i64 ((gb : Int) - 1) : Int) < IntKind.wrap .i64 (j + 1) then IntKind.wrap .i64 ((gb : Int) - 1) else IntKind.wrap .i64 (j + 1)) : Int).toNat * 1) = some (.float .f32 x2) ∧ K (.tuple #[.float .f32 x1, .float .f32 x2]) H) := by kernel_rfl
theorem E_f1z_ok : ∀ g, FnOk Try.prog g (E_f1z g) := FnOk.envOf (by
 intro x hx; cases hx)
theorem f1z_main (eb : OA) (gb : Nat) (tb : Nat) (j : Int) (H : AHeap) (K : Value → AHeap → Prop) (h : T_f1z eb gb tb j H fun (r1 : Nat) (r2 : Nat) (H' : AHeap) => K (.tuple #[.float .f32 r1, .float .f32 r2]) H') : bodyL Try.prog E_f1z Try.f75 [.slice eb gb tb, .int .i64 j] H K := by
 rw [f1z_vc]
 obtain ⟨jb, i_evens, bd_7, pr0, pr1, hk⟩ := h
 obtain rfl := i_evens.eqn
 have e : (p_f1z jb j) = _ := rfl
 have e := e.trans (p_f1z_eq jb j)
 have g0 := Grow.refl H
 obtain ⟨b_1, f_2, q_3⟩ := ((i_evens.grow g0)).pos ω0
 refine ⟨by omega, by omega, b_1, f_2, q_3, ?_⟩
 refine ⟨((jb).getD (j : Int).toNat 0), (i_evens).rd g0 q_3 ω2 _, ?_⟩
 rw [show IntKind.wrap .i64 (j + 1) = (j + 1) from wrap64 ω2 ω2]
 rw [show IntKind.wrap .i64 ((jb.length : Int) - 1) = ((jb.length : Int) - 1) from wrap64 ω2 ω2]
 obtain ⟨b_4, f_5, q_6⟩ := ((i_evens.grow g0)).pos ω0
 refine ⟨by omega, by omega, b_4, f_5, q_6, ?_⟩
 refine ⟨((jb).getD ((if (((jb.length : Int) - 1) : Int) < (j + 1) then ((jb.length : Int) - 1) else (j + 1)) : Int).toNat 0), (i_evens).rd g0 q_6 ω2 _, ?_⟩
 rw [e] at hk
 exact hk
theorem f1z_ok : FnOk Try.prog 75 S_f1z := by
 refine FnOk.body mix_ok E_f1z_ok Try.func75 rfl ω9 ω9 ?_ ?_ ?_ ?_ ?_
 ·intro args H K K' h hk
  simp only [S_f1z] at *
  unfold F_f1z at *
  split at hk
  ·obtain ⟨jb, i_evens, bd_7, pr0, pr1, k⟩ := hk
   exact ⟨jb, i_evens, bd_7, pr0, pr1, h _ _ k⟩
  ·exact hk.elim
 ·intro _ args H K hk
  simp only [S_f1z] at *
  unfold F_f1z at *
  split at hk
  ·obtain ⟨jb, i_evens, bd_7, pr0, pr1, k⟩ := hk
   exact ⟨_, k, fun K' k' => ⟨jb, i_evens, bd_7, pr0, pr1, k'⟩⟩
  ·exact hk.elim
 ·intro args H K hk
  simp only [S_f1z] at *
  unfold F_f1z at *
  split at hk
  ·obtain ⟨jb, i_evens, bd_7, pr0, pr1, k⟩ := hk
   exact ⟨_, _, k⟩
  ·exact hk.elim
 ·intro hq; cases hq
 ·have mm := @f1z_main
  have ml := fun (args : List Value) (H : AHeap) (K : Value → AHeap → Prop) => bodyL_body (P := Try.prog) (env := E_f1z ) (fn := Try.f75) (args := args) (H := H) (K := K) E_f1z_ok 
  revert mm ml
  generalize bodyK Try.prog E_f1z Try.f75 = Q
  generalize bodyL Try.prog E_f1z Try.f75 = QL
  intro mm ml args H K hk
  simp only [S_f1z] at *
  unfold F_f1z at *
  split at hk
  ·exact ml _ H K (mm _ _ _ _ H K hk)
  ·exact hk.elim
def T_f12z (x : Nat) (x_o : Nat) (a : Nat) (b : Nat) (cap0 : Nat) (cap1 : Nat) (H : AHeap) (K : AHeap → Prop) : Prop := ∃ x1 : Nat,  rdC H cap0 0 = some (.float .f32 x1) ∧ ∃ x2 : Bool,  rdC H cap1 0 = some (.bool x2) ∧ Br x2 (∃ x3 : Nat,  rdC H x x_o = some (.float .f32 x3) ∧ isOwn H x ∧ (∃ l, rdN H x x_o 1 = some l) ∧ Lt (setC H x x_o (.float .f32 (fsub .f32 x3 (fmul .f32 x1 (fadd .f32 a b))))) fun H1 => K  H1) (∃ x4 : Nat,  rdC H x x_o = some (.float .f32 x4) ∧ isOwn H x ∧ (∃ l, rdN H x x_o 1 = some l) ∧ Lt (setC H x x_o (.float .f32 (fadd .f32 x4 (fmul .f32 x1 (fadd .f32 a b))))) fun H2 => K  H2)
/-! f12z: function 74 -/
def E_f12z : Env := envOf []
def F_f12z : List Value → AHeap → (Value → AHeap → Prop) → Prop
 | [.pointer (some ⟨x, x_o, none⟩), .float .f32 a, .float .f32 b, .pointer (some ⟨cap0, 0, none⟩), .pointer (some ⟨cap1, 0, none⟩)], H, K => T_f12z x x_o a b cap0 cap1 H fun  (H' : AHeap) => K (.tuple #[]) H'
 | _, _, _ => False
def S_f12z : FSpec := { F := F_f12z, quiet := false, tame := false }
theorem E_f12z_ok : ∀ g, FnOk Try.prog g (E_f12z g) := FnOk.envOf (by
 intro x hx; cases hx)
theorem f12z_kc (x : Nat) (x_o : Nat) (a : Nat) (b : Nat) (cap0 : Nat) (cap1 : Nat) (H : AHeap) (K : Value → AHeap → Prop) : bodyK Try.prog E_f12z Try.f74 [.pointer (some ⟨x, x_o, none⟩), .float .f32 a, .float .f32 b, .pointer (some ⟨cap0, 0, none⟩), .pointer (some ⟨cap1, 0, none⟩)] H K = T_f12z x x_o a b cap0 cap1 H (fun  (H' : AHeap) => K (.tuple #[]) H') := by kernel_rfl
theorem f12z_ok : FnOk Try.prog 74 S_f12z := by
 refine FnOk.body mix_ok E_f12z_ok Try.func74 rfl ω9 ω9 ?_ ?_ ?_ ?_ ?_
 ·intro args H K K' h hk
  simp only [S_f12z] at *
  unfold F_f12z at *
  split at hk
  ·rw [← f12z_kc] at hk ⊢; exact bodyK_mono E_f12z_ok h hk
  ·exact hk.elim
 ·intro hq; cases hq
 ·intro args H K hk
  simp only [S_f12z] at *
  unfold F_f12z at *
  split at hk
  ·rw [← f12z_kc] at hk; exact bodyK_live E_f12z_ok hk
  ·exact hk.elim
 ·intro hq; cases hq
 ·intro args H K hk
  simp only [S_f12z] at *
  unfold F_f12z at *
  split at hk
  ·rw [← f12z_kc] at hk; exact hk
  ·exact hk.elim

def p_f0z (wb : LN) (j : Int) : Nat × Nat := (((wb).getD ((if (0 : Int) > (j - 1) then 0 else (j - 1)) : Int).toNat 0), ((wb).getD ((if (((wb.length : Int) - 1) : Int) < j then ((wb.length : Int) - 1) else j) : Int).toNat 0))
def p_f0z_eq := @p_f0z.eq_1
def T_f0z (yb : OA) (zb : Nat) (bc : Nat) (j : Int) (H : AHeap) (K : Nat → Nat → AHeap → Prop) : Prop := ∃ (wb : LN), IsL fF H yb zb wb ∧ wb.length < 1073741824 ∧ 0 ≤ j ∧ j ≤ wb.length ∧ 1 ≤ wb.length ∧ K ((p_f0z wb j).1) ((p_f0z wb j).2) H
theorem T_f0z_i {yb : OA} {zb : Nat} {bc : Nat} {j : Int} {H : AHeap} {K : Nat → Nat → AHeap → Prop} (h : ∃ (wb : LN), IsL fF H yb zb wb ∧ wb.length < 1073741824 ∧ 0 ≤ j ∧ j ≤ wb.length ∧ 1 ≤ wb.length ∧ K ((p_f0z wb j).1) ((p_f0z wb j).2) H) : T_f0z yb zb bc j H K := h

/-! f0z: function 76 -/
def E_f0z : Env := envOf []
def F_f0z : List Value → AHeap → (Value → AHeap → Prop) → Prop
 | [.slice yb zb bc, .int .i64 j], H, K => T_f0z yb zb bc j H fun (r1 : Nat) (r2 : Nat) (H' : AHeap) => K (.tuple #[.float .f32 r1, .float .f32 r2]) H'
 | _, _, _ => False
def S_f0z : FSpec := { F := F_f0z, quiet := true, tame := false }
theorem f0z_vc (yb : OA) (zb : Nat) (bc : Nat) (j : Int) (H : AHeap) (K : Value → AHeap → Prop) : bodyL Try.prog E_f0z Try.f76 [.slice yb zb bc, .int .i64 j] H K =
 ((0 : Int) ≤ (if (0 : Int) > IntKind.wrap .i64 (j - 1) then 0 else IntKind.wrap .i64 (j - 1)) ∧ (if (0 : Int) > IntKind.wrap .i64 (j - 1) then 0 else IntKind.wrap .i64 (j - 1)) < (zb : Int) ∧ ∃ b1 f1, (yb : OA) = some ⟨b1, f1, none⟩ ∧ ∃ x1 : Nat,  rdC H b1 (f1 + ((if (0 : Int) > IntKind.wrap .i64 (j - 1) then 0 else IntKind.wrap .i64 (j - 1)) : Int).toNat * 1) = some (.float .f32 x1) ∧ (0 : Int) ≤ (if (IntKind.wrap .i64 ((zb : Int) - 1) : Int) < j then IntKind.wrap .i64 ((zb : Int) - 1) else j) ∧ (if (IntKind.wrap .i64 ((zb : Int) - 1) : Int) < j then IntKind.wrap .i64 ((zb : Int) - 1) else j) < (zb : Int) ∧ ∃ b2 f2, (yb : OA) = some ⟨b2, f2, none⟩ ∧ ∃ x2 : Nat,  rdC H b2 (f2 + ((if (IntKind.wrap .i64 ((zb : Int) - 1) : Int) < j then IntKind.wrap .i64 ((zb : Int) - 1) else j) : Int).toNat * 1) = some (.float .f32 x2) ∧ K (.tuple #[.float .f32 x1, .float .f32 x2]) H) := by kernel_rfl
theorem E_f0z_ok : ∀ g, FnOk Try.prog g (E_f0z g) := FnOk.envOf (by
 intro x hx; cases hx)
theorem f0z_main (yb : OA) (zb : Nat) (bc : Nat) (j : Int) (H : AHeap) (K : Value → AHeap → Prop) (h : T_f0z yb zb bc j H fun (r1 : Nat) (r2 : Nat) (H' : AHeap) => K (.tuple #[.float .f32 r1, .float .f32 r2]) H') : bodyL Try.prog E_f0z Try.f76 [.slice yb zb bc, .int .i64 j] H K := by
 rw [f0z_vc]
 obtain ⟨wb, i_odds, bd_7, pr0, pr1, pr2, hk⟩ := h
 obtain rfl := i_odds.eqn
 have e : (p_f0z wb j) = _ := rfl
 have e := e.trans (p_f0z_eq wb j)
 have g0 := Grow.refl H
 rw [show IntKind.wrap .i64 (j - 1) = (j - 1) from wrap64 ω2 ω2]
 obtain ⟨b_1, f_2, q_3⟩ := ((i_odds.grow g0)).pos ω0
 refine ⟨by omega, by omega, b_1, f_2, q_3, ?_⟩
 refine ⟨((wb).getD ((if (0 : Int) > (j - 1) then 0 else (j - 1)) : Int).toNat 0), (i_odds).rd g0 q_3 ω2 _, ?_⟩
 rw [show IntKind.wrap .i64 ((wb.length : Int) - 1) = ((wb.length : Int) - 1) from wrap64 ω2 ω2]
 obtain ⟨b_4, f_5, q_6⟩ := ((i_odds.grow g0)).pos ω0
 refine ⟨by omega, by omega, b_4, f_5, q_6, ?_⟩
 refine ⟨((wb).getD ((if (((wb.length : Int) - 1) : Int) < j then ((wb.length : Int) - 1) else j) : Int).toNat 0), (i_odds).rd g0 q_6 ω2 _, ?_⟩
 rw [e] at hk
 exact hk
theorem f0z_ok : FnOk Try.prog 76 S_f0z := by
 refine FnOk.body mix_ok E_f0z_ok Try.func76 rfl ω9 ω9 ?_ ?_ ?_ ?_ ?_
 ·intro args H K K' h hk
  simp only [S_f0z] at *
  unfold F_f0z at *
  split at hk
  ·obtain ⟨wb, i_odds, bd_7, pr0, pr1, pr2, k⟩ := hk
   exact ⟨wb, i_odds, bd_7, pr0, pr1, pr2, h _ _ k⟩
  ·exact hk.elim
 ·intro _ args H K hk
  simp only [S_f0z] at *
  unfold F_f0z at *
  split at hk
  ·obtain ⟨wb, i_odds, bd_7, pr0, pr1, pr2, k⟩ := hk
   exact ⟨_, k, fun K' k' => ⟨wb, i_odds, bd_7, pr0, pr1, pr2, k'⟩⟩
  ·exact hk.elim
 ·intro args H K hk
  simp only [S_f0z] at *
  unfold F_f0z at *
  split at hk
  ·obtain ⟨wb, i_odds, bd_7, pr0, pr1, pr2, k⟩ := hk
   exact ⟨_, _, k⟩
  ·exact hk.elim
 ·intro hq; cases hq
 ·have mm := @f0z_main
  have ml := fun (args : List Value) (H : AHeap) (K : Value → AHeap → Prop) => bodyL_body (P := Try.prog) (env := E_f0z ) (fn := Try.f76) (args := args) (H := H) (K := K) E_f0z_ok 
  revert mm ml
  generalize bodyK Try.prog E_f0z Try.f76 = Q
  generalize bodyL Try.prog E_f0z Try.f76 = QL
  intro mm ml args H K hk
  simp only [S_f0z] at *
  unfold F_f0z at *
  split at hk
  ·exact ml _ H K (mm _ _ _ _ H K hk)
  ·exact hk.elim
def wMore (back : Bool) (x y : Nat) : Nat := bif back then fsub .f32 x y else fadd .f32 x y
def wHighI (k : Int) (w : Nat) (back : Bool) (low high : LN) : LN := bif Int.tmod k 2 == 0 then high.mapIdx (fun i x => wMore back x (fmul .f32 w (fadd .f32 ((p_f1z low (i : Int)).1) ((p_f1z low (i : Int)).2)))) else high
def wLowI (k : Int) (w : Nat) (back : Bool) (low high : LN) : LN := bif Int.tmod k 2 == 0 then low else low.mapIdx (fun i x => wMore back x (fmul .f32 w (fadd .f32 ((p_f0z high (i : Int)).1) ((p_f0z high (i : Int)).2))))
@[simp] theorem wHighI_length (k : Int) (w : Nat) (back : Bool) (low high : LN) : (wHighI k w back low high).length = high.length := by
 unfold wHighI; cases (Int.tmod k 2 == 0) <;> simp
@[simp] theorem wLowI_length (k : Int) (w : Nat) (back : Bool) (low high : LN) : (wLowI k w back low high).length = low.length := by
 unfold wLowI; cases (Int.tmod k 2 == 0) <;> simp
def p_f19z_l1 (jb : LN) (wb : LN) (i : Int) (w : Nat) (back : Bool) : Nat → Int → LN → LN × LN
 | 0, _, _ => ([], [])
 | μ + 1, t23, y1_1 => (bif decide ((t23 : Int) < (wb.length : Int)) then (bif back then (p_f19z_l1 jb wb i w back μ (t23 + 1) (((y1_1).set (t23 : Int).toNat ((fsub .f32 (((y1_1).getD (t23 : Int).toNat 0)) (fmul .f32 w (fadd .f32 ((p_f1z jb t23).1) ((p_f1z jb t23).2)))))))) else (p_f19z_l1 jb wb i w back μ (t23 + 1) (((y1_1).set (t23 : Int).toNat ((fadd .f32 (((y1_1).getD (t23 : Int).toNat 0)) (fmul .f32 w (fadd .f32 ((p_f1z jb t23).1) ((p_f1z jb t23).2))))))))) else (jb, y1_1))
def p_f19z_l1_s := fun jb wb i w back μ t23 y1_1 => @p_f19z_l1.eq_2 jb wb i w back t23 y1_1 μ
def p_f19z_l2 (jb : LN) (wb : LN) (i : Int) (w : Nat) (back : Bool) : Nat → Int → LN → LN × LN
 | 0, _, _ => ([], [])
 | μ + 1, t42, y2_1 => (bif decide ((t42 : Int) < (jb.length : Int)) then (bif back then (p_f19z_l2 jb wb i w back μ (t42 + 1) (((y2_1).set (t42 : Int).toNat ((fsub .f32 (((y2_1).getD (t42 : Int).toNat 0)) (fmul .f32 w (fadd .f32 ((p_f0z wb t42).1) ((p_f0z wb t42).2)))))))) else (p_f19z_l2 jb wb i w back μ (t42 + 1) (((y2_1).set (t42 : Int).toNat ((fadd .f32 (((y2_1).getD (t42 : Int).toNat 0)) (fmul .f32 w (fadd .f32 ((p_f0z wb t42).1) ((p_f0z wb t42).2))))))))) else (y2_1, wb))
def p_f19z_l2_s := fun jb wb i w back μ t42 y2_1 => @p_f19z_l2.eq_2 jb wb i w back t42 y2_1 μ
def p_f19z (jb : LN) (wb : LN) (i : Int) (w : Nat) (back : Bool) : LN × LN := ((bif (Int.tmod i 2 : Int) == 0 then (p_f19z_l1 jb wb i w back (Int.toNat ((wb.length : Int) - (0 : Int)) + 1) (0 : Int) wb) else (p_f19z_l2 jb wb i w back (Int.toNat ((jb.length : Int) - (0 : Int)) + 1) (0 : Int) jb)))
def p_f19z_eq := @p_f19z.eq_1
def T_f19z (eb : OA) (gb : Nat) (tb : Nat) (yb : OA) (zb : Nat) (bc : Nat) (i : Int) (w : Nat) (back : Bool) (H : AHeap) (K : AHeap → Prop) : Prop := ∃ lo : Nat, ∃ lob : Nat, ∃ (jb : LN), ∃ (wb : LN), OwnS fF H lo eb gb tb jb ∧ OwnS fF H lob yb zb bc wb ∧ SepA eb yb ∧ jb.length < 1073741824 ∧ wb.length < 1073741824 ∧ wb.length ≤ jb.length ∧ jb.length ≤ wb.length + 1 ∧ 1 ≤ wb.length ∧ ((∀ H' : AHeap, Keep2 eb yb H H' → OwnS fF H' lo eb gb tb (wLowI i w back jb wb) → OwnS fF H' lob yb zb bc (wHighI i w back jb wb) → K  H'))
theorem T_f19z_i {eb : OA} {gb : Nat} {tb : Nat} {yb : OA} {zb : Nat} {bc : Nat} {i : Int} {w : Nat} {back : Bool} {H : AHeap} {K : AHeap → Prop} (h : ∃ lo : Nat, ∃ lob : Nat, ∃ (jb : LN), ∃ (wb : LN), OwnS fF H lo eb gb tb jb ∧ OwnS fF H lob yb zb bc wb ∧ SepA eb yb ∧ jb.length < 1073741824 ∧ wb.length < 1073741824 ∧ wb.length ≤ jb.length ∧ jb.length ≤ wb.length + 1 ∧ 1 ≤ wb.length ∧ ((∀ H' : AHeap, Keep2 eb yb H H' → OwnS fF H' lo eb gb tb (wLowI i w back jb wb) → OwnS fF H' lob yb zb bc (wHighI i w back jb wb) → K  H'))) : T_f19z eb gb tb yb zb bc i w back H K := h
theorem frontI_get (W ys : LN) (i : Nat) (hi : i < ys.length) (hl : W.length = ys.length) : (W.take i ++ ys.drop i).getD i 0 = ys.getD i 0 := by
 rw [List.getD_eq_getElem?_getD, List.getD_eq_getElem?_getD, List.getElem?_append_right (by simp; omega)]
 have : (W.take i).length = i := by simp; omega
 rw [this, Nat.sub_self, List.getElem?_drop, Nat.add_zero]
theorem f19z_go1 (low high : LN) (k : Int) (w : Nat) (back : Bool) (W : LN) (hW : W = high.mapIdx (fun i x => wMore back x (fmul .f32 w (fadd .f32 ((p_f1z low (i : Int)).1) ((p_f1z low (i : Int)).2))))) :
  ∀ (μ i : Nat), i ≤ high.length → high.length - i < μ → p_f19z_l1 low high k w back μ (i : Int) (W.take i ++ high.drop i) = (low, W) := by
 have hl : W.length = high.length := by rw [hW]; simp
 intro μ
 induction μ with
 | zero => intro i _ h; omega
 | succ μ ih =>
  intro i hi hm
  rw [p_f19z_l1_s]
  by_cases h : i < high.length
  ·rw [decide_eq_true (show (i : Int) < (high.length : Int) by omega), cond_true, Int.toNat_natCast]
   have := ih (i + 1) ω2 ω2
   have key : ∀ x, W[i]? = some x → (W.take i ++ high.drop i).set i x = W.take (i + 1) ++ high.drop (i + 1) := fun x hx => set_front W high i h hl x hx
   have hx : W[i]? = some (wMore back (high.getD i 0) (fmul .f32 w (fadd .f32 ((p_f1z low (i : Int)).1) ((p_f1z low (i : Int)).2)))) := by
    rw [hW]; simp [List.getD_eq_getElem?_getD, h]
   rw [frontI_get W high i h hl]
   have k2 := key _ hx
   cases back
   ·rw [cond_false]; simp only [wMore, cond_false] at k2; rw [k2]; exact this
   ·rw [cond_true]; simp only [wMore, cond_true] at k2; rw [k2]; exact this
  ·have e : i = high.length := by omega
   rw [decide_eq_false (show ¬ (i : Int) < (high.length : Int) by omega), cond_false, e]
   simp [← hl]
theorem f19z_go2 (low high : LN) (k : Int) (w : Nat) (back : Bool) (W : LN) (hW : W = low.mapIdx (fun i x => wMore back x (fmul .f32 w (fadd .f32 ((p_f0z high (i : Int)).1) ((p_f0z high (i : Int)).2))))) :
  ∀ (μ i : Nat), i ≤ low.length → low.length - i < μ → p_f19z_l2 low high k w back μ (i : Int) (W.take i ++ low.drop i) = (W, high) := by
 have hl : W.length = low.length := by rw [hW]; simp
 intro μ
 induction μ with
 | zero => intro i _ h; omega
 | succ μ ih =>
  intro i hi hm
  rw [p_f19z_l2_s]
  by_cases h : i < low.length
  ·rw [decide_eq_true (show (i : Int) < (low.length : Int) by omega), cond_true, Int.toNat_natCast]
   have := ih (i + 1) ω2 ω2
   have key : ∀ x, W[i]? = some x → (W.take i ++ low.drop i).set i x = W.take (i + 1) ++ low.drop (i + 1) := fun x hx => set_front W low i h hl x hx
   have hx : W[i]? = some (wMore back (low.getD i 0) (fmul .f32 w (fadd .f32 ((p_f0z high (i : Int)).1) ((p_f0z high (i : Int)).2)))) := by
    rw [hW]; simp [List.getD_eq_getElem?_getD, h]
   rw [frontI_get W low i h hl]
   have k2 := key _ hx
   cases back
   ·rw [cond_false]; simp only [wMore, cond_false] at k2; rw [k2]; exact this
   ·rw [cond_true]; simp only [wMore, cond_true] at k2; rw [k2]; exact this
  ·have e : i = low.length := by omega
   rw [decide_eq_false (show ¬ (i : Int) < (low.length : Int) by omega), cond_false, e]
   simp [← hl]
theorem f19z_val (low high : LN) (k : Int) (w : Nat) (back : Bool) : p_f19z low high k w back = (wLowI k w back low high, wHighI k w back low high) := by
 rw [p_f19z_eq]
 unfold wLowI wHighI
 cases h : (Int.tmod k 2 == 0)
 ·rw [cond_false, cond_false, cond_false]
  have := f19z_go2 low high k w back _ rfl (Int.toNat ((low.length : Int) - 0) + 1) 0 ω2 ω2
  simpa using this
 ·rw [cond_true, cond_true, cond_true]
  have := f19z_go1 low high k w back _ rfl (Int.toNat ((high.length : Int) - 0) + 1) 0 ω2 ω2
  simpa using this
/-! f19z: function 50 -/
def E_f19z : Env := envOf [(75, S_f1z), (74, S_f12z), (76, S_f0z)]
def F_f19z : List Value → AHeap → (Value → AHeap → Prop) → Prop
 | [.slice eb gb tb, .slice yb zb bc, .int .i64 i, .float .f32 w, .bool back], H, K => T_f19z eb gb tb yb zb bc i w back H fun  (H' : AHeap) => K (.tuple #[]) H'
 | _, _, _ => False
def S_f19z : FSpec := { F := F_f19z, quiet := false, tame := false }
theorem f19z_vc (eb : OA) (gb : Nat) (tb : Nat) (yb : OA) (zb : Nat) (bc : Nat) (i : Int) (w : Nat) (back : Bool) (H : AHeap) (K : Value → AHeap → Prop) : bodyL Try.prog E_f19z Try.f50 [.slice eb gb tb, .slice yb zb bc, .int .i64 i, .float .f32 w, .bool back] H K =
 (Al [.float .f32 w] H fun b1 H1 => Al [.bool back] H1 fun b2 H2 => 2 ≠ (0 : Int) ∧ Br ((Int.tmod i 2 : Int) == 0) (loopK (exL Try.prog E_f19z (cl (cl (cr (cl (cl (cr (cl (cr (cr (bodyC Try.f50)))))))))) 12583939 0 [(0, 0)]) (.slice eb gb tb :: .slice yb zb bc :: ud8 (.func (.func 74) #[] #[.pointer (some ⟨b1, 0, none⟩), .pointer (some ⟨b2, 0, none⟩)] :: ud11 (.int .i64 (zb : Int) :: .int .i64 0 :: ud35 []))) H2 (blockQ 0 (seqQ (exL Try.prog E_f19z (cr (cl (cr (cl (cr (cr (bodyC Try.f50))))))) 1027 0 []) (seqQ (exL Try.prog E_f19z (cr (cr (cr (bodyC Try.f50)))) 0 0 []) (retK Try.prog Try.f50 K))))) (loopK (exL Try.prog E_f19z (cl (cl (cr (cr (cr (cr (bodyC Try.f50))))))) 6597069767683 0 [(2, 0)]) (.slice eb gb tb :: .slice yb zb bc :: ud8 (.func (.func 74) #[] #[.pointer (some ⟨b1, 0, none⟩), .pointer (some ⟨b2, 0, none⟩)] :: ud30 (.int .i64 (gb : Int) :: .int .i64 0 :: ud16 []))) H2 (blockQ 2 (retK Try.prog Try.f50 K)))) := by kernel_rfl
abbrev f19z_P1 (b1 : Nat) (b2 : Nat) (eb : OA) (tb : Nat) (gb : Nat) (yb : OA) (bc : Nat) (zb : Nat) (t23 : Int)  : List Value := (.slice eb gb tb :: .slice yb zb bc :: ud8 (.func (.func 74) #[] #[.pointer (some ⟨b1, 0, none⟩), .pointer (some ⟨b2, 0, none⟩)] :: ud11 (.int .i64 (zb : Int) :: .int .i64 t23 :: ud35 [])))
theorem f19z_r1 (b1 : Nat) (b2 : Nat) (eb : OA) (tb : Nat) (gb : Nat) (yb : OA) (bc : Nat) (zb : Nat) (t23 : Int)  (H : AHeap) (R : Post) : exL Try.prog E_f19z (cl (cl (cr (cl (cl (cr (cl (cr (cr (bodyC Try.f50)))))))))) 12583939 0 [(0, 0)] (f19z_P1 b1 b2 eb tb gb yb bc zb t23) H R =
 (Br (decide ((t23 : Int) < (zb : Int))) (T_f1z eb gb tb t23 H fun (r1 : Nat) (r2 : Nat) (H3 : AHeap) => (0 : Int) ≤ t23 ∧ t23 < (zb : Int) ∧ ∃ b3 f1, (yb : OA) = some ⟨b3, f1, none⟩ ∧ T_f12z b3 (f1 + (t23 : Int).toNat * 1) r1 r2 b1 b2 H3 fun  (H4 : AHeap) => R .normal (.slice eb gb tb :: .slice yb zb bc :: ud8 (.func (.func 74) #[] #[.pointer (some ⟨b1, 0, none⟩), .pointer (some ⟨b2, 0, none⟩)] :: ud11 (.int .i64 (zb : Int) :: .int .i64 (IntKind.wrap .i64 (t23 + 1)) :: ud35 []))) H4) (R (.exit 0) (ud59 []) H)) := by kernel_rfl
def f19z_I1 (b1 : Nat) (b2 : Nat) (eb : OA) (tb : Nat) (gb : Nat) (yb : OA) (bc : Nat) (zb : Nat) (Inv : Nat → Int → AHeap → Prop) : Nat → List Value → AHeap → Prop := fun μ tm H => ∃ (t23 : Int), tm = (f19z_P1 b1 b2 eb tb gb yb bc zb t23) ∧ Inv μ t23 H
theorem f19z_L1 (b1 : Nat) (b2 : Nat) (eb : OA) (tb : Nat) (gb : Nat) (yb : OA) (bc : Nat) (zb : Nat) {Q : Post} (Inv : Nat → Int → AHeap → Prop) (ν : Nat) (t23 : Int)  (H : AHeap) (h0 : Inv ν t23 H)
  (hs : ∀ (μ : Nat) (t23 : Int)  (H : AHeap), Inv μ t23 H → exL Try.prog E_f19z (cl (cl (cr (cl (cl (cr (cl (cr (cr (bodyC Try.f50)))))))))) 12583939 0 [(0, 0)] (f19z_P1 b1 b2 eb tb gb yb bc zb t23) H (loopQ (f19z_I1 b1 b2 eb tb gb yb bc zb Inv) μ Q)) : loopK (exL Try.prog E_f19z (cl (cl (cr (cl (cl (cr (cl (cr (cr (bodyC Try.f50)))))))))) 12583939 0 [(0, 0)]) (f19z_P1 b1 b2 eb tb gb yb bc zb t23) H Q :=
 ⟨f19z_I1 b1 b2 eb tb gb yb bc zb Inv, ν, ⟨t23, rfl, h0⟩, fun μ tm H h => by obtain ⟨t23, rfl, hI⟩ := h; exact hs μ t23  H hI⟩
theorem f19z_n1 {b1 : Nat} {b2 : Nat} {eb : OA} {tb : Nat} {gb : Nat} {yb : OA} {bc : Nat} {zb : Nat} {Q : Post} {Inv : Nat → Int → AHeap → Prop} {μ : Nat} (μ' : Nat) {t23 : Int}  {H : AHeap} (hm : μ' < μ) (hI : Inv μ' t23 H) : loopQ (f19z_I1 b1 b2 eb tb gb yb bc zb Inv) μ Q .normal (f19z_P1 b1 b2 eb tb gb yb bc zb t23) H := ⟨μ', hm, t23, rfl, hI⟩
theorem f19z_x1_0  (H : AHeap) (K : Value → AHeap → Prop)  {I : Nat → List Value → AHeap → Prop} {μ : Nat} : loopQ I μ (blockQ 0 (seqQ (exL Try.prog E_f19z (cr (cl (cr (cl (cr (cr (bodyC Try.f50))))))) 1027 0 []) (seqQ (exL Try.prog E_f19z (cr (cr (cr (bodyC Try.f50)))) 0 0 []) (retK Try.prog Try.f50 K)))) (.exit 0) (ud59 []) H =
 (K (.tuple #[]) H) := by kernel_rfl
abbrev f19z_P2 (b1 : Nat) (b2 : Nat) (eb : OA) (tb : Nat) (gb : Nat) (yb : OA) (bc : Nat) (zb : Nat) (t42 : Int)  : List Value := (.slice eb gb tb :: .slice yb zb bc :: ud8 (.func (.func 74) #[] #[.pointer (some ⟨b1, 0, none⟩), .pointer (some ⟨b2, 0, none⟩)] :: ud30 (.int .i64 (gb : Int) :: .int .i64 t42 :: ud16 [])))
theorem f19z_r2 (b1 : Nat) (b2 : Nat) (eb : OA) (tb : Nat) (gb : Nat) (yb : OA) (bc : Nat) (zb : Nat) (t42 : Int)  (H : AHeap) (R : Post) : exL Try.prog E_f19z (cl (cl (cr (cr (cr (cr (bodyC Try.f50))))))) 6597069767683 0 [(2, 0)] (f19z_P2 b1 b2 eb tb gb yb bc zb t42) H R =
 (Br (decide ((t42 : Int) < (gb : Int))) (T_f0z yb zb bc t42 H fun (r3 : Nat) (r4 : Nat) (H5 : AHeap) => (0 : Int) ≤ t42 ∧ t42 < (gb : Int) ∧ ∃ b4 f2, (eb : OA) = some ⟨b4, f2, none⟩ ∧ T_f12z b4 (f2 + (t42 : Int).toNat * 1) r3 r4 b1 b2 H5 fun  (H6 : AHeap) => R .normal (.slice eb gb tb :: .slice yb zb bc :: ud8 (.func (.func 74) #[] #[.pointer (some ⟨b1, 0, none⟩), .pointer (some ⟨b2, 0, none⟩)] :: ud30 (.int .i64 (gb : Int) :: .int .i64 (IntKind.wrap .i64 (t42 + 1)) :: ud16 []))) H6) (R (.exit 2) (ud59 []) H)) := by kernel_rfl
def f19z_I2 (b1 : Nat) (b2 : Nat) (eb : OA) (tb : Nat) (gb : Nat) (yb : OA) (bc : Nat) (zb : Nat) (Inv : Nat → Int → AHeap → Prop) : Nat → List Value → AHeap → Prop := fun μ tm H => ∃ (t42 : Int), tm = (f19z_P2 b1 b2 eb tb gb yb bc zb t42) ∧ Inv μ t42 H
theorem f19z_L2 (b1 : Nat) (b2 : Nat) (eb : OA) (tb : Nat) (gb : Nat) (yb : OA) (bc : Nat) (zb : Nat) {Q : Post} (Inv : Nat → Int → AHeap → Prop) (ν : Nat) (t42 : Int)  (H : AHeap) (h0 : Inv ν t42 H)
  (hs : ∀ (μ : Nat) (t42 : Int)  (H : AHeap), Inv μ t42 H → exL Try.prog E_f19z (cl (cl (cr (cr (cr (cr (bodyC Try.f50))))))) 6597069767683 0 [(2, 0)] (f19z_P2 b1 b2 eb tb gb yb bc zb t42) H (loopQ (f19z_I2 b1 b2 eb tb gb yb bc zb Inv) μ Q)) : loopK (exL Try.prog E_f19z (cl (cl (cr (cr (cr (cr (bodyC Try.f50))))))) 6597069767683 0 [(2, 0)]) (f19z_P2 b1 b2 eb tb gb yb bc zb t42) H Q :=
 ⟨f19z_I2 b1 b2 eb tb gb yb bc zb Inv, ν, ⟨t42, rfl, h0⟩, fun μ tm H h => by obtain ⟨t42, rfl, hI⟩ := h; exact hs μ t42  H hI⟩
theorem f19z_n2 {b1 : Nat} {b2 : Nat} {eb : OA} {tb : Nat} {gb : Nat} {yb : OA} {bc : Nat} {zb : Nat} {Q : Post} {Inv : Nat → Int → AHeap → Prop} {μ : Nat} (μ' : Nat) {t42 : Int}  {H : AHeap} (hm : μ' < μ) (hI : Inv μ' t42 H) : loopQ (f19z_I2 b1 b2 eb tb gb yb bc zb Inv) μ Q .normal (f19z_P2 b1 b2 eb tb gb yb bc zb t42) H := ⟨μ', hm, t42, rfl, hI⟩
theorem f19z_x2_2  (H : AHeap) (K : Value → AHeap → Prop)  {I : Nat → List Value → AHeap → Prop} {μ : Nat} : loopQ I μ (blockQ 2 (retK Try.prog Try.f50 K)) (.exit 2) (ud59 []) H =
 (K (.tuple #[]) H) := by kernel_rfl
theorem E_f19z_ok : ∀ g, FnOk Try.prog g (E_f19z g) := FnOk.envOf (by
 intro x hx
 simp only [List.mem_cons, List.not_mem_nil, or_false] at hx
 rcases hx with rfl | rfl | rfl
 ·exact f1z_ok
 ·exact f12z_ok
 ·exact f0z_ok)
theorem f19z_main (eb : OA) (gb : Nat) (tb : Nat) (yb : OA) (zb : Nat) (bc : Nat) (i : Int) (w : Nat) (back : Bool) (H : AHeap) (K : Value → AHeap → Prop) (h : T_f19z eb gb tb yb zb bc i w back H fun  (H' : AHeap) => K (.tuple #[]) H') : bodyL Try.prog E_f19z Try.f50 [.slice eb gb tb, .slice yb zb bc, .int .i64 i, .float .f32 w, .bool back] H K := by
 rw [f19z_vc]
 obtain ⟨lo, lob, jb, wb, i_evens, i_odds, sp_m, bd_112, bd_113, pr0, pr1, pr2, hk⟩ := h
 have hk : (∀ H' : AHeap, Keep2 eb yb H H' → OwnS fF H' lo eb gb tb ((p_f19z jb wb i w back).1) → OwnS fF H' lob yb zb bc ((p_f19z jb wb i w back).2) → (fun  (H' : AHeap) => K (.tuple #[]) H')  H') := by rw [f19z_val jb wb i w back]; exact hk
 obtain rfl := i_evens.len
 obtain rfl := i_odds.len
 have up_p := i_evens.up
 have lo_p := i_evens.lo
 have up_q := i_odds.up
 have lo_q := i_odds.lo
 have e : (p_f19z jb wb i w back) = _ := rfl
 have e := e.trans (p_f19z_eq jb wb i w back)
 have g0 := Keep2.refl eb yb H
 refine Al.intro (fun b_1 H_1 hb_2 hl_3 g_4 o_5 => ?_)
 have l_7 := g_4.1
 have g_8 := g0.trans g_4
 have l_9 := g_8.1
 have r_10 := i_evens.grow g_4
 have r_11 := i_odds.grow g_4
 have w111 := o_5.lt
 refine Al.intro (fun b_12 H_2 hb_13 hl_14 g15 o16 => ?_)
 have l_18 := g15.1
 have g_19 := g_8.trans g15
 have l_20 := g_19.1
 have o21 := o_5.grow g15
 have w22 := o21.lt
 have r_23 := r_10.grow g15
 have r_24 := r_11.grow g15
 have w110 := o16.lt
 refine ⟨ω22, ?_⟩
 have z25 := tmod_rng i 2
 have z26 := tmod_nn i 2
 refine Br.intro (fun c27 => ?_) (fun c27 => ?_)
 ·have e := e.trans (cond_t c27)
  have c_27' := ieq_t c27
  refine f19z_L1 _ _ _ _ _ _ _ _ (fun (μ : Nat) (t23 : Int) (H_3 : AHeap) => ∃ (y1_1 : LN), Own H_3 b_1 ([.float .f32 w]) ∧ Own H_3 b_12 ([.bool back]) ∧ OwnS fF H_3 lo eb jb.length tb jb ∧ OwnS fF H_3 lob yb wb.length bc y1_1 ∧ y1_1.length = (wb).length ∧ (b_12 ≠ b_1) ∧ H.length ≤ H_3.length ∧ H.length ≤ H_3.length ∧ Keep2 eb yb H H_3 ∧ (0 : Int) ≤ t23 ∧ t23 ≤ (wb.length : Int) ∧ (wb.length : Int) - t23 ≤ (μ : Int) ∧ p_f19z jb wb i w back = p_f19z_l1 jb wb i w back (μ + 1) t23 y1_1) (Int.toNat ((wb.length : Int) - (0 : Int))) _ H_2 ?_ ?_
  ·exact ⟨_, o21, o16, r_23, r_24, ω16, ω2, ω2, ω2, g_19, ω6, ω6, ω2, e⟩
  ·intro μ t23  H_3 hI
   obtain ⟨y1_1, o28, o29, r_30, r_31, y32, n33, n34, n35, g36, v_37, v_38, hμ, e⟩ := hI
   rw [f19z_r1]
   have e := e.trans (p_f19z_l1_s jb wb i w back μ t23 y1_1)
   have w39 := o28.lt
   have w40 := o29.lt
   have l41 := g36.1
   refine Br.intro (fun c_42 => ?_) (fun c_42 => ?_)
   ·have e := e.trans (cond_t c_42)
    have c_42' := of_decide_eq_true c_42
    refine T_f1z_i ⟨_, r_30.isL, ω0, ω14, ω14, ?_⟩
    obtain ⟨b43, f44, q45⟩ := (r_31.isL).pos ω0
    refine ⟨by omega, by omega, b43, f44, q45, ?_⟩
    unfold T_f12z
    refine ⟨w, (o28.rdC _).trans rfl, ?_⟩
    refine ⟨back, (o29.rdC _).trans rfl, ?_⟩
    refine Br.intro (fun c_46 => ?_) (fun c_46 => ?_)
    ·have e := e.trans (cond_t c_46)
     refine ⟨((y1_1).getD (t23 : Int).toNat 0), (r_31.isL).rd (Grow.refl _) q45 ω2 _, ?_⟩
     refine Lt.setS r_31 q45 ω4 (fun H_4 hl_47 o49 k48 => ?_)
     have l50 := k48.1
     have g51 := g36.transB k48
     have l52 := g51.1
     have o53 := o28.keepA (fun x hx => by have := lo_q x hx; have := up_q x hx; omega) k48
     have w54 := o53.lt
     have o55 := o29.keepA (fun x hx => by have := lo_q x hx; have := up_q x hx; omega) k48
     have w56 := o55.lt
     have r57 := r_30.keepA (sp_m).symm k48
     rw [show IntKind.wrap .i64 (t23 + 1) = (t23 + 1) from wrap64 ω2 ω2]
     refine f19z_n1 (μ - 1) ω15 ⟨_, o53, o55, r57, o49, ω17, ω2, ω2, ω2, ω2, ω1, ω1, ω15, ω13⟩
    ·have e := e.trans (cond_f c_46)
     refine ⟨((y1_1).getD (t23 : Int).toNat 0), (r_31.isL).rd (Grow.refl _) q45 ω2 _, ?_⟩
     refine Lt.setS r_31 q45 ω4 (fun H_5 hl_58 o60 k59 => ?_)
     have l61 := k59.1
     have g62 := g36.transB k59
     have l63 := g62.1
     have o64 := o28.keepA (fun x hx => by have := lo_q x hx; have := up_q x hx; omega) k59
     have w65 := o64.lt
     have o66 := o29.keepA (fun x hx => by have := lo_q x hx; have := up_q x hx; omega) k59
     have w67 := o66.lt
     have r68 := r_30.keepA (sp_m).symm k59
     rw [show IntKind.wrap .i64 (t23 + 1) = (t23 + 1) from wrap64 ω2 ω2]
     refine f19z_n1 (μ - 1) ω15 ⟨_, o64, o66, r68, o60, ω17, ω2, ω2, ω2, ω2, ω1, ω1, ω15, ω13⟩
   ·have e := e.trans (cond_f c_42)
    have c_42' := of_decide_eq_false c_42
    rw [f19z_x1_0]
    rw [e] at hk
    exact hk H_3 g36 r_30 r_31
 ·have e := e.trans (cond_f c27)
  have c_27' := ieq_f c27
  refine f19z_L2 _ _ _ _ _ _ _ _ (fun (μ : Nat) (t42 : Int) (H_6 : AHeap) => ∃ (y2_1 : LN), Own H_6 b_1 ([.float .f32 w]) ∧ Own H_6 b_12 ([.bool back]) ∧ OwnS fF H_6 lo eb jb.length tb y2_1 ∧ y2_1.length = (jb).length ∧ OwnS fF H_6 lob yb wb.length bc wb ∧ (b_12 ≠ b_1) ∧ H.length ≤ H_6.length ∧ H.length ≤ H_6.length ∧ Keep2 eb yb H H_6 ∧ (0 : Int) ≤ t42 ∧ t42 ≤ (jb.length : Int) ∧ (jb.length : Int) - t42 ≤ (μ : Int) ∧ p_f19z jb wb i w back = p_f19z_l2 jb wb i w back (μ + 1) t42 y2_1) (Int.toNat ((jb.length : Int) - (0 : Int))) _ H_2 ?_ ?_
  ·exact ⟨_, o21, o16, r_23, ω16, r_24, ω2, ω2, ω2, g_19, ω6, ω6, ω2, e⟩
  ·intro μ t42  H_6 hI
   obtain ⟨y2_1, o69, o70, r71, y72, r73, n74, n75, n76, g77, v_78, v_79, hμ, e⟩ := hI
   rw [f19z_r2]
   have e := e.trans (p_f19z_l2_s jb wb i w back μ t42 y2_1)
   have w80 := o69.lt
   have w81 := o70.lt
   have l82 := g77.1
   refine Br.intro (fun c83 => ?_) (fun c83 => ?_)
   ·have e := e.trans (cond_t c83)
    have c_83' := of_decide_eq_true c83
    refine T_f0z_i ⟨_, r73.isL, ω0, ω14, ω14, ω14, ?_⟩
    obtain ⟨b84, f85, q86⟩ := (r71.isL).pos ω0
    refine ⟨by omega, by omega, b84, f85, q86, ?_⟩
    unfold T_f12z
    refine ⟨w, (o69.rdC _).trans rfl, ?_⟩
    refine ⟨back, (o70.rdC _).trans rfl, ?_⟩
    refine Br.intro (fun c87 => ?_) (fun c87 => ?_)
    ·have e := e.trans (cond_t c87)
     refine ⟨((y2_1).getD (t42 : Int).toNat 0), (r71.isL).rd (Grow.refl _) q86 ω2 _, ?_⟩
     refine Lt.setS r71 q86 ω4 (fun H_7 hl_88 o90 k89 => ?_)
     have l91 := k89.1
     have g92 := g77.transA k89
     have l93 := g92.1
     have o94 := o69.keepA (fun x hx => by have := lo_p x hx; have := up_p x hx; omega) k89
     have w95 := o94.lt
     have o96 := o70.keepA (fun x hx => by have := lo_p x hx; have := up_p x hx; omega) k89
     have w97 := o96.lt
     have r98 := r73.keepA (sp_m) k89
     rw [show IntKind.wrap .i64 (t42 + 1) = (t42 + 1) from wrap64 ω2 ω2]
     refine f19z_n2 (μ - 1) ω15 ⟨_, o94, o96, o90, ω17, r98, ω2, ω2, ω2, ω2, ω1, ω1, ω15, ω13⟩
    ·have e := e.trans (cond_f c87)
     refine ⟨((y2_1).getD (t42 : Int).toNat 0), (r71.isL).rd (Grow.refl _) q86 ω2 _, ?_⟩
     refine Lt.setS r71 q86 ω4 (fun H_8 hl_99 o101 k100 => ?_)
     have l102 := k100.1
     have g103 := g77.transA k100
     have l104 := g103.1
     have o105 := o69.keepA (fun x hx => by have := lo_p x hx; have := up_p x hx; omega) k100
     have w106 := o105.lt
     have o107 := o70.keepA (fun x hx => by have := lo_p x hx; have := up_p x hx; omega) k100
     have w108 := o107.lt
     have r109 := r73.keepA (sp_m) k100
     rw [show IntKind.wrap .i64 (t42 + 1) = (t42 + 1) from wrap64 ω2 ω2]
     refine f19z_n2 (μ - 1) ω15 ⟨_, o105, o107, o101, ω17, r109, ω2, ω2, ω2, ω2, ω1, ω1, ω15, ω13⟩
   ·have e := e.trans (cond_f c83)
    have c_83' := of_decide_eq_false c83
    rw [f19z_x2_2]
    rw [e] at hk
    exact hk H_6 g77 r71 r73
theorem f19z_ok : FnOk Try.prog 50 S_f19z := by
 refine FnOk.body mix_ok E_f19z_ok Try.func50 rfl ω9 ω9 ?_ ?_ ?_ ?_ ?_
 ·intro args H K K' h hk
  simp only [S_f19z] at *
  unfold F_f19z at *
  split at hk
  ·obtain ⟨lo, lob, jb, wb, i_evens, i_odds, sp_m, bd_112, bd_113, pr0, pr1, pr2, k⟩ := hk
   exact ⟨lo, lob, jb, wb, i_evens, i_odds, sp_m, bd_112, bd_113, pr0, pr1, pr2, (fun H' gg ow ow2 => h _ _ (k H' gg ow ow2))⟩
  ·exact hk.elim
 ·intro hq; cases hq
 ·intro args H K hk
  simp only [S_f19z] at *
  unfold F_f19z at *
  split at hk
  ·obtain ⟨lo, lob, jb, wb, i_evens, i_odds, sp_m, bd_112, bd_113, pr0, pr1, pr2, k⟩ := hk
   exact (i_evens.put2 i_odds sp_m _ _ (by rw [wLowI_length]) (by rw [wHighI_length])).elim fun H1 h => ⟨_, _, k H1 h.1 h.2.1 h.2.2⟩
  ·exact hk.elim
 ·intro hq; cases hq
 ·have mm := @f19z_main
  have ml := fun (args : List Value) (H : AHeap) (K : Value → AHeap → Prop) => bodyL_body (P := Try.prog) (env := E_f19z ) (fn := Try.f50) (args := args) (H := H) (K := K) E_f19z_ok 
  revert mm ml
  generalize bodyK Try.prog E_f19z Try.f50 = Q
  generalize bodyL Try.prog E_f19z Try.f50 = QL
  intro mm ml args H K hk
  simp only [S_f19z] at *
  unfold F_f19z at *
  split at hk
  ·exact ml _ H K (mm _ _ _ _ _ _ _ _ _ H K hk)
  ·exact hk.elim

def p_frz_l3 (aa : LN) (s_Scale : Nat) (da : LN) (t34 : Int) (y1_1 : LN) (y1_2 : LN) (t47 : Int) (y2_1 : LN) (y2_2 : LN) (k3_4 : Int → LN → (LN × LN × Bool)) : Nat → Int → LN → LN × LN × Bool
 | 0, _, _ => ([], [], false)
 | μ3 + 1, t61, y3_1 => (bif decide ((t61 : Int) < (((ods da)).length : Int)) then (p_frz_l3 aa s_Scale da t34 y1_1 y1_2 t47 y2_1 y2_2 k3_4 μ3 (t61 + 1) (((y3_1).set (t61 : Int).toNat ((fdiv .f32 (((y3_1).getD (t61 : Int).toNat 0)) s_Scale))))) else (k3_4 t61 y3_1))
def p_frz_l3_s := fun aa s_Scale da t34 y1_1 y1_2 t47 y2_1 y2_2 k3_4 μ3 t61 y3_1 => @p_frz_l3.eq_2 aa s_Scale da t34 y1_1 y1_2 t47 y2_1 y2_2 k3_4 t61 y3_1 μ3
def p_frz_l2 (aa : LN) (s_Scale : Nat) (da : LN) (t34 : Int) (y1_1 : LN) (y1_2 : LN) (k2_2 : Int → LN → LN → (LN × LN × Bool)) : Nat → Int → LN → LN → LN × LN × Bool
 | 0, _, _, _ => ([], [], false)
 | μ2 + 1, t47, y2_1, y2_2 => (bif decide ((t47 : Int) < (((evs da)).length : Int)) then (p_frz_l2 aa s_Scale da t34 y1_1 y1_2 k2_2 μ2 (t47 + 1) (((y2_1).set (t47 : Int).toNat ((fmul .f32 (((y2_1).getD (t47 : Int).toNat 0)) s_Scale)))) y2_2) else (k2_2 t47 y2_1 y2_2))
def p_frz_l2_s := fun aa s_Scale da t34 y1_1 y1_2 k2_2 μ2 t47 y2_1 y2_2 => @p_frz_l2.eq_2 aa s_Scale da t34 y1_1 y1_2 k2_2 t47 y2_1 y2_2 μ2
def p_frz_l1 (aa : LN) (s_Scale : Nat) (da : LN) : Nat → Int → LN → LN → LN × LN × Bool
 | 0, _, _, _ => ([], [], false)
 | μ + 1, t34, y1_1, y1_2 => (bif decide ((t34 : Int) < (aa.length : Int)) then (p_frz_l1 aa s_Scale da μ (t34 + 1) ((wLowI t34 (((aa).getD (t34 : Int).toNat 0)) false y1_1 y1_2)) ((wHighI t34 (((aa).getD (t34 : Int).toNat 0)) false y1_1 y1_2))) else (p_frz_l2 aa s_Scale da t34 y1_1 y1_2 (fun (t47 : Int) (y2_1 : LN) (y2_2 : LN) => (p_frz_l3 aa s_Scale da t34 y1_1 y1_2 t47 y2_1 y2_2 (fun (t61 : Int) (y3_1 : LN) => (bif !((p_fhz ([y2_1, y3_1]))) then ([], [], false) else (y2_1, y3_1, true))) (Int.toNat ((((ods da)).length : Int) - (0 : Int)) + 1) (0 : Int) y2_2)) (Int.toNat ((((evs da)).length : Int) - (0 : Int)) + 1) (0 : Int) y1_1 y1_2))
def p_frz_l1_s := fun aa s_Scale da μ t34 y1_1 y1_2 => @p_frz_l1.eq_2 aa s_Scale da t34 y1_1 y1_2 μ
def p_frz (aa : LN) (s_Scale : Nat) (da : LN) : LN × LN × Bool := ((bif !(p_f9z aa s_Scale) then ([], [], false) else (bif !(p_f14z da) then ([], [], false) else (bif ((((ods da)).length : Int) : Int) == 0 then ((evs da), (ods da), true) else (p_frz_l1 aa s_Scale da (Int.toNat ((aa.length : Int) - (0 : Int)) + 1) (0 : Int) (evs da) (ods da))))))
def p_frz_eq := @p_frz.eq_1
def T_frz (na : OA) (ya : Nat) (va : Nat) (s_Scale : Nat) (ib : OA) (ua : Nat) (sb : Nat) (H : AHeap) (K : OA → Nat → Nat → OA → Nat → Nat → Bool → AHeap → Prop) : Prop := ∃ (aa : LN), ∃ (da : LN), IsL fF H na ya aa ∧ IsL fF H ib ua da ∧ aa.length < 1073741824 ∧ da.length < 1073741824 ∧ ((∀ (qc : OA) (uc tc : Nat), ∀ (zd : OA) (ie fe : Nat), ∀ H' : AHeap, Grow H H' → OwnS fF H' H.length qc uc tc ((p_frz aa s_Scale da).1) → OwnS fF H' H.length zd ie fe ((p_frz aa s_Scale da).2.1) → SepA qc zd → K qc uc tc zd ie fe ((p_frz aa s_Scale da).2.2) H'))
theorem T_frz_i {na : OA} {ya : Nat} {va : Nat} {s_Scale : Nat} {ib : OA} {ua : Nat} {sb : Nat} {H : AHeap} {K : OA → Nat → Nat → OA → Nat → Nat → Bool → AHeap → Prop} (h : ∃ (aa : LN), ∃ (da : LN), IsL fF H na ya aa ∧ IsL fF H ib ua da ∧ aa.length < 1073741824 ∧ da.length < 1073741824 ∧ ((∀ (qc : OA) (uc tc : Nat), ∀ (zd : OA) (ie fe : Nat), ∀ H' : AHeap, Grow H H' → OwnS fF H' H.length qc uc tc ((p_frz aa s_Scale da).1) → OwnS fF H' H.length zd ie fe ((p_frz aa s_Scale da).2.1) → SepA qc zd → K qc uc tc zd ie fe ((p_frz aa s_Scale da).2.2) H'))) : T_frz na ya va s_Scale ib ua sb H K := h
def wfI : LN → Int → LN → LN → LN × LN
 | [], _, lo, hi => (lo, hi)
 | w :: ws, k, lo, hi => wfI ws (k + 1) (wLowI k w false lo hi) (wHighI k w false lo hi)
theorem wfI_length : ∀ (ws : LN) (k : Int) (lo hi : LN), (wfI ws k lo hi).1.length = lo.length ∧ (wfI ws k lo hi).2.length = hi.length := by
 intro ws
 induction ws with
 | nil => intro k lo hi; exact ⟨rfl, rfl⟩
 | cons w ws ih =>
  intro k lo hi
  obtain ⟨h1, h2⟩ := ih (k + 1) (wLowI k w false lo hi) (wHighI k w false lo hi)
  exact ⟨h1.trans (wLowI_length _ _ _ _ _), h2.trans (wHighI_length _ _ _ _ _)⟩
theorem impl_LO_l1 (ws : LN) (sc : Nat) (l : LN) (K2 : Int → LN → LN → LN × LN × Bool)
  (hK : ∀ (k : Int) (y1 y2 : LN), p_frz_l1 ws sc l 1 k y1 y2 = bif decide (k < (ws.length : Int)) then p_frz_l1 ws sc l 0 (k + 1) (wLowI k (ws.getD k.toNat 0) false y1 y2) (wHighI k (ws.getD k.toNat 0) false y1 y2) else K2 k y1 y2) : ∀ (μ k : Nat) (y1 y2 : LN), k ≤ ws.length → ws.length - k < μ →
  p_frz_l1 ws sc l μ (k : Int) y1 y2 = K2 (ws.length : Int) (wfI (ws.drop k) (k : Int) y1 y2).1 (wfI (ws.drop k) (k : Int) y1 y2).2 := by
 intro μ
 induction μ with
 | zero => intro k y1 y2 _ h; omega
 | succ μ ih =>
  intro k y1 y2 hk hm
  by_cases h : k < ws.length
  ·rw [p_frz_l1_s]
   rw [decide_eq_true (show (k : Int) < (ws.length : Int) by omega), cond_true, Int.toNat_natCast]
   have := ih (k + 1) (wLowI k (ws.getD k 0) false y1 y2) (wHighI k (ws.getD k 0) false y1 y2) ω2 ω2
   have e : ws.getD k 0 = ws[k] := by simp [List.getD_eq_getElem?_getD, h]
   rw [List.drop_eq_getElem_cons h, wfI]
   rw [e] at this ⊢
   exact this
  ·have e : k = ws.length := by omega
   have h1 := hK (k : Int) y1 y2
   rw [p_frz_l1_s] at h1 ⊢
   rw [decide_eq_false (show ¬ (k : Int) < (ws.length : Int) by omega), cond_false, cond_false] at h1
   rw [decide_eq_false (show ¬ (k : Int) < (ws.length : Int) by omega), cond_false, e, List.drop_length, wfI, ← e]
   exact h1
theorem frontL_get (W ys : LN) (i : Nat) (hi : i < ys.length) (hl : W.length = ys.length) : (W.take i ++ ys.drop i).getD i 0 = ys.getD i 0 := by
 rw [List.getD_eq_getElem?_getD, List.getD_eq_getElem?_getD, List.getElem?_append_right (by simp; omega)]
 have : (W.take i).length = i := by simp; omega
 rw [this, Nat.sub_self, List.getElem?_drop, Nat.add_zero]
theorem impl_LO_l2 (ws : LN) (sc : Nat) (l : LN) (i : Int) (a b : LN) (K3 : Int → LN → LN → LN × LN × Bool) (A : LN) (hA : A.length = (evs l).length) (y2 : LN) : ∀ (μ j : Nat), j ≤ (evs l).length → (evs l).length - j < μ →
  p_frz_l2 ws sc l i a b K3 μ (j : Int) ((A.map fun x => fmul .f32 x sc).take j ++ A.drop j) y2 = K3 ((evs l).length : Int) (A.map fun x => fmul .f32 x sc) y2 := by
 intro μ
 induction μ with
 | zero => intro k _ h; omega
 | succ μ ih =>
  intro j hj hm
  rw [p_frz_l2_s]
  by_cases h : j < (evs l).length
  ·rw [decide_eq_true (show (j : Int) < ((evs l).length : Int) by omega), cond_true, Int.toNat_natCast, frontL_get _ _ _ ω2 (by simp)]
   have := ih (j + 1) ω2 ω2
   rw [set_front (A.map fun x => fmul .f32 x sc) A j ω2 (by simp) _ (by simp [List.getD_eq_getElem?_getD, show j < A.length by omega])]
   exact this
  ·have e : j = (evs l).length := by omega
   rw [decide_eq_false (show ¬ (j : Int) < ((evs l).length : Int) by omega), cond_false, e, List.take_of_length_le (by simp [hA]), List.drop_of_length_le ω2, List.append_nil]
theorem impl_LO_l3 (ws : LN) (sc : Nat) (l : LN) (i : Int) (a b : LN) (k : Int) (c d : LN) (K4 : Int → LN → LN × LN × Bool) (A : LN) (hA : A.length = (ods l).length) : ∀ (μ j : Nat), j ≤ (ods l).length → (ods l).length - j < μ →
  p_frz_l3 ws sc l i a b k c d K4 μ (j : Int) ((A.map fun x => fdiv .f32 x sc).take j ++ A.drop j) = K4 ((ods l).length : Int) (A.map fun x => fdiv .f32 x sc) := by
 intro μ
 induction μ with
 | zero => intro k _ h; omega
 | succ μ ih =>
  intro j hj hm
  rw [p_frz_l3_s]
  by_cases h : j < (ods l).length
  ·rw [decide_eq_true (show (j : Int) < ((ods l).length : Int) by omega), cond_true, Int.toNat_natCast, frontL_get _ _ _ ω2 (by simp)]
   have := ih (j + 1) ω2 ω2
   rw [set_front (A.map fun x => fdiv .f32 x sc) A j ω2 (by simp) _ (by simp [List.getD_eq_getElem?_getD, show j < A.length by omega])]
   exact this
  ·have e : j = (ods l).length := by omega
   rw [decide_eq_false (show ¬ (j : Int) < ((ods l).length : Int) by omega), cond_false, e, List.take_of_length_le (by simp [hA]), List.drop_of_length_le ω2, List.append_nil]
def liftEI (ws : LN) (sc : Nat) (l : LN) : LN := (wfI ws 0 (evs l) (ods l)).1.map fun x => fmul .f32 x sc
def liftOI (ws : LN) (sc : Nat) (l : LN) : LN := (wfI ws 0 (evs l) (ods l)).2.map fun x => fdiv .f32 x sc
theorem impl_LO_val (ws : LN) (sc : Nat) (l : LN) : p_frz ws sc l = (bif !(p_f9z ws sc) then ([], [], false) else (bif !(p_f14z l) then ([], [], false) else (bif ((((ods l)).length : Int) : Int) == 0 then ((evs l), (ods l), true) else
  (bif !((p_fhz ([liftEI ws sc l, liftOI ws sc l]))) then ([], [], false) else (liftEI ws sc l, liftOI ws sc l, true))))) := by
 rw [p_frz_eq]
 have h1 := impl_LO_l1 ws sc l _ (fun k y1 y2 => p_frz_l1_s ws sc l 0 k y1 y2) (Int.toNat ((ws.length : Int) - (0 : Int)) + 1) 0 (evs l) (ods l) ω2 ω2
 obtain ⟨l1, l2⟩ := wfI_length ws 0 (evs l) (ods l)
 rw [List.drop_zero] at h1
 have h2 := fun i a b K3 y2 => impl_LO_l2 ws sc l i a b K3 (wfI ws ((0 : Nat) : Int) (evs l) (ods l)).1 l1 y2 (Int.toNat ((((evs l)).length : Int) - (0 : Int)) + 1) 0 ω2 ω2
 simp only [List.take_zero, List.drop_zero, List.nil_append] at h2
 have h3 := fun i a b k c d K4 => impl_LO_l3 ws sc l i a b k c d K4 (wfI ws ((0 : Nat) : Int) (evs l) (ods l)).2 l2 (Int.toNat ((((ods l)).length : Int) - (0 : Int)) + 1) 0 ω2 ω2
 simp only [List.take_zero, List.drop_zero, List.nil_append] at h3
 have e : p_frz_l1 ws sc l (Int.toNat ((ws.length : Int) - (0 : Int)) + 1) (0 : Int) (evs l) (ods l) = (bif !((p_fhz ([liftEI ws sc l, liftOI ws sc l]))) then ([], [], false) else (liftEI ws sc l, liftOI ws sc l, true)) := by
  refine Eq.trans h1 ?_
  refine Eq.trans (h2 _ _ _ _ _) ?_
  exact h3 _ _ _ _ _ _ _
 rw [e]
theorem impl_LO_len (ws : LN) (sc : Nat) (l : LN) : (p_frz ws sc l).1.length ≤ l.length ∧ (p_frz ws sc l).2.1.length ≤ l.length ∧ ((p_frz ws sc l).1.length = 0 → (p_frz ws sc l).2.1.length = 0) := by
 rw [impl_LO_val]
 obtain ⟨h1, h2⟩ := wfI_length ws 0 (evs l) (ods l)
 have h3 : (liftEI ws sc l).length = (l.length + 1) / 2 := by unfold liftEI; simp [h1, evs_length]
 have h4 : (liftOI ws sc l).length = l.length / 2 := by unfold liftOI; simp [h2, ods_length]
 have h5 := evs_length l
 have h6 := ods_length l
 cases !(p_f9z ws sc) <;> cases !(p_f14z l) <;> cases (((((ods l)).length : Int) : Int) == 0) <;> cases !((p_fhz ([liftEI ws sc l, liftOI ws sc l]))) <;> refine ⟨?_, ?_, fun h => ?_⟩ <;> simp only [cond_true, cond_false, List.length_nil] at * <;> omega
theorem impl_LO_ok (ws : LN) (sc : Nat) (l : LN) (h : (p_frz ws sc l).2.2 = true) : (p_frz ws sc l).1.length = (l.length + 1) / 2 ∧ (p_frz ws sc l).2.1.length = l.length / 2 := by
 rw [impl_LO_val] at h ⊢
 obtain ⟨h1, h2⟩ := wfI_length ws 0 (evs l) (ods l)
 have h3 : (liftEI ws sc l).length = (l.length + 1) / 2 := by unfold liftEI; simp [h1, evs_length]
 have h4 : (liftOI ws sc l).length = l.length / 2 := by unfold liftOI; simp [h2, ods_length]
 have h5 := evs_length l
 have h6 := ods_length l
 revert h
 cases !(p_f9z ws sc) <;> cases !(p_f14z l) <;> cases (((((ods l)).length : Int) : Int) == 0) <;> cases !((p_fhz ([liftEI ws sc l, liftOI ws sc l]))) <;> simp only [cond_true, cond_false] <;> intro h <;> first | exact ⟨h3, h4⟩ | exact ⟨h5, h6⟩ | cases h
/-! frz: function 31 -/
def E_frz : Env := envOf [(26, S_f9z), (48, S_f14z), (49, S_f4z), (50, S_f19z), (42, S_fhz)]
def F_frz : List Value → AHeap → (Value → AHeap → Prop) → Prop
 | [.agg ⟨[.slice na ya va, .float .f32 s_Scale]⟩, .slice ib ua sb], H, K => T_frz na ya va s_Scale ib ua sb H fun (qc : OA) (uc : Nat) (tc : Nat) (zd : OA) (ie : Nat) (fe : Nat) (r3 : Bool) (H' : AHeap) => K (.tuple #[.slice qc uc tc, .slice zd ie fe, .bool r3]) H'
 | _, _, _ => False
def S_frz : FSpec := { F := F_frz, quiet := false, tame := true }
theorem frz_vc (na : OA) (ya : Nat) (va : Nat) (s_Scale : Nat) (ib : OA) (ua : Nat) (sb : Nat) (H : AHeap) (K : Value → AHeap → Prop) : bodyL Try.prog E_frz Try.f31 [.agg #[.slice na ya va, .float .f32 s_Scale], .slice ib ua sb] H K =
 (Al [.slice na ya va, .float .f32 s_Scale] H fun b1 H1 => ∃ se : OA, ∃ ue : Nat, ∃ te : Nat, ∃ c2 : Nat,  rdN H1 b1 0 2 = some [.slice se ue te, .float .f32 c2] ∧ T_f9z se ue te c2 H1 fun (r1 : Bool) (H2 : AHeap) => Br (!r1) (K (.tuple #[.slice none 0 0, .slice none 0 0, .bool false]) H2) (T_f14z ib ua sb H2 fun (r2 : Bool) (H3 : AHeap) => Br (!r2) (K (.tuple #[.slice none 0 0, .slice none 0 0, .bool false]) H3) (T_f4z ib ua sb H3 fun (a1 : OA) (r3 : Nat) (r4 : Nat) (a2 : OA) (r5 : Nat) (r6 : Nat) (H4 : AHeap) => Br (((r5 : Int) : Int) == 0) (K (.tuple #[.slice a1 r3 r4, .slice a2 r5 r6, .bool true]) H4) (∃ nd : OA, ∃ yc : Nat, ∃ od : Nat,  rdC H4 b1 0 = some (.slice nd yc od) ∧ loopK (exL Try.prog E_frz (cl (cl (cr (cl (cr (cr (cr (cr (bodyC Try.f31))))))))) 30064771460 112 [(0, 388)]) (ud2 (.pointer (some ⟨b1, 0, none⟩) :: ud4 (.slice a1 r3 r4 :: .slice a2 r5 r6 :: ud23 (.slice nd yc od :: .int .i64 (yc : Int) :: .int .i64 0 :: ud45 [])))) H4 (blockQ 0 (seqQ (exL Try.prog E_frz (cr (cr (cr (cr (cr (bodyC Try.f31)))))) 112 112 []) (retK Try.prog Try.f31 K))))))) := by kernel_rfl
abbrev frz_P1 (a1 : OA) (a2 : OA) (b1 : Nat) (r3 : Nat) (r4 : Nat) (r5 : Nat) (r6 : Nat) (nd : OA) (od : Nat) (yc : Nat) (t34 : Int)  : List Value := (ud2 (.pointer (some ⟨b1, 0, none⟩) :: ud4 (.slice a1 r3 r4 :: .slice a2 r5 r6 :: ud23 (.slice nd yc od :: .int .i64 (yc : Int) :: .int .i64 t34 :: ud45 []))))
theorem frz_r1 (a1 : OA) (a2 : OA) (b1 : Nat) (r3 : Nat) (r4 : Nat) (r5 : Nat) (r6 : Nat) (nd : OA) (od : Nat) (yc : Nat) (t34 : Int)  (H : AHeap) (R : Post) : exL Try.prog E_frz (cl (cl (cr (cl (cr (cr (cr (cr (bodyC Try.f31))))))))) 30064771460 112 [(0, 388)] (frz_P1 a1 a2 b1 r3 r4 r5 r6 nd od yc t34) H R =
 (Br (decide ((t34 : Int) < (yc : Int))) ((0 : Int) ≤ t34 ∧ t34 < (yc : Int) ∧ ∃ b2 f1, (nd : OA) = some ⟨b2, f1, none⟩ ∧ ∃ x2 : Nat,  rdC H b2 (f1 + (t34 : Int).toNat * 1) = some (.float .f32 x2) ∧ T_f19z a1 r3 r4 a2 r5 r6 t34 x2 false H fun  (H5 : AHeap) => R .normal (ud2 (.pointer (some ⟨b1, 0, none⟩) :: ud4 (.slice a1 r3 r4 :: .slice a2 r5 r6 :: ud23 (.slice nd yc od :: .int .i64 (yc : Int) :: .int .i64 (IntKind.wrap .i64 (t34 + 1)) :: ud45 [])))) H5) (R (.exit 0) (ud2 (.pointer (some ⟨b1, 0, none⟩) :: ud4 (.slice a1 r3 r4 :: .slice a2 r5 r6 :: ud71 []))) H)) := by kernel_rfl
def frz_I1 (a1 : OA) (a2 : OA) (b1 : Nat) (r3 : Nat) (r4 : Nat) (r5 : Nat) (r6 : Nat) (nd : OA) (od : Nat) (yc : Nat) (Inv : Nat → Int → AHeap → Prop) : Nat → List Value → AHeap → Prop := fun μ tm H => ∃ (t34 : Int), tm = (frz_P1 a1 a2 b1 r3 r4 r5 r6 nd od yc t34) ∧ Inv μ t34 H
theorem frz_L1 (a1 : OA) (a2 : OA) (b1 : Nat) (r3 : Nat) (r4 : Nat) (r5 : Nat) (r6 : Nat) (nd : OA) (od : Nat) (yc : Nat) {Q : Post} (Inv : Nat → Int → AHeap → Prop) (ν : Nat) (t34 : Int)  (H : AHeap) (h0 : Inv ν t34 H)
  (hs : ∀ (μ : Nat) (t34 : Int)  (H : AHeap), Inv μ t34 H → exL Try.prog E_frz (cl (cl (cr (cl (cr (cr (cr (cr (bodyC Try.f31))))))))) 30064771460 112 [(0, 388)] (frz_P1 a1 a2 b1 r3 r4 r5 r6 nd od yc t34) H (loopQ (frz_I1 a1 a2 b1 r3 r4 r5 r6 nd od yc Inv) μ Q)) : loopK (exL Try.prog E_frz (cl (cl (cr (cl (cr (cr (cr (cr (bodyC Try.f31))))))))) 30064771460 112 [(0, 388)]) (frz_P1 a1 a2 b1 r3 r4 r5 r6 nd od yc t34) H Q :=
 ⟨frz_I1 a1 a2 b1 r3 r4 r5 r6 nd od yc Inv, ν, ⟨t34, rfl, h0⟩, fun μ tm H h => by obtain ⟨t34, rfl, hI⟩ := h; exact hs μ t34  H hI⟩
theorem frz_n1 {a1 : OA} {a2 : OA} {b1 : Nat} {r3 : Nat} {r4 : Nat} {r5 : Nat} {r6 : Nat} {nd : OA} {od : Nat} {yc : Nat} {Q : Post} {Inv : Nat → Int → AHeap → Prop} {μ : Nat} (μ' : Nat) {t34 : Int}  {H : AHeap} (hm : μ' < μ) (hI : Inv μ' t34 H) : loopQ (frz_I1 a1 a2 b1 r3 r4 r5 r6 nd od yc Inv) μ Q .normal (frz_P1 a1 a2 b1 r3 r4 r5 r6 nd od yc t34) H := ⟨μ', hm, t34, rfl, hI⟩
theorem frz_x1_0 (a1 : OA) (a2 : OA) (b1 : Nat) (r3 : Nat) (r4 : Nat) (r5 : Nat) (r6 : Nat) (H : AHeap) (K : Value → AHeap → Prop)  {I : Nat → List Value → AHeap → Prop} {μ : Nat} : loopQ I μ (blockQ 0 (seqQ (exL Try.prog E_frz (cr (cr (cr (cr (cr (bodyC Try.f31)))))) 112 112 []) (retK Try.prog Try.f31 K))) (.exit 0) (ud2 (.pointer (some ⟨b1, 0, none⟩) :: ud4 (.slice a1 r3 r4 :: .slice a2 r5 r6 :: ud71 []))) H =
 (loopK (exL Try.prog E_frz (cl (cl (cr (cl (cr (cr (cr (cr (cr (bodyC Try.f31)))))))))) 211106232533380 112 [(2, 388)]) (ud2 (.pointer (some ⟨b1, 0, none⟩) :: ud4 (.slice a1 r3 r4 :: .slice a2 r5 r6 :: ud37 (.int .i64 (r3 : Int) :: .int .i64 0 :: ud32 [])))) H (blockQ 2 (seqQ (exL Try.prog E_frz (cr (cr (cr (cr (cr (cr (bodyC Try.f31))))))) 112 112 []) (retK Try.prog Try.f31 K)))) := by kernel_rfl
abbrev frz_P2 (a1 : OA) (a2 : OA) (b1 : Nat) (r3 : Nat) (r4 : Nat) (r5 : Nat) (r6 : Nat) (t47 : Int)  : List Value := (ud2 (.pointer (some ⟨b1, 0, none⟩) :: ud4 (.slice a1 r3 r4 :: .slice a2 r5 r6 :: ud37 (.int .i64 (r3 : Int) :: .int .i64 t47 :: ud32 []))))
theorem frz_r2 (a1 : OA) (a2 : OA) (b1 : Nat) (r3 : Nat) (r4 : Nat) (r5 : Nat) (r6 : Nat) (t47 : Int)  (H : AHeap) (R : Post) : exL Try.prog E_frz (cl (cl (cr (cl (cr (cr (cr (cr (cr (bodyC Try.f31)))))))))) 211106232533380 112 [(2, 388)] (frz_P2 a1 a2 b1 r3 r4 r5 r6 t47) H R =
 (Br (decide ((t47 : Int) < (r3 : Int))) ((0 : Int) ≤ t47 ∧ t47 < (r3 : Int) ∧ ∃ b3 f2, (a1 : OA) = some ⟨b3, f2, none⟩ ∧ ∃ x3 : Nat,  rdC H b3 (f2 + (t47 : Int).toNat * 1) = some (.float .f32 x3) ∧ ∃ x4 : Nat,  rdC H b1 1 = some (.float .f32 x4) ∧ (0 : Int) ≤ t47 ∧ t47 < (r3 : Int) ∧ ∃ b4 f3, (a1 : OA) = some ⟨b4, f3, none⟩ ∧ isOwn H b4 ∧ (∃ l, rdN H b4 (f3 + (t47 : Int).toNat * 1) 1 = some l) ∧ Lt (setC H b4 (f3 + (t47 : Int).toNat * 1) (.float .f32 (fmul .f32 x3 x4))) fun H6 => R .normal (ud2 (.pointer (some ⟨b1, 0, none⟩) :: ud4 (.slice a1 r3 r4 :: .slice a2 r5 r6 :: ud37 (.int .i64 (r3 : Int) :: .int .i64 (IntKind.wrap .i64 (t47 + 1)) :: ud32 [])))) H6) (R (.exit 2) (ud2 (.pointer (some ⟨b1, 0, none⟩) :: ud4 (.slice a1 r3 r4 :: .slice a2 r5 r6 :: ud71 []))) H)) := by kernel_rfl
def frz_I2 (a1 : OA) (a2 : OA) (b1 : Nat) (r3 : Nat) (r4 : Nat) (r5 : Nat) (r6 : Nat) (Inv : Nat → Int → AHeap → Prop) : Nat → List Value → AHeap → Prop := fun μ tm H => ∃ (t47 : Int), tm = (frz_P2 a1 a2 b1 r3 r4 r5 r6 t47) ∧ Inv μ t47 H
theorem frz_L2 (a1 : OA) (a2 : OA) (b1 : Nat) (r3 : Nat) (r4 : Nat) (r5 : Nat) (r6 : Nat) {Q : Post} (Inv : Nat → Int → AHeap → Prop) (ν : Nat) (t47 : Int)  (H : AHeap) (h0 : Inv ν t47 H)
  (hs : ∀ (μ : Nat) (t47 : Int)  (H : AHeap), Inv μ t47 H → exL Try.prog E_frz (cl (cl (cr (cl (cr (cr (cr (cr (cr (bodyC Try.f31)))))))))) 211106232533380 112 [(2, 388)] (frz_P2 a1 a2 b1 r3 r4 r5 r6 t47) H (loopQ (frz_I2 a1 a2 b1 r3 r4 r5 r6 Inv) μ Q)) : loopK (exL Try.prog E_frz (cl (cl (cr (cl (cr (cr (cr (cr (cr (bodyC Try.f31)))))))))) 211106232533380 112 [(2, 388)]) (frz_P2 a1 a2 b1 r3 r4 r5 r6 t47) H Q :=
 ⟨frz_I2 a1 a2 b1 r3 r4 r5 r6 Inv, ν, ⟨t47, rfl, h0⟩, fun μ tm H h => by obtain ⟨t47, rfl, hI⟩ := h; exact hs μ t47  H hI⟩
theorem frz_n2 {a1 : OA} {a2 : OA} {b1 : Nat} {r3 : Nat} {r4 : Nat} {r5 : Nat} {r6 : Nat} {Q : Post} {Inv : Nat → Int → AHeap → Prop} {μ : Nat} (μ' : Nat) {t47 : Int}  {H : AHeap} (hm : μ' < μ) (hI : Inv μ' t47 H) : loopQ (frz_I2 a1 a2 b1 r3 r4 r5 r6 Inv) μ Q .normal (frz_P2 a1 a2 b1 r3 r4 r5 r6 t47) H := ⟨μ', hm, t47, rfl, hI⟩
theorem frz_x2_2 (a1 : OA) (a2 : OA) (b1 : Nat) (r3 : Nat) (r4 : Nat) (r5 : Nat) (r6 : Nat) (H : AHeap) (K : Value → AHeap → Prop)  {I : Nat → List Value → AHeap → Prop} {μ : Nat} : loopQ I μ (blockQ 2 (seqQ (exL Try.prog E_frz (cr (cr (cr (cr (cr (cr (bodyC Try.f31))))))) 112 112 []) (retK Try.prog Try.f31 K))) (.exit 2) (ud2 (.pointer (some ⟨b1, 0, none⟩) :: ud4 (.slice a1 r3 r4 :: .slice a2 r5 r6 :: ud71 []))) H =
 (loopK (exL Try.prog E_frz (cl (cl (cr (cl (cr (cr (cr (cr (cr (cr (bodyC Try.f31))))))))))) 3458764513820541316 112 [(4, 384)]) (ud2 (.pointer (some ⟨b1, 0, none⟩) :: ud4 (.slice a1 r3 r4 :: .slice a2 r5 r6 :: ud51 (.int .i64 (r5 : Int) :: .int .i64 0 :: ud18 [])))) H (blockQ 4 (seqQ (exL Try.prog E_frz (cr (cr (cr (cr (cr (cr (cr (bodyC Try.f31)))))))) 112 112 []) (retK Try.prog Try.f31 K)))) := by kernel_rfl
abbrev frz_P3 (a1 : OA) (a2 : OA) (b1 : Nat) (r3 : Nat) (r4 : Nat) (r5 : Nat) (r6 : Nat) (t61 : Int)  : List Value := (ud2 (.pointer (some ⟨b1, 0, none⟩) :: ud4 (.slice a1 r3 r4 :: .slice a2 r5 r6 :: ud51 (.int .i64 (r5 : Int) :: .int .i64 t61 :: ud18 []))))
theorem frz_r3 (a1 : OA) (a2 : OA) (b1 : Nat) (r3 : Nat) (r4 : Nat) (r5 : Nat) (r6 : Nat) (t61 : Int)  (H : AHeap) (R : Post) : exL Try.prog E_frz (cl (cl (cr (cl (cr (cr (cr (cr (cr (cr (bodyC Try.f31))))))))))) 3458764513820541316 112 [(4, 384)] (frz_P3 a1 a2 b1 r3 r4 r5 r6 t61) H R =
 (Br (decide ((t61 : Int) < (r5 : Int))) ((0 : Int) ≤ t61 ∧ t61 < (r5 : Int) ∧ ∃ b5 f4, (a2 : OA) = some ⟨b5, f4, none⟩ ∧ ∃ x5 : Nat,  rdC H b5 (f4 + (t61 : Int).toNat * 1) = some (.float .f32 x5) ∧ ∃ x6 : Nat,  rdC H b1 1 = some (.float .f32 x6) ∧ (0 : Int) ≤ t61 ∧ t61 < (r5 : Int) ∧ ∃ b6 f5, (a2 : OA) = some ⟨b6, f5, none⟩ ∧ isOwn H b6 ∧ (∃ l, rdN H b6 (f5 + (t61 : Int).toNat * 1) 1 = some l) ∧ Lt (setC H b6 (f5 + (t61 : Int).toNat * 1) (.float .f32 (fdiv .f32 x5 x6))) fun H7 => R .normal (ud2 (.pointer (some ⟨b1, 0, none⟩) :: ud4 (.slice a1 r3 r4 :: .slice a2 r5 r6 :: ud51 (.int .i64 (r5 : Int) :: .int .i64 (IntKind.wrap .i64 (t61 + 1)) :: ud18 [])))) H7) (R (.exit 4) (ud7 (.slice a1 r3 r4 :: .slice a2 r5 r6 :: ud71 [])) H)) := by kernel_rfl
def frz_I3 (a1 : OA) (a2 : OA) (b1 : Nat) (r3 : Nat) (r4 : Nat) (r5 : Nat) (r6 : Nat) (Inv : Nat → Int → AHeap → Prop) : Nat → List Value → AHeap → Prop := fun μ tm H => ∃ (t61 : Int), tm = (frz_P3 a1 a2 b1 r3 r4 r5 r6 t61) ∧ Inv μ t61 H
theorem frz_L3 (a1 : OA) (a2 : OA) (b1 : Nat) (r3 : Nat) (r4 : Nat) (r5 : Nat) (r6 : Nat) {Q : Post} (Inv : Nat → Int → AHeap → Prop) (ν : Nat) (t61 : Int)  (H : AHeap) (h0 : Inv ν t61 H)
  (hs : ∀ (μ : Nat) (t61 : Int)  (H : AHeap), Inv μ t61 H → exL Try.prog E_frz (cl (cl (cr (cl (cr (cr (cr (cr (cr (cr (bodyC Try.f31))))))))))) 3458764513820541316 112 [(4, 384)] (frz_P3 a1 a2 b1 r3 r4 r5 r6 t61) H (loopQ (frz_I3 a1 a2 b1 r3 r4 r5 r6 Inv) μ Q)) : loopK (exL Try.prog E_frz (cl (cl (cr (cl (cr (cr (cr (cr (cr (cr (bodyC Try.f31))))))))))) 3458764513820541316 112 [(4, 384)]) (frz_P3 a1 a2 b1 r3 r4 r5 r6 t61) H Q :=
 ⟨frz_I3 a1 a2 b1 r3 r4 r5 r6 Inv, ν, ⟨t61, rfl, h0⟩, fun μ tm H h => by obtain ⟨t61, rfl, hI⟩ := h; exact hs μ t61  H hI⟩
theorem frz_n3 {a1 : OA} {a2 : OA} {b1 : Nat} {r3 : Nat} {r4 : Nat} {r5 : Nat} {r6 : Nat} {Q : Post} {Inv : Nat → Int → AHeap → Prop} {μ : Nat} (μ' : Nat) {t61 : Int}  {H : AHeap} (hm : μ' < μ) (hI : Inv μ' t61 H) : loopQ (frz_I3 a1 a2 b1 r3 r4 r5 r6 Inv) μ Q .normal (frz_P3 a1 a2 b1 r3 r4 r5 r6 t61) H := ⟨μ', hm, t61, rfl, hI⟩
theorem frz_x3_4 (a1 : OA) (a2 : OA) (r3 : Nat) (r4 : Nat) (r5 : Nat) (r6 : Nat) (H : AHeap) (K : Value → AHeap → Prop)  {I : Nat → List Value → AHeap → Prop} {μ : Nat} : loopQ I μ (blockQ 4 (seqQ (exL Try.prog E_frz (cr (cr (cr (cr (cr (cr (cr (bodyC Try.f31)))))))) 112 112 []) (retK Try.prog Try.f31 K))) (.exit 4) (ud7 (.slice a1 r3 r4 :: .slice a2 r5 r6 :: ud71 [])) H =
 (Al [.slice a1 r3 r4, .slice a2 r5 r6] H fun b7 H8 => T_fhz (some ⟨b7, 0, none⟩) 2 1 H8 fun (r7 : Bool) (H9 : AHeap) => Br (!r7) (K (.tuple #[.slice none 0 0, .slice none 0 0, .bool false]) H9) (K (.tuple #[.slice a1 r3 r4, .slice a2 r5 r6, .bool true]) H9)) := by kernel_rfl
theorem E_frz_ok : ∀ g, FnOk Try.prog g (E_frz g) := FnOk.envOf (by
 intro x hx
 simp only [List.mem_cons, List.not_mem_nil, or_false] at hx
 rcases hx with rfl | rfl | rfl | rfl | rfl
 ·exact f9z_ok
 ·exact f14z_ok
 ·exact f4z_ok
 ·exact f19z_ok
 ·exact fhz_ok)
theorem ω20 {P : Prop} (h : P := by first | assumption | omega | (simp only [List.length_set, wLowI_length, wHighI_length]; first | rfl | assumption | omega)) : P := h
theorem frz_main (na : OA) (ya : Nat) (va : Nat) (s_Scale : Nat) (ib : OA) (ua : Nat) (sb : Nat) (H : AHeap) (K : Value → AHeap → Prop) (h : T_frz na ya va s_Scale ib ua sb H fun (qc : OA) (uc : Nat) (tc : Nat) (zd : OA) (ie : Nat) (fe : Nat) (r3 : Bool) (H' : AHeap) => K (.tuple #[.slice qc uc tc, .slice zd ie fe, .bool r3]) H') : bodyL Try.prog E_frz Try.f31 [.agg #[.slice na ya va, .float .f32 s_Scale], .slice ib ua sb] H K := by
 rw [frz_vc]
 obtain ⟨aa, da, i_s_Weights, i_list, bd_150, bd_151, hk⟩ := h
 obtain rfl := i_s_Weights.eqn
 obtain rfl := i_list.eqn
 have e : (p_frz aa s_Scale da) = _ := rfl
 have e := e.trans (p_frz_eq aa s_Scale da)
 have g0 := Grow.refl H
 refine Al.intro (fun b_1 H_1 hb_2 hl_3 g_4 o_5 => ?_)
 have l_7 := g_4.1
 have g_8 := g0.trans g_4
 have l_9 := g_8.1
 have w149 := o_5.lt
 refine ⟨na, aa.length, va, s_Scale, (o_5.rdN (Nat.le_of_ble_eq_true rfl)).trans rfl, ?_⟩
 refine T_f9z_i ⟨_, (i_s_Weights.grow g_8), ω0, fun  H_2 g_10  => ?_⟩
 have l_11 := g_10.1
 have g12 := g_8.trans g_10
 have l_13 := g12.1
 have o_14 := o_5.grow g_10
 have w15 := o_14.lt
 refine Br.intro (fun c_16 => ?_) (fun c_16 => ?_)
 ·have e := e.trans (cond_t c_16)
  have c_16n := nf_of_t c_16
  rw [e] at hk
  exact hk _ _ _ _ _ _ H_2 g12 ω18 ω18 (fun x y hx hy => by cases hx)
 ·have e := e.trans (cond_f c_16)
  have c_16n := nt_of_f c_16
  refine T_f14z_i ⟨_, (i_list.grow g12), ω0, fun  H_3 g17  => ?_⟩
  have l_18 := g17.1
  have g_19 := g12.trans g17
  have l_20 := g_19.1
  have o21 := o_14.grow g17
  have w22 := o21.lt
  refine Br.intro (fun c23 => ?_) (fun c23 => ?_)
  ·have e := e.trans (cond_t c23)
   have c_23n := nf_of_t c23
   rw [e] at hk
   exact hk _ _ _ _ _ _ H_3 g_19 ω18 ω18 (fun x y hx hy => by cases hx)
  ·have e := e.trans (cond_f c23)
   have c_23n := nt_of_f c23
   refine T_f4z_i ⟨_, (i_list.grow g_19), ω0, fun a24 n25 e26 a28 n29 e30 H_4 g33 r_27 r_31 p45 => ?_⟩
   have z32 := split_len da
   have l34 := g33.1
   have g35 := g_19.trans g33
   have l36 := g35.1
   have o37 := o21.grow g33
   have w38 := o37.lt
   obtain rfl := r_27.isL.eqn
   have u39 := r_27.up
   have u40 := r_27.lo
   obtain rfl := r_31.isL.eqn
   have u42 := r_31.up
   have u43 := r_31.lo
   refine Br.intro (fun c_46 => ?_) (fun c_46 => ?_)
   ·have e := e.trans (cond_t c_46)
    have c_46' := ieq_t c_46
    rw [e] at hk
    exact hk _ _ _ _ _ _ H_4 g35 (r_27.weak ω2) (r_31.weak ω2) p45
   ·have e := e.trans (cond_f c_46)
    have c_46' := ieq_f c_46
    refine ⟨na, aa.length, va, (o37.rdC _).trans rfl, ?_⟩
    refine frz_L1 _ _ _ _ _ _ _ _ _ _ (fun (μ : Nat) (t34 : Int) (H_5 : AHeap) => ∃ (y1_1 : LN), ∃ (y1_2 : LN), Own H_5 b_1 ([.slice na aa.length va, .float .f32 s_Scale]) ∧ OwnS fF H_5 H_3.length a24 (((evs da)).length) e26 y1_1 ∧ y1_1.length = ((evs da)).length ∧ OwnS fF H_5 H_3.length a28 (((ods da)).length) e30 y1_2 ∧ y1_2.length = ((ods da)).length ∧ H_4.length ≤ H_5.length ∧ H_4.length ≤ H_5.length ∧ Grow H H_5 ∧ (0 : Int) ≤ t34 ∧ t34 ≤ (aa.length : Int) ∧ (aa.length : Int) - t34 ≤ (μ : Int) ∧ p_frz aa s_Scale da = p_frz_l1 aa s_Scale da (μ + 1) t34 y1_1 y1_2) (Int.toNat ((aa.length : Int) - (0 : Int))) _ H_4 ?_ ?_
    ·exact ⟨_, _, o37, r_27, ω16, r_31, ω16, ω2, ω2, g35, ω6, ω6, ω2, e⟩
    ·intro μ t34  H_5 hI
     obtain ⟨y1_1, y1_2, o47, r_48, y49, r_50, y51, n52, n53, g54, v_55, v_56, hμ, e⟩ := hI
     rw [frz_r1]
     have e := e.trans (p_frz_l1_s aa s_Scale da μ t34 y1_1 y1_2)
     have w57 := o47.lt
     have l58 := g54.1
     refine Br.intro (fun c_59 => ?_) (fun c_59 => ?_)
     ·have e := e.trans (cond_t c_59)
      have c_59' := of_decide_eq_true c_59
      obtain ⟨b60, f61, q62⟩ := ((i_s_Weights.grow g54)).pos ω0
      refine ⟨by omega, by omega, b60, f61, q62, ?_⟩
      refine ⟨((aa).getD (t34 : Int).toNat 0), (i_s_Weights).rd g54 q62 ω2 _, ?_⟩
      refine T_f19z_i ⟨_, _, _, _, r_48, r_50, p45, ω0, ω0, ω14, ω14, ω14, (fun H_7 k63 o64 o65 => ?_)⟩
      obtain ⟨H_6, k66, k67⟩ := k63.split
      have l68 := k66.1
      have g69 := g54.keepA (fun x hx => by have := u40 x hx; omega) k66
      have l70 := g69.1
      have o71 := o47.keepA (fun x hx => by have := u40 x hx; have := u39 x hx; omega) k66
      have w72 := o71.lt
      have r73 := r_50.keepA (p45) k66
      have l74 := k67.1
      have g75 := g69.keepA (fun x hx => by have := u43 x hx; omega) k67
      have l76 := g75.1
      have o77 := o71.keepA (fun x hx => by have := u43 x hx; have := u42 x hx; omega) k67
      have w78 := o77.lt
      rw [show IntKind.wrap .i64 (t34 + 1) = (t34 + 1) from wrap64 ω2 ω2]
      refine frz_n1 (μ - 1) ω15 ⟨_, _, o77, o64, ω20, o65, ω20, ω2, ω2, g75, ω1, ω1, ω15, ω13⟩
     ·have e := e.trans (cond_f c_59)
      have c_59' := of_decide_eq_false c_59
      rw [frz_x1_0]
      refine frz_L2 _ _ _ _ _ _ _ (fun (μ2 : Nat) (t47 : Int) (H_8 : AHeap) => ∃ (y2_1 : LN), ∃ (y2_2 : LN), Own H_8 b_1 ([.slice na aa.length va, .float .f32 s_Scale]) ∧ OwnS fF H_8 H_3.length a24 (((evs da)).length) e26 y2_1 ∧ y2_1.length = ((evs da)).length ∧ OwnS fF H_8 H_3.length a28 (((ods da)).length) e30 y2_2 ∧ y2_2.length = ((ods da)).length ∧ H_4.length ≤ H_8.length ∧ H_4.length ≤ H_8.length ∧ Grow H H_8 ∧ (0 : Int) ≤ t47 ∧ t47 ≤ (((evs da)).length : Int) ∧ (((evs da)).length : Int) - t47 ≤ (μ2 : Int) ∧ p_frz aa s_Scale da = p_frz_l2 aa s_Scale da t34 y1_1 y1_2 (fun (t47 : Int) (y2_1 : LN) (y2_2 : LN) => (p_frz_l3 aa s_Scale da t34 y1_1 y1_2 t47 y2_1 y2_2 (fun (t61 : Int) (y3_1 : LN) => (bif !((p_fhz ([y2_1, y3_1]))) then ([], [], false) else (y2_1, y3_1, true))) (Int.toNat ((((ods da)).length : Int) - (0 : Int)) + 1) (0 : Int) y2_2)) (μ2 + 1) t47 y2_1 y2_2) (Int.toNat ((((evs da)).length : Int) - (0 : Int))) _ H_5 ?_ ?_
      ·exact ⟨_, _, o47, r_48, ω16, r_50, ω16, ω2, ω2, g54, ω6, ω6, ω2, e⟩
      ·intro μ2 t47  H_8 hI
       obtain ⟨y2_1, y2_2, o79, r80, y81, r82, y83, n84, n85, g86, v87, v88, hμ, e⟩ := hI
       rw [frz_r2]
       have e := e.trans (p_frz_l2_s aa s_Scale da t34 y1_1 y1_2 (fun (t47 : Int) (y2_1 : LN) (y2_2 : LN) => (p_frz_l3 aa s_Scale da t34 y1_1 y1_2 t47 y2_1 y2_2 (fun (t61 : Int) (y3_1 : LN) => (bif !((p_fhz ([y2_1, y3_1]))) then ([], [], false) else (y2_1, y3_1, true))) (Int.toNat ((((ods da)).length : Int) - (0 : Int)) + 1) (0 : Int) y2_2)) μ2 t47 y2_1 y2_2)
       have w89 := o79.lt
       have l90 := g86.1
       refine Br.intro (fun c91 => ?_) (fun c91 => ?_)
       ·have e := e.trans (cond_t c91)
        have c_91' := of_decide_eq_true c91
        obtain ⟨b92, f93, q94⟩ := (r80.isL).pos ω0
        refine ⟨by omega, by omega, b92, f93, q94, ?_⟩
        refine ⟨((y2_1).getD (t47 : Int).toNat 0), (r80.isL).rd (Grow.refl _) q94 ω2 _, ?_⟩
        refine ⟨s_Scale, (o79.rdC _).trans rfl, ?_⟩
        obtain ⟨b95, f96, q97⟩ := (r80.isL).pos ω0
        refine ⟨by omega, by omega, b95, f96, q97, ?_⟩
        refine Lt.setS r80 q97 ω4 (fun H_9 hl_98 o100 k99 => ?_)
        have l101 := k99.1
        have g102 := g86.keepA (fun x hx => by have := u40 x hx; omega) k99
        have l103 := g102.1
        have o104 := o79.keepA (fun x hx => by have := u40 x hx; have := u39 x hx; omega) k99
        have w105 := o104.lt
        have r106 := r82.keepA (p45) k99
        rw [show IntKind.wrap .i64 (t47 + 1) = (t47 + 1) from wrap64 ω2 ω2]
        refine frz_n2 (μ2 - 1) ω15 ⟨_, _, o104, o100, ω20, r106, ω20, ω2, ω2, g102, ω1, ω1, ω15, ω23⟩
       ·have e := e.trans (cond_f c91)
        have c_91' := of_decide_eq_false c91
        rw [frz_x2_2]
        refine frz_L3 _ _ _ _ _ _ _ (fun (μ3 : Nat) (t61 : Int) (H_10 : AHeap) => ∃ (y3_1 : LN), Own H_10 b_1 ([.slice na aa.length va, .float .f32 s_Scale]) ∧ OwnS fF H_10 H_3.length a24 (((evs da)).length) e26 y2_1 ∧ OwnS fF H_10 H_3.length a28 (((ods da)).length) e30 y3_1 ∧ y3_1.length = ((ods da)).length ∧ H_4.length ≤ H_10.length ∧ H_4.length ≤ H_10.length ∧ Grow H H_10 ∧ (0 : Int) ≤ t61 ∧ t61 ≤ (((ods da)).length : Int) ∧ (((ods da)).length : Int) - t61 ≤ (μ3 : Int) ∧ p_frz aa s_Scale da = p_frz_l3 aa s_Scale da t34 y1_1 y1_2 t47 y2_1 y2_2 (fun (t61 : Int) (y3_1 : LN) => (bif !((p_fhz ([y2_1, y3_1]))) then ([], [], false) else (y2_1, y3_1, true))) (μ3 + 1) t61 y3_1) (Int.toNat ((((ods da)).length : Int) - (0 : Int))) _ H_8 ?_ ?_
        ·exact ⟨_, o79, r80, r82, ω16, ω2, ω2, g86, ω6, ω6, ω2, e⟩
        ·intro μ3 t61  H_10 hI
         obtain ⟨y3_1, o107, r108, r109, y110, n111, n112, g113, v114, v115, hμ, e⟩ := hI
         rw [frz_r3]
         have e := e.trans (p_frz_l3_s aa s_Scale da t34 y1_1 y1_2 t47 y2_1 y2_2 (fun (t61 : Int) (y3_1 : LN) => (bif !((p_fhz ([y2_1, y3_1]))) then ([], [], false) else (y2_1, y3_1, true))) μ3 t61 y3_1)
         have w116 := o107.lt
         have l117 := g113.1
         refine Br.intro (fun c118 => ?_) (fun c118 => ?_)
         ·have e := e.trans (cond_t c118)
          have c_118' := of_decide_eq_true c118
          obtain ⟨b119, f120, q121⟩ := (r109.isL).pos ω0
          refine ⟨by omega, by omega, b119, f120, q121, ?_⟩
          refine ⟨((y3_1).getD (t61 : Int).toNat 0), (r109.isL).rd (Grow.refl _) q121 ω2 _, ?_⟩
          refine ⟨s_Scale, (o107.rdC _).trans rfl, ?_⟩
          obtain ⟨b122, f123, q124⟩ := (r109.isL).pos ω0
          refine ⟨by omega, by omega, b122, f123, q124, ?_⟩
          refine Lt.setS r109 q124 ω4 (fun H_11 hl_125 o127 k126 => ?_)
          have l128 := k126.1
          have g129 := g113.keepA (fun x hx => by have := u43 x hx; omega) k126
          have l130 := g129.1
          have o131 := o107.keepA (fun x hx => by have := u43 x hx; have := u42 x hx; omega) k126
          have w132 := o131.lt
          have r133 := r108.keepA (p45).symm k126
          rw [show IntKind.wrap .i64 (t61 + 1) = (t61 + 1) from wrap64 ω2 ω2]
          refine frz_n3 (μ3 - 1) ω15 ⟨_, o131, r133, o127, ω20, ω2, ω2, g129, ω1, ω1, ω15, (by rw [show μ3 - 1 + 1 = μ3 from by first | omega]; exact e)⟩
         ·have e := e.trans (cond_f c118)
          have c_118' := of_decide_eq_false c118
          rw [frz_x3_4]
          refine Al.intro (fun b134 H_12 hb_135 hl_136 g137 o138 => ?_)
          have l140 := g137.1
          have g141 := g113.trans g137
          have l142 := g141.1
          have o143 := o107.grow g137
          have w144 := o143.lt
          have r145 := r108.grow g137
          have r146 := r109.grow g137
          have w148 := o138.lt
          refine T_fhz_i ⟨[y2_1, y3_1], ⟨_, o138.rdAll rfl, LLc.cons r145.isL (LLc.cons r146.isL (LLc.nil _ _))⟩, ω0, ω10, ?_⟩
          refine Br.intro (fun c147 => ?_) (fun c147 => ?_)
          ·have e := e.trans (cond_t c147)
           have c_147n := nf_of_t c147
           rw [e] at hk
           exact hk _ _ _ _ _ _ H_12 g141 ω18 ω18 (fun x y hx hy => by cases hx)
          ·have e := e.trans (cond_f c147)
           have c_147n := nt_of_f c147
           rw [e] at hk
           exact hk _ _ _ _ _ _ H_12 g141 (r145.weak ω2) (r146.weak ω2) p45
theorem frz_ok : FnOk Try.prog 31 S_frz := by
 refine FnOk.body mix_ok E_frz_ok Try.func31 rfl ω9 ω9 ?_ ?_ ?_ ?_ ?_
 ·intro args H K K' h hk
  simp only [S_frz] at *
  unfold F_frz at *
  split at hk
  ·obtain ⟨aa, da, i_s_Weights, i_list, bd_150, bd_151, k⟩ := hk
   exact ⟨aa, da, i_s_Weights, i_list, bd_150, bd_151, (fun qc uc tc zd ie fe H' gg ow0 ow1 sp0_1 => h _ _ (k qc uc tc zd ie fe H' gg ow0 ow1 sp0_1))⟩
  ·exact hk.elim
 ·intro hq; cases hq
 ·intro args H K hk
  simp only [S_frz] at *
  unfold F_frz at *
  split at hk
  ·obtain ⟨aa, da, i_s_Weights, i_list, bd_150, bd_151, k⟩ := hk
   exact liveS2 fun a n e a2 n2 e2 H1 g o o2 sp => ⟨_, _, k a n e a2 n2 e2 H1 g o o2 sp⟩
  ·exact hk.elim
 ·intro _ args H K hk
  simp only [S_frz] at *
  unfold F_frz at *
  split at hk
  ·obtain ⟨aa, da, i_s_Weights, i_list, bd_150, bd_151, k⟩ := hk
   exact ⟨aa, da, i_s_Weights, i_list, bd_150, bd_151, (fun qc uc tc zd ie fe H' gg ow0 ow1 sp0_1 => ⟨gg, k qc uc tc zd ie fe H' gg ow0 ow1 sp0_1⟩)⟩
  ·exact hk.elim
 ·have mm := @frz_main
  have ml := fun (args : List Value) (H : AHeap) (K : Value → AHeap → Prop) => bodyL_body (P := Try.prog) (env := E_frz ) (fn := Try.f31) (args := args) (H := H) (K := K) E_frz_ok 
  revert mm ml
  generalize bodyK Try.prog E_frz Try.f31 = Q
  generalize bodyL Try.prog E_frz Try.f31 = QL
  intro mm ml args H K hk
  simp only [S_frz] at *
  unfold F_frz at *
  split at hk
  ·exact ml _ H K (mm _ _ _ _ _ _ _ H K hk)
  ·exact hk.elim
def p_f2z (me : LN) (cc : LN) (cap0p_Scale : Nat) : LN × Bool := (((p_frz cc cap0p_Scale me).1 ++ (p_frz cc cap0p_Scale me).2.1), (p_frz cc cap0p_Scale me).2.2)
def T_f2z (gf : OA) (jf : Nat) (pf : Nat) (cap0 : Nat) (H : AHeap) (K : OA → Nat → Nat → Bool → AHeap → Prop) : Prop := ∃ (cd : OA), ∃ (vd : Nat), ∃ (td : Nat), ∃ (cap0p_Scale : Nat), ∃ (me : LN), ∃ (cc : LN), rdN H cap0 0 2 = some [.slice cd vd td, .float .f32 cap0p_Scale] ∧ IsL fF H gf jf me ∧ IsL fF H cd vd cc ∧ me.length < 1073741824 ∧ cc.length < 1073741824 ∧ ((∀ (qc : OA) (uc tc : Nat), ∀ H' : AHeap, Grow H H' → OwnS fF H' H.length qc uc tc ((p_f2z me cc cap0p_Scale).1) → K qc uc tc ((p_f2z me cc cap0p_Scale).2) H'))
theorem own_nil {f : Nat → Value} {H : AHeap} {lo n e : Nat} {a : OA} {xs : LN} (h : OwnS f H lo a n e xs) : (a = none ∧ xs = []) ∨ a ≠ none := by
 obtain ⟨_, ⟨h1, h2⟩ | ⟨b, h1, _⟩⟩ := h
 ·exact .inl ⟨h1, h2⟩
 ·exact .inr (by rw [h1]; simp)
/-! f2z: function 30 -/
def E_f2z : Env := envOf [(999997, tameMark), (31, S_frz)]
def F_f2z : List Value → AHeap → (Value → AHeap → Prop) → Prop
 | [.slice gf jf pf, .pointer (some ⟨cap0, 0, none⟩)], H, K => T_f2z gf jf pf cap0 H fun (qc : OA) (uc : Nat) (tc : Nat) (r2 : Bool) (H' : AHeap) => K (.tuple #[.slice qc uc tc, .bool r2]) H'
 | _, _, _ => False
def S_f2z : FSpec := { F := F_f2z, quiet := false, tame := true }
theorem f2z_vc (gf : OA) (jf : Nat) (pf : Nat) (cap0 : Nat) (H : AHeap) (K : Value → AHeap → Prop) : bodyL Try.prog E_f2z Try.f30 [.slice gf jf pf, .pointer (some ⟨cap0, 0, none⟩)] H K =
 (∃ se : OA, ∃ ue : Nat, ∃ te : Nat, ∃ c2 : Nat,  rdN H cap0 0 2 = some [.slice se ue te, .float .f32 c2] ∧ T_frz se ue te c2 gf jf pf H fun (a1 : OA) (r1 : Nat) (r2 : Nat) (a2 : OA) (r3 : Nat) (r4 : Nat) (r5 : Bool) (H1 : AHeap) => nilApp Try.prog 22 (.slice a1 r1 r2) (.slice a2 r3 r4) H1 (fun (v1 : Value) (H3 : AHeap) => K (.tuple #[v1, .bool r5]) H3) ∨ ∃ o1 w1 : List Value, ownB H1 a1 r1 r2 1 = some o1 ∧ rdS H1 a2 (r3 * 1) = some w1 ∧ ((a1 : OA) = none → 0 < (r3 : Nat)) ∧ (r1 : Nat) + r3 < most ∧ Ap H1 (killB H1 a1 ++ [some ⟨o1 ++ w1, true⟩]) fun b1 H2 => K (.tuple #[.slice (some ⟨b1, 0, none⟩) (r1 + r3) 1, .bool r5]) H2) := by kernel_rfl
theorem E_f2z_ok : ∀ g, FnOk Try.prog g (E_f2z g) := FnOk.envOf (by
 intro x hx
 simp only [List.mem_cons, List.not_mem_nil, or_false] at hx
 rcases hx with rfl | rfl
 ·exact tameMark_ok _
 ·exact frz_ok)
theorem f2z_main (gf : OA) (jf : Nat) (pf : Nat) (cap0 : Nat) (H : AHeap) (K : Value → AHeap → Prop) (h : T_f2z gf jf pf cap0 H fun (qc : OA) (uc : Nat) (tc : Nat) (r2 : Bool) (H' : AHeap) => K (.tuple #[.slice qc uc tc, .bool r2]) H') : bodyL Try.prog E_f2z Try.f30 [.slice gf jf pf, .pointer (some ⟨cap0, 0, none⟩)] H K := by
 rw [f2z_vc]
 obtain ⟨cd, vd, td, cap0p_Scale, me, cc, i_cap0, i_row, i_cap0p_Weights, bd_31, bd_32, hk⟩ := h
 obtain rfl := i_row.eqn
 obtain rfl := i_cap0p_Weights.eqn
 have hl := impl_LO_len cc cap0p_Scale me
 refine ⟨cd, cc.length, td, cap0p_Scale, i_cap0, ?_⟩
 refine T_frz_i ⟨_, _, i_cap0p_Weights, i_row, bd_32, bd_31, fun a1 n1 e1 a2 n2 e2 H1 g1 r1 r2 sp => ?_⟩
 have en1 := r1.1
 have en2 := r2.1
 have p1 : (p_f2z me cc cap0p_Scale).1 = (p_frz cc cap0p_Scale me).1 ++ (p_frz cc cap0p_Scale me).2.1 := rfl
 have p2 : (p_f2z me cc cap0p_Scale).2 = (p_frz cc cap0p_Scale me).2.2 := rfl
 rw [p1, p2] at hk
 generalize (p_frz cc cap0p_Scale me).1 = E at *
 generalize (p_frz cc cap0p_Scale me).2.1 = O at *
 generalize (p_frz cc cap0p_Scale me).2.2 = B at *
 rcases own_nil r1 with ⟨z1, z2⟩ | z1
 ·left
  have hO : O = [] := List.length_eq_zero_iff.1 (hl.2.2 (by rw [z2]; rfl))
  subst z1; subst z2; subst hO
  obtain rfl : n1 = 0 := by simpa using en1
  obtain rfl : n2 = 0 := by simpa using en2
  show K _ _
  exact hk none 0 0 H1 g1 (OwnS.nil _ _ _ _)
 ·right
  refine ⟨_, _, r1.ownB, (isl_rdS r2.isL), (fun h => absurd h z1), ω21, ?_⟩
  refine Ap.appS r1 rfl rfl (fun b H2 q hl2 o k2 => ?_)
  have g2 := g1.keepA (fun x hx => by have := r1.lo x hx; omega) k2
  have := g1.1
  exact hk _ _ _ H2 g2 (o.ownS (by rw [List.length_append]; omega) ω2)
theorem f2z_ok : FnOk Try.prog 30 S_f2z := by
 refine FnOk.body mix_ok E_f2z_ok Try.func30 rfl ω9 ω9 ?_ ?_ ?_ ?_ ?_
 ·intro args H K K' h hk
  simp only [S_f2z] at *
  unfold F_f2z at *
  split at hk
  ·obtain ⟨cd, vd, td, cap0p_Scale, me, cc, i_cap0, i_row, i_cap0p_Weights, bd_31, bd_32, k⟩ := hk
   exact ⟨cd, vd, td, cap0p_Scale, me, cc, i_cap0, i_row, i_cap0p_Weights, bd_31, bd_32, (fun qc uc tc H' gg ow0 => h _ _ (k qc uc tc H' gg ow0))⟩
  ·exact hk.elim
 ·intro hq; cases hq
 ·intro args H K hk
  simp only [S_f2z] at *
  unfold F_f2z at *
  split at hk
  ·obtain ⟨cd, vd, td, cap0p_Scale, me, cc, i_cap0, i_row, i_cap0p_Weights, bd_31, bd_32, k⟩ := hk
   exact liveS fun a n e H1 g o => ⟨_, _, k a n e H1 g o⟩
  ·exact hk.elim
 ·intro _ args H K hk
  simp only [S_f2z] at *
  unfold F_f2z at *
  split at hk
  ·obtain ⟨cd, vd, td, cap0p_Scale, me, cc, i_cap0, i_row, i_cap0p_Weights, bd_31, bd_32, k⟩ := hk
   exact ⟨cd, vd, td, cap0p_Scale, me, cc, i_cap0, i_row, i_cap0p_Weights, bd_31, bd_32, (fun qc uc tc H' gg ow0 => ⟨gg, k qc uc tc H' gg ow0⟩)⟩
  ·exact hk.elim
 ·have mm := @f2z_main
  have ml := fun (args : List Value) (H : AHeap) (K : Value → AHeap → Prop) => bodyL_body (P := Try.prog) (env := E_f2z ) (fn := Try.f30) (args := args) (H := H) (K := K) E_f2z_ok 
  revert mm ml
  generalize bodyK Try.prog E_f2z Try.f30 = Q
  generalize bodyL Try.prog E_f2z Try.f30 = QL
  intro mm ml args H K hk
  simp only [S_f2z] at *
  unfold F_f2z at *
  split at hk
  ·exact ml _ H K (mm _ _ _ _ H K hk)
  ·exact hk.elim
def ChOk (env : Env) (x : Value) (H0 : AHeap) (rb fb : Nat) (a : OA) (W : Int) (m : Nat) (g : Nat → LN × Bool) : Prop :=
 ∀ (y : Nat), y < m → ∀ (H : AHeap), Keep2 (some ⟨rb, 0, none⟩) (some ⟨fb, 0, none⟩) H0 H → ∀ K : Value → AHeap → Prop,
  (∀ (a' : OA) (n' e' : Nat) (H' : AHeap), Grow H H' → OwnS fF H' H.length a' n' e' (g y).1 → K (.tuple #[.slice a' n' e', .bool (g y).2]) H') →
  callV env x [.slice ((a : OA).map fun a => ⟨a.block, a.off + ((y : Int) * W).toNat * 1, none⟩) ((((y : Int) + 1) * W - (y : Int) * W).toNat) 0] H K
def RowsDone (H0 H : AHeap) (rb fb k m : Nat) (g : Nat → LN × Bool) : Prop :=
 Keep2 (some ⟨rb, 0, none⟩) (some ⟨fb, 0, none⟩) H0 H ∧ ∃ rs fs : List Value, Own H rb rs ∧ Own H fb fs ∧ rs.length = m ∧ fs.length = m ∧
  ∀ i, i < k → fs[i]? = some (.bool (g i).2) ∧ ∃ (a : OA) (n e : Nat), rs[i]? = some (.slice a n e) ∧ IsL fF H a n (g i).1 ∧ ∀ x, a = some x → H0.length ≤ x.block
theorem Own.keep2 {H H' : AHeap} {b rb fb : Nat} {cs : List Value} (h : Own H b cs) (h1 : rb ≠ b) (h2 : fb ≠ b) (k : Keep2 (some ⟨rb, 0, none⟩) (some ⟨fb, 0, none⟩) H H') : Own H' b cs :=
 (k.2 b h.lt (fun x hx => by cases hx; exact h1) (fun x hx => by cases hx; exact h2)).trans h
theorem IsL.keepB {H H' : AHeap} {a : OA} {n : Nat} {xs : LN} (h : IsL fF H a n xs) (hk : ∀ x, a = some x → H'[x.block]? = H[x.block]?) : IsL fF H' a n xs := by
 unfold IsL rdS at *
 cases n with
 | zero => exact h
 | succ n =>
  cases a with
  | none => exact h
  | some x =>
   have := hk x rfl
   obtain ⟨b, off, sub⟩ := x
   cases sub with
   | none => simp only [rdN, rdB] at h ⊢; rw [this]; exact h
   | some _ => exact h
theorem extV0 {u v : Value} {K : Value → Prop} : extV (.tuple #[u, v]) 0 K = K u := rfl
theorem extV1 {u v : Value} {K : Value → Prop} : extV (.tuple #[u, v]) 1 K = K v := rfl
theorem row_small {k W : Int} (h1 : 0 ≤ k) (h2 : k ≤ 17) (h3 : 1 ≤ W) (h4 : W ≤ 16) : 0 ≤ k * W ∧ k * W ≤ 272 := by
 constructor
 ·exact Int.mul_nonneg h1 ω2
 ·have := Int.mul_le_mul h2 h4 ω2 ω2
  omega
/-! fuz: function 45 -/
def E_fuz : Env := envOf [(999998, tameMark), (30, S_f2z)]
def S_fuz : FSpec := { F := bodyK Try.prog E_fuz Try.f45, quiet := false, tame := false }
theorem E_fuz_ok : ∀ g, FnOk Try.prog g (E_fuz g) := FnOk.envOf (by
 intro x hx
 simp only [List.mem_cons, List.not_mem_nil, or_false] at hx
 rcases hx with rfl | rfl
 ·exact tameMark_ok _
 ·exact f2z_ok)
theorem fuz_ok : FnOk Try.prog 45 S_fuz := FnOkX.clear mix_ok E_fuz_ok Try.func45 rfl ω9 ω9
theorem fuz_vc (cap0 : Nat) (cap1 : Nat) (cap2 : Nat) (cap3 : Nat) (cap4 : Nat) (cap5 : Nat) (H : AHeap) (K : Value → AHeap → Prop) : bodyL Try.prog E_fuz Try.f45 [.pointer (some ⟨cap0, 0, none⟩), .pointer (some ⟨cap1, 0, none⟩), .pointer (some ⟨cap2, 0, none⟩), .pointer (some ⟨cap3, 0, none⟩), .pointer (some ⟨cap4, 0, none⟩), .pointer (some ⟨cap5, 0, none⟩)] H K =
 (∃ x1 : Int,  rdC H cap0 0 = some (.int .i64 x1) ∧ loopK (exL Try.prog E_fuz (cl (cl (cr (bodyC Try.f45)))) 126 0 [(0, 0)]) (ud :: .pointer (some ⟨cap1, 0, none⟩) :: .pointer (some ⟨cap2, 0, none⟩) :: .pointer (some ⟨cap3, 0, none⟩) :: .pointer (some ⟨cap4, 0, none⟩) :: .pointer (some ⟨cap5, 0, none⟩) :: .int .i64 x1 :: ud31 []) H (blockQ 0 (retK Try.prog Try.f45 K))) := by kernel_rfl
abbrev fuz_P1 (cap1 : Nat) (cap2 : Nat) (cap3 : Nat) (cap4 : Nat) (cap5 : Nat) (y : Int)  : List Value := (ud :: .pointer (some ⟨cap1, 0, none⟩) :: .pointer (some ⟨cap2, 0, none⟩) :: .pointer (some ⟨cap3, 0, none⟩) :: .pointer (some ⟨cap4, 0, none⟩) :: .pointer (some ⟨cap5, 0, none⟩) :: .int .i64 y :: ud31 [])
theorem fuz_r1 (cap1 : Nat) (cap2 : Nat) (cap3 : Nat) (cap4 : Nat) (cap5 : Nat) (y : Int)  (H : AHeap) (R : Post) : exL Try.prog E_fuz (cl (cl (cr (bodyC Try.f45)))) 126 0 [(0, 0)] (fuz_P1 cap1 cap2 cap3 cap4 cap5 y) H R =
 (∃ x2 : Int,  rdC H cap1 1 = some (.int .i64 x2) ∧ Br (decide ((y : Int) < x2)) (∃ x3 : Int,  rdC H cap1 0 = some (.int .i64 x3) ∧ ∃ x4 : Int,  rdC H cap1 0 = some (.int .i64 x4) ∧ ∃ yg : OA, ∃ zg : Nat, ∃ ah : Nat,  rdC H cap1 2 = some (.slice yg zg ah) ∧ ∃ x6 : Value,  rdC H cap3 0 = some (x6) ∧ ∃ vf : OA, ∃ nf : Nat, ∃ ug : Nat,  rdC H cap5 0 = some (.slice vf nf ug) ∧ ∃ xf : OA, ∃ yf : Nat, ∃ vg : Nat,  rdC H cap4 0 = some (.slice xf yf vg) ∧ (0 : Int) ≤ IntKind.wrap .i64 (y * x4) ∧ IntKind.wrap .i64 (y * x4) ≤ IntKind.wrap .i64 ((IntKind.wrap .i64 (y + 1)) * x3) ∧ IntKind.wrap .i64 ((IntKind.wrap .i64 (y + 1)) * x3) ≤ (zg : Int) ∧ chk (valT E_fuz x6) (callV E_fuz x6 [.slice ((yg : OA).map fun a => ⟨a.block, a.off + (IntKind.wrap .i64 (y * x4) : Int).toNat * 1, none⟩) (((IntKind.wrap .i64 ((IntKind.wrap .i64 (y + 1)) * x3) : Int) - IntKind.wrap .i64 (y * x4)).toNat) 0] H fun (w1 : Value) (H1 : AHeap) => extV w1 0 fun (w2 : Value) => extV w1 1 fun (w3 : Value) => (0 : Int) ≤ y ∧ y < (yf : Int) ∧ ∃ b1 f1, (xf : OA) = some ⟨b1, f1, none⟩ ∧ stV w2 H1 b1 (f1 + (y : Int).toNat * 1) fun (H2 : AHeap) => (0 : Int) ≤ y ∧ y < (nf : Int) ∧ ∃ b2 f2, (vf : OA) = some ⟨b2, f2, none⟩ ∧ stV w3 H2 b2 (f2 + (y : Int).toNat * 1) fun (H3 : AHeap) => ∃ x9 : Int,  rdC H3 cap2 0 = some (.int .i64 x9) ∧ R .normal (ud :: .pointer (some ⟨cap1, 0, none⟩) :: .pointer (some ⟨cap2, 0, none⟩) :: .pointer (some ⟨cap3, 0, none⟩) :: .pointer (some ⟨cap4, 0, none⟩) :: .pointer (some ⟨cap5, 0, none⟩) :: .int .i64 (IntKind.wrap .i64 (y + x9)) :: ud31 []) H3)) (R (.exit 0) (ud38 []) H)) := by kernel_rfl
def fuz_I1 (cap1 : Nat) (cap2 : Nat) (cap3 : Nat) (cap4 : Nat) (cap5 : Nat) (Inv : Nat → Int → AHeap → Prop) : Nat → List Value → AHeap → Prop := fun μ tm H => ∃ (y : Int), tm = (fuz_P1 cap1 cap2 cap3 cap4 cap5 y) ∧ Inv μ y H
theorem fuz_L1 (cap1 : Nat) (cap2 : Nat) (cap3 : Nat) (cap4 : Nat) (cap5 : Nat) {Q : Post} (Inv : Nat → Int → AHeap → Prop) (ν : Nat) (y : Int)  (H : AHeap) (h0 : Inv ν y H)
  (hs : ∀ (μ : Nat) (y : Int)  (H : AHeap), Inv μ y H → exL Try.prog E_fuz (cl (cl (cr (bodyC Try.f45)))) 126 0 [(0, 0)] (fuz_P1 cap1 cap2 cap3 cap4 cap5 y) H (loopQ (fuz_I1 cap1 cap2 cap3 cap4 cap5 Inv) μ Q)) : loopK (exL Try.prog E_fuz (cl (cl (cr (bodyC Try.f45)))) 126 0 [(0, 0)]) (fuz_P1 cap1 cap2 cap3 cap4 cap5 y) H Q :=
 ⟨fuz_I1 cap1 cap2 cap3 cap4 cap5 Inv, ν, ⟨y, rfl, h0⟩, fun μ tm H h => by obtain ⟨y, rfl, hI⟩ := h; exact hs μ y  H hI⟩
theorem fuz_n1 {cap1 : Nat} {cap2 : Nat} {cap3 : Nat} {cap4 : Nat} {cap5 : Nat} {Q : Post} {Inv : Nat → Int → AHeap → Prop} {μ : Nat} (μ' : Nat) {y : Int}  {H : AHeap} (hm : μ' < μ) (hI : Inv μ' y H) : loopQ (fuz_I1 cap1 cap2 cap3 cap4 cap5 Inv) μ Q .normal (fuz_P1 cap1 cap2 cap3 cap4 cap5 y) H := ⟨μ', hm, y, rfl, hI⟩
theorem fuz_x1_0  (H : AHeap) (K : Value → AHeap → Prop)  {I : Nat → List Value → AHeap → Prop} {μ : Nat} : loopQ I μ (blockQ 0 (retK Try.prog Try.f45 K)) (.exit 0) (ud38 []) H =
 (K (.tuple #[]) H) := by kernel_rfl
theorem RowsDone.step {H0 H H' : AHeap} {rb fb k m : Nat} {g : Nat → LN × Bool} (hne : rb ≠ fb) (h : RowsDone H0 H rb fb k m g) (hk : k < m) {a' : OA} {n' e' : Nat} (hg : Grow H H') (ho : OwnS fF H' H.length a' n' e' (g k).1)
  (hrb : rb < H0.length) (hfb : fb < H0.length) {K : AHeap → Prop} (hK : ∀ H3, RowsDone H0 H3 rb fb (k + 1) m g → K H3) :
  stV (.slice a' n' e') H' rb (0 + k * 1) fun H2 => stV (.bool (g k).2) H2 fb (0 + k * 1) K := by
 rw [stV_slice]
 simp only [stV_bool]
 obtain ⟨kp, rs, fs, o1, o2, l1, l2, h⟩ := h
 have p1 := o1.grow hg
 have p2 := o2.grow hg
 refine Lt.set p1 ω2 fun H2 e2 q1 k2 => Lt.set (p2.keep (Ne.symm hne) k2) ω2 fun H3 e3 q2 k3 => hK H3 ⟨?_, _, _, q1.keep hne k3, q2, by simp [l1], by simp [l2], fun i hi => ?_⟩
 ·refine ⟨by have := kp.1; have := hg.1; omega, fun i hi h1 h2 => ?_⟩
  have n1 : i ≠ rb := fun e => h1 ⟨rb, 0, none⟩ rfl e.symm
  have n2 : i ≠ fb := fun e => h2 ⟨fb, 0, none⟩ rfl e.symm
  have a0 := kp.1; have a1 := hg.1
  rw [k3.2 i ω2 n2, k2.2 i ω2 n1, hg.2 i ω2]
  exact kp.2 i hi h1 h2
 ·rcases Nat.lt_succ_iff_lt_or_eq.1 hi with hi | rfl
  ·obtain ⟨g1, a, n, e, g2, g3, g4⟩ := h i hi
   refine ⟨by rw [List.getElem?_set_ne ω2]; exact g1, a, n, e, by rw [List.getElem?_set_ne ω2]; exact g2, IsL.keepB (g3.grow hg) fun x hx => ?_, g4⟩
   have := g4 x hx
   have hx2 : n = 0 ∨ x.block < H'.length := by
    rcases Nat.eq_zero_or_pos n with h0 | h0
    ·exact .inl h0
    ·right
     obtain ⟨b, o, ea, hc⟩ := (g3.grow hg).cell h0
     rw [hx] at ea; cases ea
     have hl := (g3.grow hg).len
     have := hc 0 _ (List.getElem?_eq_getElem ω2)
     unfold rdC rdB at this
     by_cases hb : b < H'.length
     ·exact hb
     ·rw [List.getElem?_eq_none ω2] at this; cases this
   by_cases hb : x.block < H'.length
   ·rw [k3.2 x.block ω2 ω2, k2.2 x.block hb ω2]
   ·rw [List.getElem?_eq_none ω2, List.getElem?_eq_none ω2]
  ·refine ⟨by rw [show 0 + i * 1 = i by omega, List.getElem?_set_self ω2], a', n', e', by rw [show 0 + i * 1 = i by omega, List.getElem?_set_self ω2], IsL.keepB ho.isL fun x hx => ?_, fun x hx => Nat.le_trans kp.1 (ho.lo x hx)⟩
   have h1 := ho.lo x hx
   have h2 := ho.up x hx
   have h3 := kp.1
   rw [k3.2 x.block ω2 ω2, k2.2 x.block ω2 ω2]
theorem fuz_does {c0 c1 c2 c3 c4 c5 rb fb m : Nat} {H0 : AHeap} {W Hi : Int} {a : OA} {n e : Nat} {x : Value} {g : Nat → LN × Bool} {K : Value → AHeap → Prop} (hm : Hi = (m : Int)) (hm2 : m ≤ 16) (hW : 1 ≤ W) (hW2 : W ≤ 16) (hn : (n : Int) = W * m)
  (o0 : Own H0 c0 [.int .i64 0]) (o1 : Own H0 c1 [.int .i64 W, .int .i64 Hi, .slice a n e]) (o2 : Own H0 c2 [.int .i64 1]) (o3 : Own H0 c3 [x]) (o4 : Own H0 c4 [.slice (some ⟨rb, 0, none⟩) m 1]) (o5 : Own H0 c5 [.slice (some ⟨fb, 0, none⟩) m 1])
  (d1 : rb ≠ c1 ∧ rb ≠ c2 ∧ rb ≠ c3 ∧ rb ≠ c4 ∧ rb ≠ c5) (d2 : fb ≠ c1 ∧ fb ≠ c2 ∧ fb ≠ c3 ∧ fb ≠ c4 ∧ fb ≠ c5) (hne : rb ≠ fb) (hrb : rb < H0.length) (hfb : fb < H0.length) (hr : RowsDone H0 H0 rb fb 0 m g)
  (hch : ChOk E_fuz x H0 rb fb a W m g) (hT : valT E_fuz x = true) (hk : ∀ H, RowsDone H0 H rb fb m m g → K (.tuple #[]) H) :
  bodyK Try.prog E_fuz Try.f45 [.pointer (some ⟨c0, 0, none⟩), .pointer (some ⟨c1, 0, none⟩), .pointer (some ⟨c2, 0, none⟩), .pointer (some ⟨c3, 0, none⟩), .pointer (some ⟨c4, 0, none⟩), .pointer (some ⟨c5, 0, none⟩)] H0 K := by
 refine bodyL_body E_fuz_ok ?_
 rw [fuz_vc]
 refine ⟨0, (o0.rdC 0).trans rfl, ?_⟩
 refine fuz_L1 c1 c2 c3 c4 c5 (fun μ y H => ∃ k : Nat, y = (k : Int) ∧ k ≤ m ∧ μ = m - k ∧ RowsDone H0 H rb fb k m g) m 0 H0 ⟨0, rfl, Nat.zero_le _, rfl, hr⟩ ?_
 intro μ y H hI
 obtain ⟨k, rfl, hkm, rfl, hR⟩ := hI
 have kp := hR.1
 have p1 := o1.keep2 d1.1 d2.1 kp
 have p2 := o2.keep2 d1.2.1 d2.2.1 kp
 have p3 := o3.keep2 d1.2.2.1 d2.2.2.1 kp
 have p4 := o4.keep2 d1.2.2.2.1 d2.2.2.2.1 kp
 have p5 := o5.keep2 d1.2.2.2.2 d2.2.2.2.2 kp
 rw [fuz_r1]
 refine ⟨Hi, (p1.rdC 1).trans rfl, ?_⟩
 refine Br.intro (fun hc => ?_) (fun hc => ?_)
 ·have hc' := of_decide_eq_true hc
  have hkm' : k < m := by omega
  refine ⟨W, (p1.rdC 0).trans rfl, W, (p1.rdC 0).trans rfl, a, n, e, (p1.rdC 2).trans rfl, x, (p3.rdC 0).trans rfl, some ⟨fb, 0, none⟩, m, 1, (p5.rdC 0).trans rfl, some ⟨rb, 0, none⟩, m, 1, (p4.rdC 0).trans rfl, ?_⟩
  have s1 := row_small (k := (k : Int)) (W := W) ω2 ω2 hW hW2
  have s2 := row_small (k := (k : Int) + 1) (W := W) ω2 ω2 hW hW2
  have e2 : ((k : Int) + 1) * W = (k : Int) * W + W := by rw [Int.add_mul, Int.one_mul]
  have s3 : ((k : Int) + 1) * W ≤ (n : Int) := by
   rw [hn, Int.mul_comm]
   exact Int.mul_le_mul_of_nonneg_left ω2 ω2
  rw [wrap64 (n := (k : Int) * W) ω2 ω2, wrap64 (n := (k : Int) + 1) ω2 ω2, wrap64 (n := ((k : Int) + 1) * W) ω2 ω2]
  refine ⟨s1.1, by omega, s3, ?_⟩
  rw [hT]
  show callV _ _ _ _ _
  refine hch k hkm' H kp _ fun a' n' e' H' hg ho => ?_
  rw [extV0, extV1]
  have st := hR.step hne hkm' hg ho hrb hfb (K := fun H3 => ∃ x9 : Int, rdC H3 c2 0 = some (.int .i64 x9) ∧ loopQ (fuz_I1 c1 c2 c3 c4 c5 fun μ y H => ∃ k : Nat, y = (k : Int) ∧ k ≤ m ∧ μ = m - k ∧ RowsDone H0 H rb fb k m g) (m - k) (blockQ 0 (retK Try.prog Try.f45 K)) .normal (fuz_P1 c1 c2 c3 c4 c5 (IntKind.wrap .i64 ((k : Int) + x9))) H3) (fun H3 hD => by
   refine ⟨1, ((o2.keep2 d1.2.1 d2.2.1 hD.1).rdC 0).trans rfl, ?_⟩
   rw [wrap64 (n := (k : Int) + 1) ω2 ω2]
   exact fuz_n1 (m - (k + 1)) ω2 ⟨k + 1, by omega, by omega, rfl, hD⟩)
  rw [stV_slice] at st
  obtain ⟨t1, t2, t3⟩ := st
  refine ⟨by omega, by omega, rb, 0, rfl, ?_⟩
  rw [stV_slice]
  exact ⟨t1, t2, by omega, by omega, fb, 0, rfl, t3⟩
 ·have hc' := of_decide_eq_false hc
  rw [fuz_x1_0]
  have : k = m := by omega
  subst this
  exact hk H hR


def p_f6z (p_Wide : Int) (p_High : Int) (fa : LN) : Int × Int × LN × Bool := (bif !(p_f5z p_Wide p_High fa) then ((0 : Int), (0 : Int), [], false) else (p_Wide, p_High, fa, true))
def p_f6z_eq := @p_f6z.eq_1
def T_f6z (p_Wide : Int) (p_High : Int) (p_Lights_a : OA) (p_Lights_n : Nat) (p_Lights_e : Nat) (H : AHeap) (K : Int → Int → OA → Nat → Nat → Bool → AHeap → Prop) : Prop := ∃ (fa : LN), IsL fF H p_Lights_a p_Lights_n fa ∧ fa.length < 1073741824 ∧ ((∀ H' : AHeap, Grow H H' → Br ((p_f6z p_Wide p_High fa).2.2.2) (K p_Wide p_High p_Lights_a p_Lights_n p_Lights_e true H') (K 0 0 none 0 0 false H')))
theorem T_f6z_i {p_Wide : Int} {p_High : Int} {p_Lights_a : OA} {p_Lights_n : Nat} {p_Lights_e : Nat} {H : AHeap} {K : Int → Int → OA → Nat → Nat → Bool → AHeap → Prop} (h : ∃ (fa : LN), IsL fF H p_Lights_a p_Lights_n fa ∧ fa.length < 1073741824 ∧ ((∀ H' : AHeap, Grow H H' → Br ((p_f6z p_Wide p_High fa).2.2.2) (K p_Wide p_High p_Lights_a p_Lights_n p_Lights_e true H') (K 0 0 none 0 0 false H')))) : T_f6z p_Wide p_High p_Lights_a p_Lights_n p_Lights_e H K := h

/-! f6z: function 47 -/
def E_f6z : Env := envOf [(27, S_f5z)]
def F_f6z : List Value → AHeap → (Value → AHeap → Prop) → Prop
 | [.agg ⟨[.int .i64 p_Wide, .int .i64 p_High, .slice p_Lights_a p_Lights_n p_Lights_e]⟩], H, K => T_f6z p_Wide p_High p_Lights_a p_Lights_n p_Lights_e H fun (r1_Wide : Int) (r1_High : Int) (oa : OA) (qa : Nat) (pa : Nat) (r2 : Bool) (H' : AHeap) => K (.tuple #[.agg #[.int .i64 r1_Wide, .int .i64 r1_High, .slice oa qa pa], .bool r2]) H'
 | _, _, _ => False
def S_f6z : FSpec := { F := F_f6z, quiet := false, tame := true }
theorem f6z_vc (p_Wide : Int) (p_High : Int) (p_Lights_a : OA) (p_Lights_n : Nat) (p_Lights_e : Nat) (H : AHeap) (K : Value → AHeap → Prop) : bodyL Try.prog E_f6z Try.f47 [.agg #[.int .i64 p_Wide, .int .i64 p_High, .slice p_Lights_a p_Lights_n p_Lights_e]] H K =
 (Al [.int .i64 p_Wide, .int .i64 p_High, .slice p_Lights_a p_Lights_n p_Lights_e] H fun b1 H1 => Al [.int .i64 0, .int .i64 0, .slice none 0 0] H1 fun b2 H2 => ∃ c1 : Int, ∃ c2 : Int, ∃ ve : OA, ∃ ze : Nat, ∃ ye : Nat,  rdN H2 b1 0 3 = some [.int .i64 c1, .int .i64 c2, .slice ve ze ye] ∧ T_f5z c1 c2 ve ze ye H2 fun (r1 : Bool) (H3 : AHeap) => Br (!r1) (isOwn H3 b2 ∧ (∃ l, rdN H3 b2 0 3 = some l) ∧ Lt (setN H3 b2 0 [.int .i64 0, .int .i64 0, .slice none 0 0]) fun H4 => ∃ c4 : Int, ∃ c5 : Int, ∃ af : OA, ∃ ff : Nat, ∃ df : Nat,  rdN H4 b2 0 3 = some [.int .i64 c4, .int .i64 c5, .slice af ff df] ∧ K (.tuple #[.agg #[.int .i64 c4, .int .i64 c5, .slice af ff df], .bool false]) H4) (∃ c7 : Int, ∃ c8 : Int, ∃ qf : OA, ∃ sf : Nat, ∃ rf : Nat,  rdN H3 b1 0 3 = some [.int .i64 c7, .int .i64 c8, .slice qf sf rf] ∧ isOwn H3 b2 ∧ (∃ l, rdN H3 b2 0 3 = some l) ∧ Lt (setN H3 b2 0 [.int .i64 c7, .int .i64 c8, .slice qf sf rf]) fun H5 => ∃ c10 : Int, ∃ c11 : Int, ∃ bh : OA, ∃ eh : Nat, ∃ dh : Nat,  rdN H5 b2 0 3 = some [.int .i64 c10, .int .i64 c11, .slice bh eh dh] ∧ K (.tuple #[.agg #[.int .i64 c10, .int .i64 c11, .slice bh eh dh], .bool true]) H5)) := by kernel_rfl
theorem E_f6z_ok : ∀ g, FnOk Try.prog g (E_f6z g) := FnOk.envOf (by
 intro x hx
 simp only [List.mem_cons, List.not_mem_nil, or_false] at hx
 subst hx; exact f5z_ok)
theorem f6z_main (p_Wide : Int) (p_High : Int) (p_Lights_a : OA) (p_Lights_n : Nat) (p_Lights_e : Nat) (H : AHeap) (K : Value → AHeap → Prop) (h : T_f6z p_Wide p_High p_Lights_a p_Lights_n p_Lights_e H fun (r1_Wide : Int) (r1_High : Int) (oa : OA) (qa : Nat) (pa : Nat) (r2 : Bool) (H' : AHeap) => K (.tuple #[.agg #[.int .i64 r1_Wide, .int .i64 r1_High, .slice oa qa pa], .bool r2]) H') : bodyL Try.prog E_f6z Try.f47 [.agg #[.int .i64 p_Wide, .int .i64 p_High, .slice p_Lights_a p_Lights_n p_Lights_e]] H K := by
 rw [f6z_vc]
 obtain ⟨fa, i_p_Lights, bd_50, hk⟩ := h
 obtain rfl := i_p_Lights.eqn
 have e : (p_f6z p_Wide p_High fa) = _ := rfl
 have e := e.trans (p_f6z_eq p_Wide p_High fa)
 have g0 := Grow.refl H
 refine Al.intro (fun b_1 H_1 hb_2 hl_3 g_4 o_5 => ?_)
 have l_7 := g_4.1
 have g_8 := g0.trans g_4
 have l_9 := g_8.1
 have w49 := o_5.lt
 refine Al.intro (fun b_10 H_2 hb_11 hl_12 g13 o_14 => ?_)
 have l_16 := g13.1
 have g17 := g_8.trans g13
 have l_18 := g17.1
 have o19 := o_5.grow g13
 have w20 := o19.lt
 have w48 := o_14.lt
 refine ⟨p_Wide, p_High, p_Lights_a, fa.length, p_Lights_e, (o19.rdN (Nat.le_of_ble_eq_true rfl)).trans rfl, ?_⟩
 refine T_f5z_i ⟨_, (i_p_Lights.grow g17), ω0, fun  H_3 g21  => ?_⟩
 have l22 := g21.1
 have g23 := g17.trans g21
 have l24 := g23.1
 have o25 := o19.grow g21
 have w26 := o25.lt
 have o27 := o_14.grow g21
 have w28 := o27.lt
 refine Br.intro (fun c29 => ?_) (fun c29 => ?_)
 ·have e := e.trans (cond_t c29)
  have c_29n := nf_of_t c29
  refine Lt.setN (n := 3) o27 (Nat.le_of_ble_eq_true rfl) rfl (fun H_4 hl_30 o32 k31 => ?_)
  have o32 : Own H_4 b_10 [.int .i64 0, .int .i64 0, .slice none 0 0] := o32
  have l33 := k31.1
  have g34 := g23.keep (b := b_10) ω2 k31
  have l35 := g34.1
  have o36 := o25.keep ω2 k31
  have w37 := o36.lt
  have w38 := o32.lt
  refine ⟨0, 0, none, 0, 0, (o32.rdN (Nat.le_of_ble_eq_true rfl)).trans rfl, ?_⟩
  have q := hk H_4 g34
  rw [e] at q
  exact q
 ·have e := e.trans (cond_f c29)
  have c_29n := nt_of_f c29
  have c_29n' := f5z_t c_29n
  refine ⟨p_Wide, p_High, p_Lights_a, fa.length, p_Lights_e, (o25.rdN (Nat.le_of_ble_eq_true rfl)).trans rfl, ?_⟩
  refine Lt.setN (n := 3) o27 (Nat.le_of_ble_eq_true rfl) rfl (fun H_5 hl_39 o41 k40 => ?_)
  have o41 : Own H_5 b_10 [.int .i64 p_Wide, .int .i64 p_High, .slice p_Lights_a fa.length p_Lights_e] := o41
  have l42 := k40.1
  have g43 := g23.keep (b := b_10) ω2 k40
  have l44 := g43.1
  have o45 := o25.keep ω2 k40
  have w46 := o45.lt
  have w47 := o41.lt
  refine ⟨p_Wide, p_High, p_Lights_a, fa.length, p_Lights_e, (o41.rdN (Nat.le_of_ble_eq_true rfl)).trans rfl, ?_⟩
  have q := hk H_5 g43
  rw [e] at q
  exact q
theorem f6z_ok : FnOk Try.prog 47 S_f6z := by
 refine FnOk.body mix_ok E_f6z_ok Try.func47 rfl ω9 ω9 ?_ ?_ ?_ ?_ ?_
 ·intro args H K K' h hk
  simp only [S_f6z] at *
  unfold F_f6z at *
  split at hk
  ·obtain ⟨fa, i_p_Lights, bd_50, k⟩ := hk
   exact ⟨fa, i_p_Lights, bd_50, (fun H' gg => Br_mono (h _ _) (h _ _) (k H' gg))⟩
  ·exact hk.elim
 ·intro hq; cases hq
 ·intro args H K hk
  simp only [S_f6z] at *
  unfold F_f6z at *
  split at hk
  ·obtain ⟨fa, i_p_Lights, bd_50, k⟩ := hk
   exact Br_live (k H (Grow.refl H))
  ·exact hk.elim
 ·intro _ args H K hk
  simp only [S_f6z] at *
  unfold F_f6z at *
  split at hk
  ·obtain ⟨fa, i_p_Lights, bd_50, k⟩ := hk
   exact ⟨fa, i_p_Lights, bd_50, (fun H' gg => Br_mono (fun q => ⟨gg, q⟩) (fun q => ⟨gg, q⟩) (k H' gg))⟩
  ·exact hk.elim
 ·have mm := @f6z_main
  have ml := fun (args : List Value) (H : AHeap) (K : Value → AHeap → Prop) => bodyL_body (P := Try.prog) (env := E_f6z ) (fn := Try.f47) (args := args) (H := H) (K := K) E_f6z_ok 
  revert mm ml
  generalize bodyK Try.prog E_f6z Try.f47 = Q
  generalize bodyL Try.prog E_f6z Try.f47 = QL
  intro mm ml args H K hk
  simp only [S_f6z] at *
  unfold F_f6z at *
  split at hk
  ·exact ml _ H K (mm _ _ _ _ _ H K hk)
  ·exact hk.elim
def ChRows (env : Env) (x : Value) (H : AHeap) (a : OA) (W : Int) (m : Nat) (g : Nat → LN × Bool) : Prop :=
 ∀ (y : Nat), y < m → ∀ (H1 : AHeap), Grow H H1 → ∀ K : Value → AHeap → Prop,
  (∀ (a' : OA) (n' e' : Nat) (H' : AHeap), Grow H1 H' → OwnS fF H' H1.length a' n' e' (g y).1 → K (.tuple #[.slice a' n' e', .bool (g y).2]) H') →
  callV env x [.slice ((a : OA).map fun a => ⟨a.block, a.off + ((y : Int) * W).toNat * 1, none⟩) ((((y : Int) + 1) * W - (y : Int) * W).toNat) 0] H1 K
theorem Grow.keep2 {H0 H H' : AHeap} {rb fb : Nat} (g : Grow H0 H) (h1 : H0.length ≤ rb) (h2 : H0.length ≤ fb) (k : Keep2 (some ⟨rb, 0, none⟩) (some ⟨fb, 0, none⟩) H H') : Grow H0 H' :=
 ⟨Nat.le_trans g.1 k.1, fun i hi => (k.2 i (Nat.lt_of_lt_of_le hi g.1) (fun x hx => by cases hx; show rb ≠ i; omega) (fun x hx => by cases hx; show fb ≠ i; omega)).trans (g.2 i hi)⟩
def flatR (g : Nat → LN × Bool) (k : Nat) : LN := (List.range k).flatMap fun i => (g i).1
theorem flatR_succ (g : Nat → LN × Bool) (k : Nat) : flatR g (k + 1) = flatR g k ++ (g k).1 := by
 unfold flatR
 rw [List.range_succ, List.flatMap_append]
 simp
theorem flatR_len {g : Nat → LN × Bool} {m : Nat} (h : ∀ i, i < m → (g i).1.length ≤ 64) : ∀ k, k ≤ m → (flatR g k).length ≤ 64 * k := by
 intro k
 induction k with
 | zero => intro _; simp [flatR]
 | succ k ih =>
  intro hk
  have h1 := ih ω2
  have h2 := h k ω2
  rw [flatR_succ, List.length_append]
  omega
def p_rows (W Hi : Int) (m : Nat) (g : Nat → LN × Bool) : Int × Int × LN × Bool := bif (List.range m).all (fun i => (g i).2) then p_f6z W Hi (flatR g m) else (0, 0, [], false)
theorem p_rows_no {W Hi : Int} {m : Nat} {g : Nat → LN × Bool} {k : Nat} (hk : k < m) (h : (g k).2 = false) : p_rows W Hi m g = (0, 0, [], false) := by
 unfold p_rows
 have : (List.range m).all (fun i => (g i).2) = false := by
  rw [List.all_eq_false]
  exact ⟨k, List.mem_range.2 hk, by simp [h]⟩
 rw [this, cond_false]
theorem p_rows_all {W Hi : Int} {m : Nat} {g : Nat → LN × Bool} (h : ∀ i, i < m → (g i).2 = true) : p_rows W Hi m g = p_f6z W Hi (flatR g m) := by
 unfold p_rows
 have : (List.range m).all (fun i => (g i).2) = true := by
  rw [List.all_eq_true]
  exact fun i hi => h i (List.mem_range.1 hi)
 rw [this, cond_true]
def T_f16z (p_Wide : Int) (p_High : Int) (p_Lights_a : OA) (p_Lights_n : Nat) (p_Lights_e : Nat) (workers : Int) (change_f : Fn) (change_x change_y : Array Value) (H : AHeap) (K : Int → Int → OA → Nat → Nat → Bool → AHeap → Prop) : Prop :=
 ∃ (l : LN) (g : Nat → LN × Bool), IsL fF H p_Lights_a p_Lights_n l ∧ workers = 1 ∧ 1 ≤ p_Wide ∧ p_Wide ≤ 16 ∧ 1 ≤ p_High ∧ p_High ≤ 16 ∧ (l.length : Int) = p_Wide * p_High ∧ valT E_fuz (.func change_f change_x change_y) = true ∧
  (∀ i, i < p_High.toNat → (g i).1.length ≤ 64 ∧ ((g i).2 = true → 1 ≤ (g i).1.length)) ∧ ChRows E_fuz (.func change_f change_x change_y) H p_Lights_a p_Wide p_High.toNat g ∧
  (∀ (qc : OA) (uc tc : Nat), ∀ H' : AHeap, Grow H H' → OwnS fF H' H.length qc uc tc ((p_rows p_Wide p_High p_High.toNat g).2.2.1) → K ((p_rows p_Wide p_High p_High.toNat g).1) ((p_rows p_Wide p_High p_High.toNat g).2.1) qc uc tc ((p_rows p_Wide p_High p_High.toNat g).2.2.2) H')
/-! f16z: function 29 -/
def E_f16z : Env := envOf [(45, S_fuz), (47, S_f6z)]
def F_f16z : List Value → AHeap → (Value → AHeap → Prop) → Prop
 | [.agg ⟨[.int .i64 p_Wide, .int .i64 p_High, .slice p_Lights_a p_Lights_n p_Lights_e]⟩, .int .i64 workers, .func change_f change_x change_y], H, K => T_f16z p_Wide p_High p_Lights_a p_Lights_n p_Lights_e workers change_f change_x change_y H fun (r1_Wide : Int) (r1_High : Int) (oa : OA) (qa : Nat) (pa : Nat) (r2 : Bool) (H' : AHeap) => K (.tuple #[.agg #[.int .i64 r1_Wide, .int .i64 r1_High, .slice oa qa pa], .bool r2]) H'
 | _, _, _ => False
def S_f16z : FSpec := { F := F_f16z, quiet := false, tame := false }
theorem f16z_vc (p_Wide : Int) (p_High : Int) (p_Lights_a : OA) (p_Lights_n : Nat) (p_Lights_e : Nat) (workers : Int) (change_f : Fn) (change_x : Array Value) (change_y : Array Value) (H : AHeap) (K : Value → AHeap → Prop) : rbM Try.prog E_f16z [.agg #[.int .i64 p_Wide, .int .i64 p_High, .slice p_Lights_a p_Lights_n p_Lights_e], .int .i64 workers, .func change_f change_x change_y] H K =
 (Al [.int .i64 p_Wide, .int .i64 p_High, .slice p_Lights_a p_Lights_n p_Lights_e] H fun b1 H1 => Al [.int .i64 workers] H1 fun b2 H2 => Al [.func change_f change_x change_y] H2 fun b3 H3 => Al [.int .i64 0, .int .i64 0, .slice none 0 0] H3 fun b4 H4 => ∃ x1 : Int,  rdC H4 b1 1 = some (.int .i64 x1) ∧ ∃ x2 : Int,  rdC H4 b1 1 = some (.int .i64 x2) ∧ (0 : Int) ≤ x2 ∧ x2 = x2 ∧ x2 < (most : Int) ∧ Al (zerosOf (.slice none 0 0) (x2).toNat) H4 fun b5 H5 => (0 : Int) ≤ x1 ∧ x1 = x1 ∧ x1 < (most : Int) ∧ Al (zerosOf (.bool false) (x1).toNat) H5 fun b6 H6 => Al [.slice none 0 0] H6 fun b7 H7 => Al [.slice none 0 0] H7 fun b8 H8 => isOwn H8 b7 ∧ (∃ l, rdN H8 b7 0 1 = some l) ∧ Lt (setC H8 b7 0 (.slice (some ⟨b5, 0, none⟩) ((x2).toNat) 1)) fun H9 => isOwn H9 b8 ∧ (∃ l, rdN H9 b8 0 1 = some l) ∧ Lt (setC H9 b8 0 (.slice (some ⟨b6, 0, none⟩) ((x1).toNat) 1)) fun H10 => ∃ x3 : Int,  rdC (H10 ++ [none]) b2 0 = some (.int .i64 x3) ∧ ((57 : Nat) = 57 ∧ Value.int .i64 x3 = Value.int .i64 1 ∧ Value.int .i64 0 = Value.int .i64 0) ∧ Al [.int .i64 0] (H10 ++ [none]) fun b9 H11 => isOwn H11 b9 ∧ (∃ l, rdN H11 b9 0 1 = some l) ∧ Lt (setC H11 b9 0 (.int .i64 0)) fun H12 => ((57 : Nat) = 57 ∧ (.pointer (some ⟨H10.length, 0, none⟩) : Value) = .pointer (some ⟨H10.length, 0, none⟩) ∧ Value.int .i64 x3 = Value.int .i64 1 ∧ Value.int .i64 (0 : Int) = Value.int .i64 0) ∧ S_fuz.F [.pointer (some ⟨b9, 0, none⟩), .pointer (some ⟨b1, 0, none⟩), .pointer (some ⟨b2, 0, none⟩), .pointer (some ⟨b3, 0, none⟩), .pointer (some ⟨b7, 0, none⟩), .pointer (some ⟨b8, 0, none⟩)] H12 fun (_ : Value) (H13 : AHeap) => ∃ x4 : Int,  rdC H13 b1 0 = some (.int .i64 x4) ∧ ∃ x5 : Int,  rdC H13 b1 1 = some (.int .i64 x5) ∧ Al [.int .i64 0, .int .i64 0, .slice none 0 0] H13 fun b10 H14 => isOwn H14 b10 ∧ (∃ l, rdN H14 b10 0 3 = some l) ∧ Lt (setN H14 b10 0 [.int .i64 x4, .int .i64 x5, .slice none 0 0]) fun H15 => ∃ pe : OA, ∃ oe : Nat, ∃ qe : Nat,  rdC H15 b7 0 = some (.slice pe oe qe) ∧ loopK (exL Try.prog E_f16z (cl (cl (cr (cl (cr (cr rb4)))))) 120259088960 192 [(2, 4160)]) (ud6 (.pointer (some ⟨b4, 0, none⟩) :: ud2 (.pointer (some ⟨b8, 0, none⟩) :: ud2 (.pointer (some ⟨b10, 0, none⟩) :: ud21 (.slice pe oe qe :: .int .i64 (oe : Int) :: .int .i64 0 :: ud20 []))))) H15 (blockQ 2 (seqQ (exL Try.prog E_f16z (cr (cr (cr rb4))) 192 192 []) (retK Try.prog Try.f29 K)))) := by kernel_rfl
abbrev f16z_P1 (b10 : Nat) (b4 : Nat) (b8 : Nat) (pe : OA) (qe : Nat) (oe : Nat) (t36 : Int)  : List Value := (ud6 (.pointer (some ⟨b4, 0, none⟩) :: ud2 (.pointer (some ⟨b8, 0, none⟩) :: ud2 (.pointer (some ⟨b10, 0, none⟩) :: ud21 (.slice pe oe qe :: .int .i64 (oe : Int) :: .int .i64 t36 :: ud20 [])))))
theorem f16z_r1 (b10 : Nat) (b4 : Nat) (b8 : Nat) (pe : OA) (qe : Nat) (oe : Nat) (t36 : Int)  (H : AHeap) (R : Post) : exL Try.prog E_f16z (cl (cl (cr (cl (cr (cr rb4)))))) 120259088960 192 [(2, 4160)] (f16z_P1 b10 b4 b8 pe qe oe t36) H R =
 (Br (decide ((t36 : Int) < (oe : Int))) ((0 : Int) ≤ t36 ∧ t36 < (oe : Int) ∧ ∃ b11 f1, (pe : OA) = some ⟨b11, f1, none⟩ ∧ ∃ vf : OA, ∃ nf : Nat, ∃ ug : Nat,  rdC H b11 (f1 + (t36 : Int).toNat * 1) = some (.slice vf nf ug) ∧ ∃ xf : OA, ∃ yf : Nat, ∃ vg : Nat,  rdC H b8 0 = some (.slice xf yf vg) ∧ (0 : Int) ≤ t36 ∧ t36 < (yf : Int) ∧ ∃ b12 f2, (xf : OA) = some ⟨b12, f2, none⟩ ∧ ∃ x9 : Bool,  rdC H b12 (f2 + (t36 : Int).toNat * 1) = some (.bool x9) ∧ Br (!x9) (isOwn H b4 ∧ (∃ l, rdN H b4 0 3 = some l) ∧ Lt (setN H b4 0 [.int .i64 0, .int .i64 0, .slice none 0 0]) fun H16 => R .ret (ud6 (.pointer (some ⟨b4, 0, none⟩) :: .bool false :: ud49 [])) H16) (∃ rg : OA, ∃ tg : Nat, ∃ ak : Nat,  rdC H b10 2 = some (.slice rg tg ak) ∧ ∃ o1 w1 : List Value, ownB H rg tg ak 1 = some o1 ∧ rdS H vf (nf * 1) = some w1 ∧ ((rg : OA) = none → 0 < (nf : Nat)) ∧ (tg : Nat) + nf < most ∧ Ap H (killB H rg ++ [some ⟨o1 ++ w1, true⟩]) fun b13 H17 => isOwn H17 b10 ∧ (∃ l, rdN H17 b10 2 1 = some l) ∧ Lt (setC H17 b10 2 (.slice (some ⟨b13, 0, none⟩) (tg + nf) 1)) fun H18 => R .normal (ud6 (.pointer (some ⟨b4, 0, none⟩) :: ud2 (.pointer (some ⟨b8, 0, none⟩) :: ud2 (.pointer (some ⟨b10, 0, none⟩) :: ud21 (.slice pe oe qe :: .int .i64 (oe : Int) :: .int .i64 (IntKind.wrap .i64 (t36 + 1)) :: ud20 []))))) H18)) (R (.exit 2) (ud6 (.pointer (some ⟨b4, 0, none⟩) :: ud5 (.pointer (some ⟨b10, 0, none⟩) :: ud44 []))) H)) := by kernel_rfl
def f16z_I1 (b10 : Nat) (b4 : Nat) (b8 : Nat) (pe : OA) (qe : Nat) (oe : Nat) (Inv : Nat → Int → AHeap → Prop) : Nat → List Value → AHeap → Prop := fun μ tm H => ∃ (t36 : Int), tm = (f16z_P1 b10 b4 b8 pe qe oe t36) ∧ Inv μ t36 H
theorem f16z_L1 (b10 : Nat) (b4 : Nat) (b8 : Nat) (pe : OA) (qe : Nat) (oe : Nat) {Q : Post} (Inv : Nat → Int → AHeap → Prop) (ν : Nat) (t36 : Int)  (H : AHeap) (h0 : Inv ν t36 H)
  (hs : ∀ (μ : Nat) (t36 : Int)  (H : AHeap), Inv μ t36 H → exL Try.prog E_f16z (cl (cl (cr (cl (cr (cr rb4)))))) 120259088960 192 [(2, 4160)] (f16z_P1 b10 b4 b8 pe qe oe t36) H (loopQ (f16z_I1 b10 b4 b8 pe qe oe Inv) μ Q)) : loopK (exL Try.prog E_f16z (cl (cl (cr (cl (cr (cr rb4)))))) 120259088960 192 [(2, 4160)]) (f16z_P1 b10 b4 b8 pe qe oe t36) H Q :=
 ⟨f16z_I1 b10 b4 b8 pe qe oe Inv, ν, ⟨t36, rfl, h0⟩, fun μ tm H h => by obtain ⟨t36, rfl, hI⟩ := h; exact hs μ t36  H hI⟩
theorem f16z_n1 {b10 : Nat} {b4 : Nat} {b8 : Nat} {pe : OA} {qe : Nat} {oe : Nat} {Q : Post} {Inv : Nat → Int → AHeap → Prop} {μ : Nat} (μ' : Nat) {t36 : Int}  {H : AHeap} (hm : μ' < μ) (hI : Inv μ' t36 H) : loopQ (f16z_I1 b10 b4 b8 pe qe oe Inv) μ Q .normal (f16z_P1 b10 b4 b8 pe qe oe t36) H := ⟨μ', hm, t36, rfl, hI⟩
theorem f16z_x1_2 (b10 : Nat) (b4 : Nat) (H : AHeap) (K : Value → AHeap → Prop)  {I : Nat → List Value → AHeap → Prop} {μ : Nat} : loopQ I μ (blockQ 2 (seqQ (exL Try.prog E_f16z (cr (cr (cr rb4))) 192 192 []) (retK Try.prog Try.f29 K))) (.exit 2) (ud6 (.pointer (some ⟨b4, 0, none⟩) :: ud5 (.pointer (some ⟨b10, 0, none⟩) :: ud44 []))) H =
 (∃ c1 : Int, ∃ c2 : Int, ∃ ve : OA, ∃ ze : Nat, ∃ ye : Nat,  rdN H b10 0 3 = some [.int .i64 c1, .int .i64 c2, .slice ve ze ye] ∧ T_f6z c1 c2 ve ze ye H fun (r1 : Int) (r2 : Int) (a1 : OA) (r3 : Nat) (r4 : Nat) (r5 : Bool) (H19 : AHeap) => isOwn H19 b4 ∧ (∃ l, rdN H19 b4 0 3 = some l) ∧ Lt (setN H19 b4 0 [.int .i64 r1, .int .i64 r2, .slice a1 r3 r4]) fun H20 => ∃ c4 : Int, ∃ c5 : Int, ∃ af : OA, ∃ ff : Nat, ∃ df : Nat,  rdN H20 b4 0 3 = some [.int .i64 c4, .int .i64 c5, .slice af ff df] ∧ K (.tuple #[.agg #[.int .i64 c4, .int .i64 c5, .slice af ff df], .bool r5]) H20) := by kernel_rfl
theorem f16z_x1_ret (b4 : Nat) (t7 : Bool) (H : AHeap) (K : Value → AHeap → Prop)  {I : Nat → List Value → AHeap → Prop} {μ : Nat} : loopQ I μ (blockQ 2 (seqQ (exL Try.prog E_f16z (cr (cr (cr rb4))) 192 192 []) (retK Try.prog Try.f29 K))) .ret (ud6 (.pointer (some ⟨b4, 0, none⟩) :: .bool t7 :: ud49 [])) H =
 (∃ c7 : Int, ∃ c8 : Int, ∃ qf : OA, ∃ sf : Nat, ∃ rf : Nat,  rdN H b4 0 3 = some [.int .i64 c7, .int .i64 c8, .slice qf sf rf] ∧ K (.tuple #[.agg #[.int .i64 c7, .int .i64 c8, .slice qf sf rf], .bool t7]) H) := by kernel_rfl
theorem E_f16z_ok : ∀ g, FnOk Try.prog g (E_f16z g) := FnOk.envOf (by
 intro x hx
 simp only [List.mem_cons, List.not_mem_nil, or_false] at hx
 rcases hx with rfl | rfl
 ·exact fuz_ok
 ·exact f6z_ok)
theorem zeros_len {v : Value} (h : v.cells.toList = [v]) (n : Nat) : (zerosOf v n).length = n := by
 rw [zeros_map (fun v : Value => v) v n h]; simp
set_option maxHeartbeats 4000000 in
theorem f16z_main (W : Int) (Hi : Int) (la : OA) (ln : Nat) (le : Nat) (workers : Int) (cf : Fn) (cx cy : Array Value) (H : AHeap) (K : Value → AHeap → Prop) (h : T_f16z W Hi la ln le workers cf cx cy H fun (r1_Wide : Int) (r1_High : Int) (oa : OA) (qa : Nat) (pa : Nat) (r2 : Bool) (H' : AHeap) => K (.tuple #[.agg #[.int .i64 r1_Wide, .int .i64 r1_High, .slice oa qa pa], .bool r2]) H') : rbM Try.prog E_f16z [.agg #[.int .i64 W, .int .i64 Hi, .slice la ln le], .int .i64 workers, .func cf cx cy] H K := by
 obtain ⟨l, g, il, rfl, hW1, hW2, hH1, hH2, hl, hv, hlen, hch, hk⟩ := h
 obtain ⟨m, rfl⟩ : ∃ m : Nat, Hi = (m : Int) := ⟨Hi.toNat, by omega⟩
 simp only [Int.toNat_natCast] at hlen hch hk
 rw [f16z_vc]
 have hll := il.len
 refine Al.intro fun b1 H1 e1 l1 g1 o1 => Al.intro fun b2 H2 e2 l2 g2 o2 => Al.intro fun b3 H3 e3 l3 g3 o3 => Al.intro fun b4 H4 e4 l4 g4 o4 => ?_
 have p1 := ((o1.grow g2).grow g3).grow g4
 refine ⟨(m : Int), (p1.rdC 1).trans rfl, (m : Int), (p1.rdC 1).trans rfl, by omega, rfl, by have := most_eq; omega, ?_⟩
 refine Al.intro fun b5 H5 e5 l5 g5 o5 => ⟨by omega, rfl, by have := most_eq; omega, ?_⟩
 refine Al.intro fun b6 H6 e6 l6 g6 o6 => Al.intro fun b7 H7 e7 l7 g7 o7 => Al.intro fun b8 H8 e8 l8 g8 o8 => ?_
 refine Lt.set (o7.grow g8) ω24 fun H9 l9 q7 k9 => Lt.set (o8.keep ω2 k9) ω24 fun H10 l10 q8 k10 => ?_
 have g48 : Grow H4 H8 := ((g5.trans g6).trans g7).trans g8
 have G0 : Grow H H8 := (((g1.trans g2).trans g3).trans g4).trans g48
 have up : ∀ {b : Nat} {cs : List Value}, Own H8 b cs → b ≠ b7 → b ≠ b8 → Own H10 b cs := fun o h1 h2 => (o.keep h1 k9).keep h2 k10
 have u1 := up (p1.grow g48) ω2 ω2
 have u2 := up ((((o2.grow g3).grow g4).grow g48)) ω2 ω2
 have u3 := up (((o3.grow g4).grow g48)) ω2 ω2
 have u4 := up (o4.grow g48) ω2 ω2
 have u5 := up (((o5.grow g6).grow g7).grow g8) ω2 ω2
 have u6 := up ((o6.grow g7).grow g8) ω2 ω2
 have u7 := q7.keep ω2 k10
 have G1 : Grow H H10 := (G0.keep ω2 k9).keep ω2 k10
 have gA := Grow.app H10 (none : Option Blk)
 have lA : (H10 ++ [(none : Option Blk)]).length = H10.length + 1 := by simp
 refine ⟨1, ((u2.grow gA).rdC 0).trans rfl, ⟨rfl, rfl, rfl⟩, Al.intro fun b9 H11 e9 l11 g11 o9 => Lt.set o9 ω24 fun H12 l12 q9 k12 => ⟨⟨rfl, rfl, rfl, rfl⟩, ?_⟩⟩
 have up2 : ∀ {b : Nat} {cs : List Value}, Own H10 b cs → Own H12 b cs := fun o => ((o.grow gA).grow g11).keep (by have := o.lt; omega) k12
 have G2 : Grow H H12 := (((G1.trans gA).trans g11)).keep (by have := G1.1; omega) k12
 have z5 : ((zerosOf (.slice none 0 0) ((m : Int)).toNat) : List Value).length = m := (zeros_len rfl _).trans (Int.toNat_natCast m)
 have z6 : ((zerosOf (.bool false) ((m : Int)).toNat) : List Value).length = m := (zeros_len rfl _).trans (Int.toNat_natCast m)
 have q7' := up2 u7
 have q8' := up2 q8
 have em : ((m : Int)).toNat = m := Int.toNat_natCast m
 show bodyK _ _ _ _ _ _
 refine fuz_does (rb := b5) (fb := b6) (m := m) (W := W) (Hi := (m : Int)) (a := la) (n := ln) (e := le) (x := .func cf cx cy) (g := g) rfl ω2 hW1 hW2 (by rw [← hll]; exact hl) q9 (up2 u1) (up2 u2) (up2 u3) (by rw [em] at q7'; exact q7') (by rw [em] at q8'; exact q8')
  ⟨by omega, by omega, by omega, by omega, by omega⟩ ⟨by omega, by omega, by omega, by omega, by omega⟩ ω2 (by have := (up2 u5).lt; omega) (by have := (up2 u6).lt; omega) ⟨Keep2.refl _ _ _, _, _, up2 u5, up2 u6, z5, z6, fun i hi => absurd hi (Nat.not_lt_zero _)⟩
  (fun y hy H' kp K2 h2 => hch y hy H' (G2.keep2 ω2 ω2 kp) K2 h2) hv fun H13 hD => ?_
 have kD := hD.1
 have G3 : Grow H H13 := G2.keep2 ω2 ω2 kD
 have d1 := (up2 u1).keep2 (rb := b5) (fb := b6) ω2 ω2 kD
 have d4 := (up2 u4).keep2 (rb := b5) (fb := b6) ω2 ω2 kD
 have d7 := q7'.keep2 (rb := b5) (fb := b6) ω2 ω2 kD
 have d8 := q8'.keep2 (rb := b5) (fb := b6) ω2 ω2 kD
 rw [em] at d7 d8
 obtain ⟨rs, fs, or, of, lr, lf, hrow⟩ := hD.2
 have l13 := kD.1
 have d4l := d4.lt
 refine ⟨W, (d1.rdC 0).trans rfl, (m : Int), (d1.rdC 1).trans rfl, Al.intro fun b10 H14 e14 l14 g14 o14 => Lt.setN o14 (n := 3) ω24 rfl fun H15 l15 q10 k15 => ?_⟩
 have up3 : ∀ {b : Nat} {cs : List Value}, Own H13 b cs → Own H15 b cs := fun o => (o.grow g14).keep (by have := o.lt; omega) k15
 have G4 : Grow H H15 := (G3.trans g14).keep (by have := G3.1; omega) k15
 refine ⟨some ⟨b5, 0, none⟩, m, 1, ((up3 d7).rdC 0).trans rfl, ?_⟩
 refine f16z_L1 b10 b4 b8 (some ⟨b5, 0, none⟩) 1 m (fun μ t H' => ∃ k : Nat, t = (k : Int) ∧ k ≤ m ∧ μ = m - k ∧ (∀ i, i < k → (g i).2 = true) ∧ Keep1 b10 H15 H' ∧ ∃ (a : OA) (n e : Nat), Own H' b10 [.int .i64 W, .int .i64 (m : Int), .slice a n e] ∧ OwnS fF H' H15.length a n e (flatR g k)) m 0 H15
  ⟨0, rfl, Nat.zero_le _, rfl, fun i hi => absurd hi (Nat.not_lt_zero _), ⟨Nat.le_refl _, fun _ _ _ => rfl⟩, none, 0, 0, q10, OwnS.nil _ _ _ _⟩ ?_
 intro μ t H' hI
 obtain ⟨k, rfl, hkm, rfl, hall, kp, a, n, e, ob, os⟩ := hI
 have hg64 : ∀ i, i < m → (g i).1.length ≤ 64 := fun i hi => (hlen i hi).1
 have hfl := flatR_len hg64 k hkm
 have hn := os.len
 have up4 : ∀ {b : Nat} {cs : List Value}, Own H13 b cs → Own H' b cs := fun o => (up3 o).keep (by have := o.lt; omega) kp
 have G5 : Grow H H' := G4.keep (by have := G3.1; omega) kp
 have c4 := up4 d4
 have lkp := kp.1
 rw [f16z_r1]
 refine Br.intro (fun hc => ?_) (fun hc => ?_)
 ·have hc' := of_decide_eq_true hc
  have hkm' : k < m := by omega
  obtain ⟨hf, ra, rn, re, hr, hrl, hrb⟩ := hrow k hkm'
  have hrr := ((up4 or).rdC (0 + ((k : Int)).toNat * 1))
  have hff := ((up4 of).rdC (0 + ((k : Int)).toNat * 1))
  rw [Int.toNat_natCast, Nat.mul_one, Nat.zero_add] at hrr hff
  refine ⟨by omega, hc', b5, 0, rfl, ra, rn, re, by rw [Int.toNat_natCast, Nat.mul_one, Nat.zero_add]; exact hrr.trans hr, some ⟨b6, 0, none⟩, m, 1, ((up4 d8).rdC 0).trans rfl, by omega, hc', b6, 0, rfl, (g k).2, by rw [Int.toNat_natCast, Nat.mul_one, Nat.zero_add]; exact hff.trans hf, ?_⟩
  refine Br.intro (fun hg => ?_) (fun hg => ?_)
  ·have hgk := nf_of_t hg
   refine Lt.setN c4 (n := 3) ω24 rfl fun H16 l16 q4 k16 => ?_
   rw [f16z_x1_ret]
   refine ⟨0, 0, none, 0, 0, (q4.rdN ω24).trans rfl, ?_⟩
   rw [p_rows_no hkm' hgk] at hk
   exact hk none 0 0 H16 (G5.keep ω2 k16) (OwnS.nil _ _ _ _)
  ·have hgk := nt_of_f hg
   have h1 := (hlen k hkm').2 hgk
   have h2 := hg64 k hkm'
   have hrl' : IsL fF H' ra rn (g k).1 := IsL.keepB hrl fun x hx => by
    have hx2 : x.block < H13.length := by
     obtain ⟨b, o, ea, hcl⟩ := hrl.cell (by have := hrl.len; omega)
     rw [hx] at ea; cases ea
     have := hcl 0 _ (List.getElem?_eq_getElem ω2)
     unfold rdC rdB at this
     by_cases hb : b < H13.length
     ·exact hb
     ·rw [List.getElem?_eq_none ω2] at this; cases this
    have e15 : H15[x.block]? = H13[x.block]? := (k15.2 _ ω2 ω2).trans (g14.2 _ hx2)
    rw [kp.2 _ ω2 ω2, e15]
   have hrn := hrl'.len
   refine ⟨a, n, e, (ob.rdC 2).trans rfl, _, _, os.ownB, isl_rdS hrl', (fun _ => by omega), ω21, ?_⟩
   refine Ap.appS os rfl rfl fun b13 H17 e17 l17 o17 k17 => ?_
   have lo := os.lo
   have hup : ∀ x, a = some x → x.block ≠ b10 := fun x hx => by have := lo x hx; omega
   have ob2 := ob.keepA hup k17
   refine Lt.set ob2 (Nat.le_of_ble_eq_true rfl) fun H18 l18 q18 k18 => ?_
   refine f16z_n1 (m - (k + 1)) ω2 ⟨k + 1, by rw [wrap64 ω2 ω2]; omega, by omega, rfl, fun i hi => ?_, ?_, some ⟨b13, 0, none⟩, n + rn, 1, q18, ?_⟩
   ·rcases Nat.lt_succ_iff_lt_or_eq.1 hi with hi | rfl
    ·exact hall i hi
    ·exact hgk
   ·refine ⟨by omega, fun i hi hne => ?_⟩
    rw [k18.2 i ω2 hne, k17.2 i ω2 (fun x hx => by have := lo x hx; omega), kp.2 i hi hne]
   ·rw [flatR_succ]
    have := (o17.keep (b' := b10) ω2 k18)
    exact this.ownS (by rw [List.length_append]; omega) ω2
 ·have hc' := of_decide_eq_false hc
  obtain rfl : k = m := by omega
  rw [f16z_x1_2]
  have lo := os.lo
  have hup := os.up
  refine ⟨W, (k : Int), a, n, e, (ob.rdN (Nat.le_of_ble_eq_true rfl)).trans rfl, T_f6z_i ⟨flatR g k, os.isL, by omega, fun H19 g19 => ?_⟩⟩
  rw [p_rows_all hall] at hk
  refine Br.intro (fun hb => ?_) (fun hb => ?_)
  ·refine Lt.setN (c4.grow g19) (n := 3) ω24 rfl fun H20 l20 q20 k20 => ⟨W, (k : Int), a, n, e, (q20.rdN (Nat.le_of_ble_eq_true rfl)).trans rfl, ?_⟩
   have ev : p_f6z W (k : Int) (flatR g k) = (W, (k : Int), flatR g k, true) := by
    rw [p_f6z_eq] at hb ⊢
    cases hq : !(p_f5z W (k : Int) (flatR g k)) with
    | true => rw [hq] at hb; cases hb
    | false => rfl
   rw [ev] at hk
   exact hk a n e H20 ((G5.trans g19).keep ω2 k20) (((os.grow g19).keepA (fun x y hx hy => by cases hx; have := lo y hy; show b4 ≠ _; omega) (OwnS.keep1 k20)).weak (by have := G4.1; omega))
  ·refine Lt.setN (c4.grow g19) (n := 3) ω24 rfl fun H20 l20 q20 k20 => ⟨0, 0, none, 0, 0, (q20.rdN (Nat.le_of_ble_eq_true rfl)).trans rfl, ?_⟩
   have ev : p_f6z W (k : Int) (flatR g k) = (0, 0, [], false) := by
    rw [p_f6z_eq] at hb ⊢
    cases hq : !(p_f5z W (k : Int) (flatR g k)) with
    | true => rfl
    | false => rw [hq] at hb; cases hb
   rw [ev] at hk
   exact hk none 0 0 H20 ((G5.trans g19).keep ω2 k20) (OwnS.nil _ _ _ _)
theorem f16z_ok : FnOkX Try.prog (MainCls Try.prog) 29 S_f16z := by
 refine rbOk mix_ok (fun g => (E_f16z_ok g).le fun _ _ _ => trivial) (E_f16z_ok _) ω9 ω9 ω9 ?_ (fun hq => by cases hq) ?_ (fun hq => by cases hq) ?_
 ·intro args H K K' h hk
  simp only [S_f16z] at *
  unfold F_f16z at *
  split at hk
  ·obtain ⟨l, g, il, h1, hW1, hW2, hH1, hH2, hl, hv, hlen, hch, k⟩ := hk
   exact ⟨l, g, il, h1, hW1, hW2, hH1, hH2, hl, hv, hlen, hch, fun a n e H' gg ow => h _ _ (k a n e H' gg ow)⟩
  ·exact hk.elim
 ·intro args H K hk
  simp only [S_f16z] at *
  unfold F_f16z at *
  split at hk
  ·obtain ⟨l, g, il, h1, hW1, hW2, hH1, hH2, hl, hv, hlen, hch, k⟩ := hk
   exact liveS fun a n e H1 g o => ⟨_, _, k a n e H1 g o⟩
  ·exact hk.elim
 ·intro args H K hk
  refine rbM_rbK E_f16z_ok ?_
  simp only [S_f16z] at *
  unfold F_f16z at *
  split at hk
  ·exact f16z_main _ _ _ _ _ _ _ _ _ H K hk
  ·exact hk.elim

def picRow (l : LN) (W : Int) (y : Nat) : LN := (l.drop ((y : Int) * W).toNat).take ((((y : Int) + 1) * W - (y : Int) * W).toNat)
theorem picRow_facts {l : LN} {W Hi : Int} {y : Nat} (h1 : 1 ≤ W) (h2 : W ≤ 16) (h3 : Hi ≤ 16) (hl : (l.length : Int) = W * Hi) (hy : (y : Int) < Hi) : 0 ≤ (y : Int) * W ∧ (y : Int) * W ≤ ((y : Int) + 1) * W ∧ ((y : Int) + 1) * W ≤ (l.length : Int) ∧ ((picRow l W y).length : Int) = W := by
 have e2 : ((y : Int) + 1) * W = (y : Int) * W + W := by rw [Int.add_mul, Int.one_mul]
 have s1 : 0 ≤ (y : Int) * W := Int.mul_nonneg ω2 ω2
 have s3 : ((y : Int) + 1) * W ≤ (l.length : Int) := by
  rw [hl, Int.mul_comm]
  exact Int.mul_le_mul_of_nonneg_left ω2 ω2
 refine ⟨s1, by omega, s3, ?_⟩
 unfold picRow
 rw [List.length_take, List.length_drop]
 omega
def p_f3z (aa : LN) (s_Scale : Nat) (p_Wide p_High : Int) (fa : LN) (workers : Int) : Int × Int × LN × Bool :=
 bif p_f9z aa s_Scale then (bif p_f5z p_Wide p_High fa then p_rows p_Wide p_High p_High.toNat (fun y => p_f2z (picRow fa p_Wide y) aa s_Scale) else (0, 0, [], false)) else (0, 0, [], false)
def T_f3z (na : OA) (ya : Nat) (va : Nat) (s_Scale : Nat) (p_Wide : Int) (p_High : Int) (p_Lights_a : OA) (p_Lights_n : Nat) (p_Lights_e : Nat) (workers : Int) (H : AHeap) (K : Int → Int → OA → Nat → Nat → Bool → AHeap → Prop) : Prop :=
 ∃ (aa : LN), ∃ (fa : LN), IsL fF H na ya aa ∧ IsL fF H p_Lights_a p_Lights_n fa ∧ aa.length < 1073741824 ∧ fa.length < 1073741824 ∧ workers = 1 ∧
  (∀ (qc : OA) (uc tc : Nat), ∀ H' : AHeap, Grow H H' → OwnS fF H' H.length qc uc tc ((p_f3z aa s_Scale p_Wide p_High fa workers).2.2.1) → K ((p_f3z aa s_Scale p_Wide p_High fa workers).1) ((p_f3z aa s_Scale p_Wide p_High fa workers).2.1) qc uc tc ((p_f3z aa s_Scale p_Wide p_High fa workers).2.2.2) H')
theorem T_f3z_i {na : OA} {ya : Nat} {va : Nat} {s_Scale : Nat} {p_Wide : Int} {p_High : Int} {p_Lights_a : OA} {p_Lights_n : Nat} {p_Lights_e : Nat} {workers : Int} {H : AHeap} {K : Int → Int → OA → Nat → Nat → Bool → AHeap → Prop} (h : ∃ (aa : LN), ∃ (fa : LN), IsL fF H na ya aa ∧ IsL fF H p_Lights_a p_Lights_n fa ∧ aa.length < 1073741824 ∧ fa.length < 1073741824 ∧ workers = 1 ∧
  (∀ (qc : OA) (uc tc : Nat), ∀ H' : AHeap, Grow H H' → OwnS fF H' H.length qc uc tc ((p_f3z aa s_Scale p_Wide p_High fa workers).2.2.1) → K ((p_f3z aa s_Scale p_Wide p_High fa workers).1) ((p_f3z aa s_Scale p_Wide p_High fa workers).2.1) qc uc tc ((p_f3z aa s_Scale p_Wide p_High fa workers).2.2.2) H')) : T_f3z na ya va s_Scale p_Wide p_High p_Lights_a p_Lights_n p_Lights_e workers H K := h
/-! f3z: function 11 -/
def E_f3z : Env := envOf [(26, S_f9z), (27, S_f5z), (28, S_f17z), (29, S_f16z)]
def F_f3z : List Value → AHeap → (Value → AHeap → Prop) → Prop
 | [.agg ⟨[.slice na ya va, .float .f32 s_Scale]⟩, .agg ⟨[.int .i64 p_Wide, .int .i64 p_High, .slice p_Lights_a p_Lights_n p_Lights_e]⟩, .int .i64 workers], H, K => T_f3z na ya va s_Scale p_Wide p_High p_Lights_a p_Lights_n p_Lights_e workers H fun (r1_Wide : Int) (r1_High : Int) (oa : OA) (qa : Nat) (pa : Nat) (r2 : Bool) (H' : AHeap) => K (.tuple #[.agg #[.int .i64 r1_Wide, .int .i64 r1_High, .slice oa qa pa], .bool r2]) H'
 | _, _, _ => False
def S_f3z : FSpec := { F := F_f3z, quiet := false, tame := false }
theorem f3z_vc (na : OA) (ya : Nat) (va : Nat) (s_Scale : Nat) (p_Wide : Int) (p_High : Int) (p_Lights_a : OA) (p_Lights_n : Nat) (p_Lights_e : Nat) (workers : Int) (H : AHeap) (K : Value → AHeap → Prop) : bodyL Try.prog E_f3z Try.f11 [.agg #[.slice na ya va, .float .f32 s_Scale], .agg #[.int .i64 p_Wide, .int .i64 p_High, .slice p_Lights_a p_Lights_n p_Lights_e], .int .i64 workers] H K =
 (Al [.slice na ya va, .float .f32 s_Scale] H fun b1 H1 => Al [.int .i64 p_Wide, .int .i64 p_High, .slice p_Lights_a p_Lights_n p_Lights_e] H1 fun b2 H2 => Al [.int .i64 0, .int .i64 0, .slice none 0 0] H2 fun b3 H3 => ∃ se : OA, ∃ ue : Nat, ∃ te : Nat, ∃ c2 : Nat,  rdN H3 b1 0 2 = some [.slice se ue te, .float .f32 c2] ∧ T_f9z se ue te c2 H3 fun (r1 : Bool) (H4 : AHeap) => Br (!r1) (isOwn H4 b3 ∧ (∃ l, rdN H4 b3 0 3 = some l) ∧ Lt (setN H4 b3 0 [.int .i64 0, .int .i64 0, .slice none 0 0]) fun H5 => ∃ c3 : Int, ∃ c4 : Int, ∃ ig : OA, ∃ kg : Nat, ∃ jg : Nat,  rdN H5 b3 0 3 = some [.int .i64 c3, .int .i64 c4, .slice ig kg jg] ∧ K (.tuple #[.agg #[.int .i64 c3, .int .i64 c4, .slice ig kg jg], .bool false]) H5) (∃ c6 : Int, ∃ c7 : Int, ∃ lg : OA, ∃ ng : Nat, ∃ mg : Nat,  rdN H4 b2 0 3 = some [.int .i64 c6, .int .i64 c7, .slice lg ng mg] ∧ T_f5z c6 c7 lg ng mg H4 fun (r2 : Bool) (H6 : AHeap) => Br (!r2) (isOwn H6 b3 ∧ (∃ l, rdN H6 b3 0 3 = some l) ∧ Lt (setN H6 b3 0 [.int .i64 0, .int .i64 0, .slice none 0 0]) fun H7 => ∃ c9 : Int, ∃ c10 : Int, ∃ zf : OA, ∃ bg : Nat, ∃ ag : Nat,  rdN H7 b3 0 3 = some [.int .i64 c9, .int .i64 c10, .slice zf bg ag] ∧ K (.tuple #[.agg #[.int .i64 c9, .int .i64 c10, .slice zf bg ag], .bool false]) H7) (T_f17z workers 1 8 H6 fun (r3 : Bool) (H8 : AHeap) => Br (!r3) (isOwn H8 b3 ∧ (∃ l, rdN H8 b3 0 3 = some l) ∧ Lt (setN H8 b3 0 [.int .i64 0, .int .i64 0, .slice none 0 0]) fun H9 => ∃ c12 : Int, ∃ c13 : Int, ∃ fh : OA, ∃ jh : Nat, ∃ gh : Nat,  rdN H9 b3 0 3 = some [.int .i64 c12, .int .i64 c13, .slice fh jh gh] ∧ K (.tuple #[.agg #[.int .i64 c12, .int .i64 c13, .slice fh jh gh], .bool false]) H9) (∃ c15 : Int, ∃ c16 : Int, ∃ qh : OA, ∃ sh : Nat, ∃ rh : Nat,  rdN H8 b2 0 3 = some [.int .i64 c15, .int .i64 c16, .slice qh sh rh] ∧ T_f16z c15 c16 qh sh rh workers (.func 30) #[] #[.pointer (some ⟨b1, 0, none⟩)] H8 fun (r4 : Int) (r5 : Int) (a1 : OA) (r6 : Nat) (r7 : Nat) (r8 : Bool) (H10 : AHeap) => isOwn H10 b3 ∧ (∃ l, rdN H10 b3 0 3 = some l) ∧ Lt (setN H10 b3 0 [.int .i64 r4, .int .i64 r5, .slice a1 r6 r7]) fun H11 => ∃ c18 : Int, ∃ c19 : Int, ∃ dg : OA, ∃ fg : Nat, ∃ eg : Nat,  rdN H11 b3 0 3 = some [.int .i64 c18, .int .i64 c19, .slice dg fg eg] ∧ K (.tuple #[.agg #[.int .i64 c18, .int .i64 c19, .slice dg fg eg], .bool r8]) H11)))) := by kernel_rfl
theorem E_f3z_ok : ∀ g, FnOkX Try.prog (MainCls Try.prog) g (E_f3z g) := FnOkX.envOf (by
 intro x hx
 simp only [List.mem_cons, List.not_mem_nil, or_false] at hx
 rcases hx with rfl | rfl | rfl | rfl
 ·exact f9z_ok.le fun _ _ _ => trivial
 ·exact f5z_ok.le fun _ _ _ => trivial
 ·exact f17z_ok.le fun _ _ _ => trivial
 ·exact f16z_ok)
theorem LiftRows_ch {H : AHeap} {c : Nat} {wa : OA} {wn we : Nat} {sc : Nat} {la : OA} {ln : Nat} {ws l : LN} {W Hi : Int} {m : Nat} (hm : Hi = (m : Int)) (o : Own H c [.slice wa wn we, .float .f32 sc]) (iw : IsL fF H wa wn ws) (il : IsL fF H la ln l) (bw : ws.length < 1073741824)
  (h1 : 1 ≤ W) (h2 : W ≤ 16) (h3 : Hi ≤ 16) (hl : (l.length : Int) = W * Hi) : ChRows E_fuz (.func (.func 30) #[] #[.pointer (some ⟨c, 0, none⟩)]) H la W m (fun y => p_f2z (picRow l W y) ws sc) := by
 intro y hy H1 gg K hK
 obtain ⟨f1, f2, f3, f4⟩ := picRow_facts h1 h2 h3 hl (show (y : Int) < Hi by omega)
 refine (?_ : T_f2z ((la : OA).map fun a => ⟨a.block, a.off + ((y : Int) * W).toNat * 1, none⟩) ((((y : Int) + 1) * W - (y : Int) * W).toNat) 0 c H1 fun a n e r H' => K (.tuple #[.slice a n e, .bool r]) H')
 have hn := il.len
 refine ⟨wa, wn, we, sc, picRow l W y, ws, ((o.grow gg).rdN (Nat.le_of_ble_eq_true rfl)).trans rfl, sub_isl (il.grow gg) f1 f2 ω2, iw.grow gg, by omega, bw, fun a n e H' g2 o2 => hK a n e H' g2 o2⟩
theorem LiftRows_len {ws l : LN} {sc : Nat} {W Hi : Int} {i : Nat} (h1 : 1 ≤ W) (h2 : W ≤ 16) (h3 : Hi ≤ 16) (hl : (l.length : Int) = W * Hi) (hi : (i : Int) < Hi) : (p_f2z (picRow l W i) ws sc).1.length ≤ 64 ∧ ((p_f2z (picRow l W i) ws sc).2 = true → 1 ≤ (p_f2z (picRow l W i) ws sc).1.length) := by
 obtain ⟨f1, f2, f3, f4⟩ := picRow_facts h1 h2 h3 hl hi
 obtain ⟨a1, a2, a3⟩ := impl_LO_len ws sc (picRow l W i)
 have a4 := impl_LO_ok ws sc (picRow l W i)
 show ((p_frz ws sc (picRow l W i)).1 ++ (p_frz ws sc (picRow l W i)).2.1).length ≤ 64 ∧ ((p_frz ws sc (picRow l W i)).2.2 = true → 1 ≤ ((p_frz ws sc (picRow l W i)).1 ++ (p_frz ws sc (picRow l W i)).2.1).length)
 rw [List.length_append]
 refine ⟨by omega, fun h => ?_⟩
 obtain ⟨b1, b2⟩ := a4 h
 omega
theorem f3z_main (na : OA) (ya : Nat) (va : Nat) (s_Scale : Nat) (p_Wide : Int) (p_High : Int) (p_Lights_a : OA) (p_Lights_n : Nat) (p_Lights_e : Nat) (workers : Int) (H : AHeap) (K : Value → AHeap → Prop) (h : T_f3z na ya va s_Scale p_Wide p_High p_Lights_a p_Lights_n p_Lights_e workers H fun (r1_Wide : Int) (r1_High : Int) (oa : OA) (qa : Nat) (pa : Nat) (r2 : Bool) (H' : AHeap) => K (.tuple #[.agg #[.int .i64 r1_Wide, .int .i64 r1_High, .slice oa qa pa], .bool r2]) H') : bodyL Try.prog E_f3z Try.f11 [.agg #[.slice na ya va, .float .f32 s_Scale], .agg #[.int .i64 p_Wide, .int .i64 p_High, .slice p_Lights_a p_Lights_n p_Lights_e], .int .i64 workers] H K := by
 rw [f3z_vc]
 obtain ⟨ws, l, iw, il, bw, bl, rfl, hk⟩ := h
 obtain rfl := iw.eqn
 obtain rfl := il.eqn
 have e : p_f3z ws s_Scale p_Wide p_High l 1 = (bif p_f9z ws s_Scale then (bif p_f5z p_Wide p_High l then p_rows p_Wide p_High p_High.toNat (fun y => p_f2z (picRow l p_Wide y) ws s_Scale) else (0, 0, [], false)) else (0, 0, [], false)) := rfl
 rw [e] at hk
 refine Al.intro fun b1 H1 e1 l1 g1 o1 => Al.intro fun b2 H2 e2 l2 g2 o2 => Al.intro fun b3 H3 e3 l3 g3 o3 => ?_
 have G3 : Grow H H3 := (g1.trans g2).trans g3
 have p1 := (o1.grow g2).grow g3
 have p2 := o2.grow g3
 refine ⟨na, ws.length, va, s_Scale, (p1.rdN (Nat.le_of_ble_eq_true rfl)).trans rfl, T_f9z_i ⟨ws, iw.grow G3, bw, fun H4 g4 => ?_⟩⟩
 refine Br.intro (fun hv => ?_) (fun hv => ?_)
 ·refine Lt.setN (o3.grow g4) (n := 3) ω24 rfl fun H5 l5 q5 k5 => ⟨0, 0, none, 0, 0, (q5.rdN (Nat.le_of_ble_eq_true rfl)).trans rfl, ?_⟩
  rw [nf_of_t hv, cond_false] at hk
  exact hk none 0 0 H5 ((G3.trans g4).keep ω2 k5) (OwnS.nil _ _ _ _)
 rw [nt_of_f hv, cond_true] at hk
 refine ⟨p_Wide, p_High, p_Lights_a, l.length, p_Lights_e, ((p2.grow g4).rdN (Nat.le_of_ble_eq_true rfl)).trans rfl, T_f5z_i ⟨l, il.grow (G3.trans g4), bl, fun H6 g6 => ?_⟩⟩
 refine Br.intro (fun hp => ?_) (fun hp => ?_)
 ·refine Lt.setN ((o3.grow g4).grow g6) (n := 3) ω24 rfl fun H7 l7 q7 k7 => ⟨0, 0, none, 0, 0, (q7.rdN (Nat.le_of_ble_eq_true rfl)).trans rfl, ?_⟩
  rw [nf_of_t hp, cond_false] at hk
  exact hk none 0 0 H7 (((G3.trans g4).trans g6).keep ω2 k7) (OwnS.nil _ _ _ _)
 have hpv := nt_of_f hp
 rw [hpv, cond_true] at hk
 obtain ⟨w1, w2, w3, w4, w5, w6, w7⟩ := f5z_t hpv
 refine (?_ : T_f17z 1 1 8 H6 _)
 unfold T_f17z
 rw [show p_f17z 1 1 8 = true from rfl]
 refine Br.intro (fun h => by cases h) (fun _ => ?_)
 have G6 : Grow H H6 := (G3.trans g4).trans g6
 obtain ⟨m, rfl⟩ : ∃ m : Nat, p_High = (m : Int) := ⟨p_High.toNat, by omega⟩
 refine ⟨p_Wide, (m : Int), p_Lights_a, l.length, p_Lights_e, (((p2.grow g4).grow g6).rdN (Nat.le_of_ble_eq_true rfl)).trans rfl, ?_⟩
 refine ⟨l, fun y => p_f2z (picRow l p_Wide y) ws s_Scale, il.grow G6, rfl, w1, w2, w3, w4, w5, rfl, fun i hi => LiftRows_len w1 w2 w4 w5 ω2, LiftRows_ch (Hi := (m : Int)) ω2 ((p1.grow g4).grow g6) (iw.grow G6) (il.grow G6) bw w1 w2 w4 w5, fun a n e' H10 g10 o10 => ?_⟩
 have q3 := ((o3.grow g4).grow g6).grow g10
 refine Lt.setN q3 (n := 3) (Nat.le_of_ble_eq_true rfl) rfl fun H11 l11 q11 k11 => ⟨_, _, a, n, e', (q11.rdN (Nat.le_of_ble_eq_true rfl)).trans rfl, ?_⟩
 have lo := o10.lo
 have hle := G6.1
 refine hk a n e' H11 ((G6.trans g10).keep ω2 k11) ((o10.keepA (fun x y hx hy => by cases hx; have := lo y hy; have := (o3.grow g4).lt; have := g6.1; show b3 ≠ _; omega) (OwnS.keep1 k11)).weak hle)
theorem f3z_ok : FnOkX Try.prog (MainCls Try.prog) 11 S_f3z := by
 refine FnOkX.body (hLt := fun _ => lateMain) mix_ok E_f3z_ok Try.func11 rfl ω9 ω9 ?_ ?_ ?_ ?_ ?_
 ·intro args H K K' h hk
  simp only [S_f3z] at *
  unfold F_f3z at *
  split at hk
  ·obtain ⟨aa, fa, i_s, i_p, b_s, b_p, hw, k⟩ := hk
   exact ⟨aa, fa, i_s, i_p, b_s, b_p, hw, (fun qc uc tc H' gg ow0 => h _ _ (k qc uc tc H' gg ow0))⟩
  ·exact hk.elim
 ·intro hq; cases hq
 ·intro args H K hk
  simp only [S_f3z] at *
  unfold F_f3z at *
  split at hk
  ·obtain ⟨aa, fa, i_s, i_p, b_s, b_p, hw, k⟩ := hk
   exact liveS fun a n e H1 g o => ⟨_, _, k a n e H1 g o⟩
  ·exact hk.elim
 ·intro hq; cases hq
 ·have mm := @f3z_main
  have ml := fun (args : List Value) (H : AHeap) (K : Value → AHeap → Prop) => bodyL_body (P := Try.prog) (env := E_f3z ) (fn := Try.f11) (args := args) (H := H) (K := K) E_f3z_ok 
  revert mm ml
  generalize bodyK Try.prog E_f3z Try.f11 = Q
  generalize bodyL Try.prog E_f3z Try.f11 = QL
  intro mm ml args H K hk
  simp only [S_f3z] at *
  unfold F_f3z at *
  split at hk
  ·exact ml _ H K (mm _ _ _ _ _ _ _ _ _ _ H K hk)
  ·exact hk.elim

def p_ftz (aa : LN) (s_Scale : Nat) (p_Wide : Int) (p_High : Int) (fa : LN) : Int × Int × LN × Bool := ((p_f3z aa s_Scale p_Wide p_High fa (1 : Int)).1, (p_f3z aa s_Scale p_Wide p_High fa (1 : Int)).2.1, (p_f3z aa s_Scale p_Wide p_High fa (1 : Int)).2.2.1, (p_f3z aa s_Scale p_Wide p_High fa (1 : Int)).2.2.2)
def p_ftz_eq := @p_ftz.eq_1
def T_ftz (na : OA) (ya : Nat) (va : Nat) (s_Scale : Nat) (p_Wide : Int) (p_High : Int) (p_Lights_a : OA) (p_Lights_n : Nat) (p_Lights_e : Nat) (H : AHeap) (K : Int → Int → OA → Nat → Nat → Bool → AHeap → Prop) : Prop := ∃ (aa : LN), ∃ (fa : LN), IsL fF H na ya aa ∧ IsL fF H p_Lights_a p_Lights_n fa ∧ aa.length < 1073741824 ∧ fa.length < 1073741824 ∧ ((∀ (oa : OA) (qa pa : Nat), ∀ H' : AHeap, Grow H H' → OwnS fF H' H.length oa qa pa ((p_ftz aa s_Scale p_Wide p_High fa).2.2.1) → K ((p_ftz aa s_Scale p_Wide p_High fa).1) ((p_ftz aa s_Scale p_Wide p_High fa).2.1) oa qa pa ((p_ftz aa s_Scale p_Wide p_High fa).2.2.2) H'))
theorem T_ftz_i {na : OA} {ya : Nat} {va : Nat} {s_Scale : Nat} {p_Wide : Int} {p_High : Int} {p_Lights_a : OA} {p_Lights_n : Nat} {p_Lights_e : Nat} {H : AHeap} {K : Int → Int → OA → Nat → Nat → Bool → AHeap → Prop} (h : ∃ (aa : LN), ∃ (fa : LN), IsL fF H na ya aa ∧ IsL fF H p_Lights_a p_Lights_n fa ∧ aa.length < 1073741824 ∧ fa.length < 1073741824 ∧ ((∀ (oa : OA) (qa pa : Nat), ∀ H' : AHeap, Grow H H' → OwnS fF H' H.length oa qa pa ((p_ftz aa s_Scale p_Wide p_High fa).2.2.1) → K ((p_ftz aa s_Scale p_Wide p_High fa).1) ((p_ftz aa s_Scale p_Wide p_High fa).2.1) oa qa pa ((p_ftz aa s_Scale p_Wide p_High fa).2.2.2) H'))) : T_ftz na ya va s_Scale p_Wide p_High p_Lights_a p_Lights_n p_Lights_e H K := h
theorem p_rows_len {W Hi : Int} {m : Nat} {g : Nat → LN × Bool} (hm : m ≤ 16) (h : ∀ i, i < m → (g i).1.length ≤ 64) : (p_rows W Hi m g).2.2.1.length ≤ 1024 := by
 unfold p_rows
 have := flatR_len h m (Nat.le_refl _)
 cases (List.range m).all (fun i => (g i).2) with
 | false => simp
 | true =>
  rw [cond_true, p_f6z_eq]
  cases !(p_f5z W Hi (flatR g m)) with
  | true => simp
  | false => simp only [cond_false]; omega
theorem ftz_len (ws : LN) (sc : Nat) (W Hi : Int) (l : LN) : (p_ftz ws sc W Hi l).2.2.1.length ≤ 1024 := by
 rw [p_ftz_eq]
 show (p_f3z ws sc W Hi l 1).2.2.1.length ≤ 1024
 unfold p_f3z
 cases p_f9z ws sc with
 | false => simp
 | true =>
  rw [cond_true]
  cases h : p_f5z W Hi l with
  | false => simp
  | true =>
   rw [cond_true]
   obtain ⟨h1, h2, h3, h4, h5, _⟩ := f5z_t h
   exact p_rows_len ω2 fun i hi => (LiftRows_len h1 h2 h4 h5 ω2).1
/-! ftz: function 18 -/
def E_ftz : Env := envOf [(11, S_f3z)]
def F_ftz : List Value → AHeap → (Value → AHeap → Prop) → Prop
 | [.agg ⟨[.slice na ya va, .float .f32 s_Scale]⟩, .agg ⟨[.int .i64 p_Wide, .int .i64 p_High, .slice p_Lights_a p_Lights_n p_Lights_e]⟩], H, K => T_ftz na ya va s_Scale p_Wide p_High p_Lights_a p_Lights_n p_Lights_e H fun (r1_Wide : Int) (r1_High : Int) (oa : OA) (qa : Nat) (pa : Nat) (r2 : Bool) (H' : AHeap) => K (.tuple #[.agg #[.int .i64 r1_Wide, .int .i64 r1_High, .slice oa qa pa], .bool r2]) H'
 | _, _, _ => False
def S_ftz : FSpec := { F := F_ftz, quiet := false, tame := true }
theorem ftz_vc (na : OA) (ya : Nat) (va : Nat) (s_Scale : Nat) (p_Wide : Int) (p_High : Int) (p_Lights_a : OA) (p_Lights_n : Nat) (p_Lights_e : Nat) (H : AHeap) (K : Value → AHeap → Prop) : bodyL Try.prog E_ftz Try.f18 [.agg #[.slice na ya va, .float .f32 s_Scale], .agg #[.int .i64 p_Wide, .int .i64 p_High, .slice p_Lights_a p_Lights_n p_Lights_e]] H K =
 (Al [.slice na ya va, .float .f32 s_Scale] H fun b1 H1 => Al [.int .i64 p_Wide, .int .i64 p_High, .slice p_Lights_a p_Lights_n p_Lights_e] H1 fun b2 H2 => Al [.int .i64 0, .int .i64 0, .slice none 0 0] H2 fun b3 H3 => ∃ se : OA, ∃ ue : Nat, ∃ te : Nat, ∃ c2 : Nat,  rdN H3 b1 0 2 = some [.slice se ue te, .float .f32 c2] ∧ ∃ c3 : Int, ∃ c4 : Int, ∃ ig : OA, ∃ kg : Nat, ∃ jg : Nat,  rdN H3 b2 0 3 = some [.int .i64 c3, .int .i64 c4, .slice ig kg jg] ∧ T_f3z se ue te c2 c3 c4 ig kg jg 1 H3 fun (r1 : Int) (r2 : Int) (a1 : OA) (r3 : Nat) (r4 : Nat) (r5 : Bool) (H4 : AHeap) => isOwn H4 b3 ∧ (∃ l, rdN H4 b3 0 3 = some l) ∧ Lt (setN H4 b3 0 [.int .i64 r1, .int .i64 r2, .slice a1 r3 r4]) fun H5 => ∃ c6 : Int, ∃ c7 : Int, ∃ lg : OA, ∃ ng : Nat, ∃ mg : Nat,  rdN H5 b3 0 3 = some [.int .i64 c6, .int .i64 c7, .slice lg ng mg] ∧ K (.tuple #[.agg #[.int .i64 c6, .int .i64 c7, .slice lg ng mg], .bool r5]) H5) := by kernel_rfl
theorem E_ftz_ok : ∀ g, FnOkX Try.prog (MainCls Try.prog) g (E_ftz g) := FnOkX.envOf (by
 intro x hx
 simp only [List.mem_cons, List.not_mem_nil, or_false] at hx
 subst hx; exact f3z_ok)
theorem ftz_main (na : OA) (ya : Nat) (va : Nat) (s_Scale : Nat) (p_Wide : Int) (p_High : Int) (p_Lights_a : OA) (p_Lights_n : Nat) (p_Lights_e : Nat) (H : AHeap) (K : Value → AHeap → Prop) (h : T_ftz na ya va s_Scale p_Wide p_High p_Lights_a p_Lights_n p_Lights_e H fun (r1_Wide : Int) (r1_High : Int) (oa : OA) (qa : Nat) (pa : Nat) (r2 : Bool) (H' : AHeap) => K (.tuple #[.agg #[.int .i64 r1_Wide, .int .i64 r1_High, .slice oa qa pa], .bool r2]) H') : bodyL Try.prog E_ftz Try.f18 [.agg #[.slice na ya va, .float .f32 s_Scale], .agg #[.int .i64 p_Wide, .int .i64 p_High, .slice p_Lights_a p_Lights_n p_Lights_e]] H K := by
 rw [ftz_vc]
 obtain ⟨aa, fa, i_s_Weights, i_p_Lights, bd_66, bd_67, hk⟩ := h
 obtain rfl := i_s_Weights.eqn
 obtain rfl := i_p_Lights.eqn
 have e : (p_ftz aa s_Scale p_Wide p_High fa) = _ := rfl
 have e := e.trans (p_ftz_eq aa s_Scale p_Wide p_High fa)
 have g0 := Grow.refl H
 refine Al.intro (fun b_1 H_1 hb_2 hl_3 g_4 o_5 => ?_)
 have l_7 := g_4.1
 have g_8 := g0.trans g_4
 have l_9 := g_8.1
 have w65 := o_5.lt
 refine Al.intro (fun b_10 H_2 hb_11 hl_12 g13 o_14 => ?_)
 have l_16 := g13.1
 have g17 := g_8.trans g13
 have l_18 := g17.1
 have o19 := o_5.grow g13
 have w20 := o19.lt
 have w64 := o_14.lt
 refine Al.intro (fun b_21 H_3 hb_22 hl_23 g24 o25 => ?_)
 have l27 := g24.1
 have g28 := g17.trans g24
 have l29 := g28.1
 have o30 := o19.grow g24
 have w31 := o30.lt
 have o32 := o_14.grow g24
 have w33 := o32.lt
 have w63 := o25.lt
 refine ⟨na, aa.length, va, s_Scale, (o30.rdN (Nat.le_of_ble_eq_true rfl)).trans rfl, ?_⟩
 refine ⟨p_Wide, p_High, p_Lights_a, fa.length, p_Lights_e, (o32.rdN (Nat.le_of_ble_eq_true rfl)).trans rfl, ?_⟩
 refine T_f3z_i ⟨_, _, (i_s_Weights.grow g28), (i_p_Lights.grow g28), ω0, ω0, ω14, fun a34 n35 e36 H_4 g38 r_37 => ?_⟩
 have l39 := g38.1
 have g40 := g28.trans g38
 have l41 := g40.1
 have o42 := o30.grow g38
 have w43 := o42.lt
 have o44 := o32.grow g38
 have w45 := o44.lt
 have o46 := o25.grow g38
 have w47 := o46.lt
 obtain rfl := r_37.isL.eqn
 have u48 := r_37.up
 have u49 := r_37.lo
 refine Lt.setN (n := 3) o46 (Nat.le_of_ble_eq_true rfl) rfl (fun H_5 hl_51 o53 k52 => ?_)
 have o53 : Own H_5 b_21 [.int .i64 ((p_f3z aa s_Scale p_Wide p_High fa (1 : Int)).1), .int .i64 ((p_f3z aa s_Scale p_Wide p_High fa (1 : Int)).2.1), .slice a34 (((p_f3z aa s_Scale p_Wide p_High fa (1 : Int)).2.2.1).length) e36] := o53
 have l54 := k52.1
 have g55 := g40.keep (b := b_21) ω2 k52
 have l56 := g55.1
 have o57 := o42.keep ω2 k52
 have w58 := o57.lt
 have o59 := o44.keep ω2 k52
 have w60 := o59.lt
 have r61 := r_37.keep u48 ω2 k52
 have w62 := o53.lt
 refine ⟨(p_f3z aa s_Scale p_Wide p_High fa (1 : Int)).1, (p_f3z aa s_Scale p_Wide p_High fa (1 : Int)).2.1, a34, ((p_f3z aa s_Scale p_Wide p_High fa (1 : Int)).2.2.1).length, e36, (o53.rdN (Nat.le_of_ble_eq_true rfl)).trans rfl, ?_⟩
 rw [e] at hk
 exact hk _ _ _ H_5 g55 (r61.weak ω2)
theorem ftz_ok : FnOkX Try.prog (MainCls Try.prog) 18 S_ftz := by
 refine FnOkX.body (hLt := fun _ => lateMain) mix_ok E_ftz_ok Try.func18 rfl ω9 ω9 ?_ ?_ ?_ ?_ ?_
 ·intro args H K K' h hk
  simp only [S_ftz] at *
  unfold F_ftz at *
  split at hk
  ·obtain ⟨aa, fa, i_s_Weights, i_p_Lights, bd_66, bd_67, k⟩ := hk
   exact ⟨aa, fa, i_s_Weights, i_p_Lights, bd_66, bd_67, (fun oa qa pa H' gg ow0 => h _ _ (k oa qa pa H' gg ow0))⟩
  ·exact hk.elim
 ·intro hq; cases hq
 ·intro args H K hk
  simp only [S_ftz] at *
  unfold F_ftz at *
  split at hk
  ·obtain ⟨aa, fa, i_s_Weights, i_p_Lights, bd_66, bd_67, k⟩ := hk
   exact liveS fun a n e H1 g o => ⟨_, _, k a n e H1 g o⟩
  ·exact hk.elim
 ·intro _ args H K hk
  simp only [S_ftz] at *
  unfold F_ftz at *
  split at hk
  ·obtain ⟨aa, fa, i_s_Weights, i_p_Lights, bd_66, bd_67, k⟩ := hk
   exact ⟨aa, fa, i_s_Weights, i_p_Lights, bd_66, bd_67, (fun oa qa pa H' gg ow0 => ⟨gg, k oa qa pa H' gg ow0⟩)⟩
  ·exact hk.elim
 ·have mm := @ftz_main
  have ml := fun (args : List Value) (H : AHeap) (K : Value → AHeap → Prop) => bodyL_body (P := Try.prog) (env := E_ftz ) (fn := Try.f18) (args := args) (H := H) (K := K) E_ftz_ok 
  revert mm ml
  generalize bodyK Try.prog E_ftz Try.f18 = Q
  generalize bodyL Try.prog E_ftz Try.f18 = QL
  intro mm ml args H K hk
  simp only [S_ftz] at *
  unfold F_ftz at *
  split at hk
  ·exact ml _ H K (mm _ _ _ _ _ _ _ _ _ H K hk)
  ·exact hk.elim
def p_fjz (a : Nat) (b : Nat) : Bool := ((bif !(feq .f64 a a) then (bif !(feq .f64 a a) then !(feq .f64 b b) else false) else (bif !(feq .f64 b b) then (bif !(feq .f64 a a) then !(feq .f64 b b) else false) else (bif feq .f64 a 0 then (bif feq .f64 b 0 then (flt .f64 0 (fdiv .f64 4607182418800017408 a)) == (flt .f64 0 (fdiv .f64 4607182418800017408 b)) else feq .f64 a b) else feq .f64 a b))))
def p_fjz_eq := @p_fjz.eq_1
def T_fjz (a : Nat) (b : Nat) (H : AHeap) (K : Bool → AHeap → Prop) : Prop := K (p_fjz a b) H

theorem T_fjz_i {a : Nat} {b : Nat} {H : AHeap} {K : Bool → AHeap → Prop} (h : K (p_fjz a b) H) : T_fjz a b H K := h
/-! fjz: function 33 -/
def E_fjz : Env := envOf []
def F_fjz : List Value → AHeap → (Value → AHeap → Prop) → Prop
 | [.float .f64 a, .float .f64 b], H, K => T_fjz a b H fun (r1 : Bool) (H' : AHeap) => K (.bool r1) H'
 | _, _, _ => False
def S_fjz : FSpec := { F := F_fjz, quiet := true, tame := false }
theorem fjz_vc (a : Nat) (b : Nat) (H : AHeap) (K : Value → AHeap → Prop) : bodyL Try.prog E_fjz Try.f33 [.float .f64 a, .float .f64 b] H K =
 (Br (!(feq .f64 a a)) (Br (!(feq .f64 a a)) (K (.bool (!(feq .f64 b b))) H) (K (.bool false) H)) (Br (!(feq .f64 b b)) (Br (!(feq .f64 a a)) (K (.bool (!(feq .f64 b b))) H) (K (.bool false) H)) (Br (feq .f64 a 0) (Br (feq .f64 b 0) (K (.bool ((flt .f64 0 (fdiv .f64 4607182418800017408 a)) == (flt .f64 0 (fdiv .f64 4607182418800017408 b)))) H) (K (.bool (feq .f64 a b)) H)) (K (.bool (feq .f64 a b)) H)))) := by kernel_rfl
theorem E_fjz_ok : ∀ g, FnOk Try.prog g (E_fjz g) := FnOk.envOf (by
 intro x hx; cases hx)
theorem fjz_main (a : Nat) (b : Nat) (H : AHeap) (K : Value → AHeap → Prop) (h : T_fjz a b H fun (r1 : Bool) (H' : AHeap) => K (.bool r1) H') : bodyL Try.prog E_fjz Try.f33 [.float .f64 a, .float .f64 b] H K := by
 rw [fjz_vc]
 unfold T_fjz p_fjz at h
 repeat' (first | exact h | (exfalso; simp_all; done) | (refine ⟨by decide, ?_⟩) | (refine Br.intro (fun hb => ?_) (fun hb => ?_) <;> (try simp only [hb, cond_true, cond_false, Bool.not_true, Bool.not_false] at h)))
theorem fjz_ok : FnOk Try.prog 33 S_fjz := by
 refine FnOk.body mix_ok E_fjz_ok Try.func33 rfl ω9 ω9 ?_ ?_ ?_ ?_ ?_
 ·intro args H K K' h hk
  simp only [S_fjz] at *
  unfold F_fjz at *
  split at hk
  ·have k := hk
   exact h _ _ k
  ·exact hk.elim
 ·intro _ args H K hk
  simp only [S_fjz] at *
  unfold F_fjz at *
  split at hk
  ·have k := hk
   exact ⟨_, k, fun K' k' => k'⟩
  ·exact hk.elim
 ·intro args H K hk
  simp only [S_fjz] at *
  unfold F_fjz at *
  split at hk
  ·have k := hk
   exact ⟨_, _, k⟩
  ·exact hk.elim
 ·intro hq; cases hq
 ·have mm := @fjz_main
  have ml := fun (args : List Value) (H : AHeap) (K : Value → AHeap → Prop) => bodyL_body (P := Try.prog) (env := E_fjz ) (fn := Try.f33) (args := args) (H := H) (K := K) E_fjz_ok 
  revert mm ml
  generalize bodyK Try.prog E_fjz Try.f33 = Q
  generalize bodyL Try.prog E_fjz Try.f33 = QL
  intro mm ml args H K hk
  simp only [S_fjz] at *
  unfold F_fjz at *
  split at hk
  ·exact ml _ H K (mm _ _ H K hk)
  ·exact hk.elim

def p_fdz_l1 (l_a : LN) (l_b : LN) : Nat → Bool → Int → Bool
 | 0, _, _ => false
 | μ + 1, t4, i => (bif decide ((i : Int) < (l_a.length : Int)) then (bif !((p_fjz (fwide (((l_a).getD (i : Int).toNat 0))) (fwide (((l_b).getD (i : Int).toNat 0))))) then false else (p_fdz_l1 l_a l_b μ t4 (i + 1))) else true)
def p_fdz_l1_s := fun l_a l_b μ t4 i => @p_fdz_l1.eq_2 l_a l_b t4 i μ
def p_fdz (l_a : LN) (l_b : LN) : Bool := ((bif ((l_a.length : Int) : Int) != (l_b.length : Int) then false else (p_fdz_l1 l_a l_b (Int.toNat ((l_a.length : Int) - (0 : Int)) + 1) false (0 : Int))))
def p_fdz_eq := @p_fdz.eq_1
def T_fdz (a_a : OA) (a_n : Nat) (a_e : Nat) (b_a : OA) (b_n : Nat) (b_e : Nat) (H : AHeap) (K : Bool → AHeap → Prop) : Prop := ∃ (l_a : LN), ∃ (l_b : LN), IsL fF H a_a a_n l_a ∧ IsL fF H b_a b_n l_b ∧ l_a.length < 1073741824 ∧ l_b.length < 1073741824 ∧ K (p_fdz l_a l_b) H
theorem T_fdz_i {a_a : OA} {a_n : Nat} {a_e : Nat} {b_a : OA} {b_n : Nat} {b_e : Nat} {H : AHeap} {K : Bool → AHeap → Prop} (h : ∃ (l_a : LN), ∃ (l_b : LN), IsL fF H a_a a_n l_a ∧ IsL fF H b_a b_n l_b ∧ l_a.length < 1073741824 ∧ l_b.length < 1073741824 ∧ K (p_fdz l_a l_b) H) : T_fdz a_a a_n a_e b_a b_n b_e H K := h
theorem fjz_self (y : Nat) : p_fjz y y = true := by
 rw [p_fjz_eq]
 cases feq .f64 y y <;> simp
theorem fdz_go (l : LN) : ∀ (μ : Nat) (t : Bool) (i : Nat), l.length - i < μ → p_fdz_l1 l l μ t (i : Int) = true := by
 intro μ
 induction μ with
 | zero => intro t i h; omega
 | succ μ ih =>
  intro t i hm
  rw [p_fdz_l1_s]
  by_cases h : i < l.length
  ·rw [decide_eq_true (show (i : Int) < (l.length : Int) by omega), cond_true, fjz_self]
   simp only [Bool.not_true, cond_false]
   exact ih t (i + 1) ω2
  ·rw [decide_eq_false (show ¬ (i : Int) < (l.length : Int) by omega), cond_false]
theorem fdz_self (l : LN) : p_fdz l l = true := by
 rw [p_fdz_eq]
 have h0 : ((l.length : Int) != (l.length : Int)) = false := by simp
 rw [h0, cond_false]
 exact fdz_go l _ false 0 ω2
/-! fdz: function 32 -/
def E_fdz : Env := envOf [(33, S_fjz)]
def F_fdz : List Value → AHeap → (Value → AHeap → Prop) → Prop
 | [.slice a_a a_n a_e, .slice b_a b_n b_e], H, K => T_fdz a_a a_n a_e b_a b_n b_e H fun (r1 : Bool) (H' : AHeap) => K (.bool r1) H'
 | _, _, _ => False
def S_fdz : FSpec := { F := F_fdz, quiet := true, tame := false }
theorem fdz_vc (a_a : OA) (a_n : Nat) (a_e : Nat) (b_a : OA) (b_n : Nat) (b_e : Nat) (H : AHeap) (K : Value → AHeap → Prop) : bodyL Try.prog E_fdz Try.f32 [.slice a_a a_n a_e, .slice b_a b_n b_e] H K =
 (Br (((a_n : Int) : Int) != (b_n : Int)) (K (.bool false) H) (loopK (exL Try.prog E_fdz (cl (cl (cr (cl (cr (cr (bodyC Try.f32))))))) 35 16 [(0, 0)]) (.slice a_a a_n a_e :: .slice b_a b_n b_e :: ud3 (.int .i64 0 :: ud23 [])) H (blockQ 0 (seqQ (exL Try.prog E_fdz (cr (cr (cr (bodyC Try.f32)))) 16 16 []) (retK Try.prog Try.f32 K))))) := by kernel_rfl
abbrev fdz_P1 (a_a : OA) (a_e : Nat) (a_n : Nat) (b_a : OA) (b_e : Nat) (b_n : Nat) (i : Int)  : List Value := (.slice a_a a_n a_e :: .slice b_a b_n b_e :: ud3 (.int .i64 i :: ud23 []))
theorem fdz_r1 (a_a : OA) (a_e : Nat) (a_n : Nat) (b_a : OA) (b_e : Nat) (b_n : Nat) (i : Int)  (H : AHeap) (R : Post) : exL Try.prog E_fdz (cl (cl (cr (cl (cr (cr (bodyC Try.f32))))))) 35 16 [(0, 0)] (fdz_P1 a_a a_e a_n b_a b_e b_n i) H R =
 (Br (decide ((i : Int) < (a_n : Int))) ((0 : Int) ≤ i ∧ i < (a_n : Int) ∧ ∃ b1 f1, (a_a : OA) = some ⟨b1, f1, none⟩ ∧ ∃ x1 : Nat,  rdC H b1 (f1 + (i : Int).toNat * 1) = some (.float .f32 x1) ∧ (0 : Int) ≤ i ∧ i < (b_n : Int) ∧ ∃ b2 f2, (b_a : OA) = some ⟨b2, f2, none⟩ ∧ ∃ x2 : Nat,  rdC H b2 (f2 + (i : Int).toNat * 1) = some (.float .f32 x2) ∧ T_fjz (fwide x1) (fwide x2) H fun (r1 : Bool) (H1 : AHeap) => Br (!r1) (R .ret (ud4 (.bool false :: ud24 [])) H1) (R .normal (.slice a_a a_n a_e :: .slice b_a b_n b_e :: ud3 (.int .i64 (IntKind.wrap .i64 (i + 1)) :: ud23 [])) H1)) (R (.exit 0) (ud29 []) H)) := by kernel_rfl
def fdz_I1 (a_a : OA) (a_e : Nat) (a_n : Nat) (b_a : OA) (b_e : Nat) (b_n : Nat) (Inv : Nat → Int → AHeap → Prop) : Nat → List Value → AHeap → Prop := fun μ tm H => ∃ (i : Int), tm = (fdz_P1 a_a a_e a_n b_a b_e b_n i) ∧ Inv μ i H
theorem fdz_L1 (a_a : OA) (a_e : Nat) (a_n : Nat) (b_a : OA) (b_e : Nat) (b_n : Nat) {Q : Post} (Inv : Nat → Int → AHeap → Prop) (ν : Nat) (i : Int)  (H : AHeap) (h0 : Inv ν i H)
  (hs : ∀ (μ : Nat) (i : Int)  (H : AHeap), Inv μ i H → exL Try.prog E_fdz (cl (cl (cr (cl (cr (cr (bodyC Try.f32))))))) 35 16 [(0, 0)] (fdz_P1 a_a a_e a_n b_a b_e b_n i) H (loopQ (fdz_I1 a_a a_e a_n b_a b_e b_n Inv) μ Q)) : loopK (exL Try.prog E_fdz (cl (cl (cr (cl (cr (cr (bodyC Try.f32))))))) 35 16 [(0, 0)]) (fdz_P1 a_a a_e a_n b_a b_e b_n i) H Q :=
 ⟨fdz_I1 a_a a_e a_n b_a b_e b_n Inv, ν, ⟨i, rfl, h0⟩, fun μ tm H h => by obtain ⟨i, rfl, hI⟩ := h; exact hs μ i  H hI⟩
theorem fdz_n1 {a_a : OA} {a_e : Nat} {a_n : Nat} {b_a : OA} {b_e : Nat} {b_n : Nat} {Q : Post} {Inv : Nat → Int → AHeap → Prop} {μ : Nat} (μ' : Nat) {i : Int}  {H : AHeap} (hm : μ' < μ) (hI : Inv μ' i H) : loopQ (fdz_I1 a_a a_e a_n b_a b_e b_n Inv) μ Q .normal (fdz_P1 a_a a_e a_n b_a b_e b_n i) H := ⟨μ', hm, i, rfl, hI⟩
theorem fdz_x1_0  (H : AHeap) (K : Value → AHeap → Prop)  {I : Nat → List Value → AHeap → Prop} {μ : Nat} : loopQ I μ (blockQ 0 (seqQ (exL Try.prog E_fdz (cr (cr (cr (bodyC Try.f32)))) 16 16 []) (retK Try.prog Try.f32 K))) (.exit 0) (ud29 []) H =
 (K (.bool true) H) := by kernel_rfl
theorem fdz_x1_ret (t4 : Bool) (H : AHeap) (K : Value → AHeap → Prop)  {I : Nat → List Value → AHeap → Prop} {μ : Nat} : loopQ I μ (blockQ 0 (seqQ (exL Try.prog E_fdz (cr (cr (cr (bodyC Try.f32)))) 16 16 []) (retK Try.prog Try.f32 K))) .ret (ud4 (.bool t4 :: ud24 [])) H =
 (K (.bool t4) H) := by kernel_rfl
theorem E_fdz_ok : ∀ g, FnOk Try.prog g (E_fdz g) := FnOk.envOf (by
 intro x hx
 simp only [List.mem_cons, List.not_mem_nil, or_false] at hx
 subst hx; exact fjz_ok)
theorem fdz_main (a_a : OA) (a_n : Nat) (a_e : Nat) (b_a : OA) (b_n : Nat) (b_e : Nat) (H : AHeap) (K : Value → AHeap → Prop) (h : T_fdz a_a a_n a_e b_a b_n b_e H fun (r1 : Bool) (H' : AHeap) => K (.bool r1) H') : bodyL Try.prog E_fdz Try.f32 [.slice a_a a_n a_e, .slice b_a b_n b_e] H K := by
 rw [fdz_vc]
 obtain ⟨l_a, l_b, i_a, i_b, bd_13, bd_14, hk⟩ := h
 obtain rfl := i_a.eqn
 obtain rfl := i_b.eqn
 have e : (p_fdz l_a l_b) = _ := rfl
 have e := e.trans (p_fdz_eq l_a l_b)
 have g0 := Grow.refl H
 refine Br.intro (fun c_1 => ?_) (fun c_1 => ?_)
 ·have e := e.trans (cond_t c_1)
  have c_1' := ine_t c_1
  rw [e] at hk
  exact hk
 ·have e := e.trans (cond_f c_1)
  have c_1' := ine_f c_1
  refine fdz_L1 _ _ _ _ _ _ (fun (μ : Nat) (i : Int) (H_1 : AHeap) => ∃ (t4 : Bool), H = H_1 ∧ (0 : Int) ≤ i ∧ i ≤ (l_a.length : Int) ∧ (l_a.length : Int) - i ≤ (μ : Int) ∧ p_fdz l_a l_b = p_fdz_l1 l_a l_b (μ + 1) t4 i) (Int.toNat ((l_a.length : Int) - (0 : Int))) _ H ?_ ?_
  ·exact ⟨_, rfl, ω6, ω6, ω2, e⟩
  ·intro μ i  H_1 hI
   obtain ⟨t4, rfl, v_2, v_3, hμ, e⟩ := hI
   rw [fdz_r1]
   have e := e.trans (p_fdz_l1_s l_a l_b μ t4 i)
   have l_4 := g0.1
   refine Br.intro (fun c_5 => ?_) (fun c_5 => ?_)
   ·have e := e.trans (cond_t c_5)
    have c_5' := of_decide_eq_true c_5
    obtain ⟨b_6, f_7, q_8⟩ := ((i_a.grow g0)).pos ω0
    refine ⟨by omega, by omega, b_6, f_7, q_8, ?_⟩
    refine ⟨((l_a).getD (i : Int).toNat 0), (i_a).rd g0 q_8 ω2 _, ?_⟩
    obtain ⟨b_9, f_10, q_11⟩ := ((i_b.grow g0)).pos ω0
    refine ⟨by omega, by omega, b_9, f_10, q_11, ?_⟩
    refine ⟨((l_b).getD (i : Int).toNat 0), (i_b).rd g0 q_11 ω2 _, ?_⟩
    refine T_fjz_i ?_
    refine Br.intro (fun c_12 => ?_) (fun c_12 => ?_)
    ·have e := e.trans (cond_t c_12)
     have c_12n := nf_of_t c_12
     rw [fdz_x1_ret]
     rw [e] at hk
     exact hk
    ·have e := e.trans (cond_f c_12)
     have c_12n := nt_of_f c_12
     rw [show IntKind.wrap .i64 (i + 1) = (i + 1) from wrap64 ω2 ω2]
     refine fdz_n1 (μ - 1) ω15 ⟨_, rfl, ω1, ω1, ω15, ω13⟩
   ·have e := e.trans (cond_f c_5)
    have c_5' := of_decide_eq_false c_5
    rw [fdz_x1_0]
    rw [e] at hk
    exact hk
theorem fdz_ok : FnOk Try.prog 32 S_fdz := by
 refine FnOk.body mix_ok E_fdz_ok Try.func32 rfl ω9 ω9 ?_ ?_ ?_ ?_ ?_
 ·intro args H K K' h hk
  simp only [S_fdz] at *
  unfold F_fdz at *
  split at hk
  ·obtain ⟨l_a, l_b, i_a, i_b, bd_13, bd_14, k⟩ := hk
   exact ⟨l_a, l_b, i_a, i_b, bd_13, bd_14, h _ _ k⟩
  ·exact hk.elim
 ·intro _ args H K hk
  simp only [S_fdz] at *
  unfold F_fdz at *
  split at hk
  ·obtain ⟨l_a, l_b, i_a, i_b, bd_13, bd_14, k⟩ := hk
   exact ⟨_, k, fun K' k' => ⟨l_a, l_b, i_a, i_b, bd_13, bd_14, k'⟩⟩
  ·exact hk.elim
 ·intro args H K hk
  simp only [S_fdz] at *
  unfold F_fdz at *
  split at hk
  ·obtain ⟨l_a, l_b, i_a, i_b, bd_13, bd_14, k⟩ := hk
   exact ⟨_, _, k⟩
  ·exact hk.elim
 ·intro hq; cases hq
 ·have mm := @fdz_main
  have ml := fun (args : List Value) (H : AHeap) (K : Value → AHeap → Prop) => bodyL_body (P := Try.prog) (env := E_fdz ) (fn := Try.f32) (args := args) (H := H) (K := K) E_fdz_ok 
  revert mm ml
  generalize bodyK Try.prog E_fdz Try.f32 = Q
  generalize bodyL Try.prog E_fdz Try.f32 = QL
  intro mm ml args H K hk
  simp only [S_fdz] at *
  unfold F_fdz at *
  split at hk
  ·exact ml _ H K (mm _ _ _ _ _ _ H K hk)
  ·exact hk.elim

def p_fiz (a_Wide : Int) (a_High : Int) (ia : LN) (b_Wide : Int) (b_High : Int) (wc : LN) : Bool := ((bif (a_Wide : Int) != b_Wide then false else (bif (a_High : Int) != b_High then false else (bif !(p_fdz ia wc) then false else true))))
def p_fiz_eq := @p_fiz.eq_1
def T_fiz (a_Wide : Int) (a_High : Int) (ta : OA) (cb : Nat) (db : Nat) (b_Wide : Int) (b_High : Int) (xd : OA) (ae : Nat) (ee : Nat) (H : AHeap) (K : Bool → AHeap → Prop) : Prop := ∃ (ia : LN), ∃ (wc : LN), IsL fF H ta cb ia ∧ IsL fF H xd ae wc ∧ ia.length < 1073741824 ∧ wc.length < 1073741824 ∧ ((∀ H' : AHeap, Grow H H' → K (p_fiz a_Wide a_High ia b_Wide b_High wc) H'))
theorem T_fiz_i {a_Wide : Int} {a_High : Int} {ta : OA} {cb : Nat} {db : Nat} {b_Wide : Int} {b_High : Int} {xd : OA} {ae : Nat} {ee : Nat} {H : AHeap} {K : Bool → AHeap → Prop} (h : ∃ (ia : LN), ∃ (wc : LN), IsL fF H ta cb ia ∧ IsL fF H xd ae wc ∧ ia.length < 1073741824 ∧ wc.length < 1073741824 ∧ ((∀ H' : AHeap, Grow H H' → K (p_fiz a_Wide a_High ia b_Wide b_High wc) H'))) : T_fiz a_Wide a_High ta cb db b_Wide b_High xd ae ee H K := h
theorem fiz_self (a b : Int) (l : LN) : p_fiz a b l a b l = true := by
 rw [p_fiz_eq, fdz_self]
 simp
/-! fiz: function 12 -/
def E_fiz : Env := envOf [(32, S_fdz)]
def F_fiz : List Value → AHeap → (Value → AHeap → Prop) → Prop
 | [.agg ⟨[.int .i64 a_Wide, .int .i64 a_High, .slice ta cb db]⟩, .agg ⟨[.int .i64 b_Wide, .int .i64 b_High, .slice xd ae ee]⟩], H, K => T_fiz a_Wide a_High ta cb db b_Wide b_High xd ae ee H fun (r1 : Bool) (H' : AHeap) => K (.bool r1) H'
 | _, _, _ => False
def S_fiz : FSpec := { F := F_fiz, quiet := false, tame := true }
theorem fiz_vc (a_Wide : Int) (a_High : Int) (ta : OA) (cb : Nat) (db : Nat) (b_Wide : Int) (b_High : Int) (xd : OA) (ae : Nat) (ee : Nat) (H : AHeap) (K : Value → AHeap → Prop) : bodyL Try.prog E_fiz Try.f12 [.agg #[.int .i64 a_Wide, .int .i64 a_High, .slice ta cb db], .agg #[.int .i64 b_Wide, .int .i64 b_High, .slice xd ae ee]] H K =
 (Al [.int .i64 a_Wide, .int .i64 a_High, .slice ta cb db] H fun b1 H1 => Al [.int .i64 b_Wide, .int .i64 b_High, .slice xd ae ee] H1 fun b2 H2 => ∃ x1 : Int,  rdC H2 b1 0 = some (.int .i64 x1) ∧ ∃ x2 : Int,  rdC H2 b2 0 = some (.int .i64 x2) ∧ Br ((x1 : Int) != x2) (K (.bool false) H2) (∃ x3 : Int,  rdC H2 b1 1 = some (.int .i64 x3) ∧ ∃ x4 : Int,  rdC H2 b2 1 = some (.int .i64 x4) ∧ Br ((x3 : Int) != x4) (K (.bool false) H2) (∃ yg : OA, ∃ zg : Nat, ∃ ah : Nat,  rdC H2 b1 2 = some (.slice yg zg ah) ∧ ∃ pe : OA, ∃ oe : Nat, ∃ qe : Nat,  rdC H2 b2 2 = some (.slice pe oe qe) ∧ T_fdz yg zg ah pe oe qe H2 fun (r1 : Bool) (H3 : AHeap) => Br (!r1) (K (.bool false) H3) (K (.bool true) H3)))) := by kernel_rfl
theorem E_fiz_ok : ∀ g, FnOk Try.prog g (E_fiz g) := FnOk.envOf (by
 intro x hx
 simp only [List.mem_cons, List.not_mem_nil, or_false] at hx
 subst hx; exact fdz_ok)
theorem fiz_main (a_Wide : Int) (a_High : Int) (ta : OA) (cb : Nat) (db : Nat) (b_Wide : Int) (b_High : Int) (xd : OA) (ae : Nat) (ee : Nat) (H : AHeap) (K : Value → AHeap → Prop) (h : T_fiz a_Wide a_High ta cb db b_Wide b_High xd ae ee H fun (r1 : Bool) (H' : AHeap) => K (.bool r1) H') : bodyL Try.prog E_fiz Try.f12 [.agg #[.int .i64 a_Wide, .int .i64 a_High, .slice ta cb db], .agg #[.int .i64 b_Wide, .int .i64 b_High, .slice xd ae ee]] H K := by
 rw [fiz_vc]
 obtain ⟨ia, wc, i_a_Lights, i_b_Lights, bd_26, bd_27, hk⟩ := h
 obtain rfl := i_a_Lights.eqn
 obtain rfl := i_b_Lights.eqn
 have e : (p_fiz a_Wide a_High ia b_Wide b_High wc) = _ := rfl
 have e := e.trans (p_fiz_eq a_Wide a_High ia b_Wide b_High wc)
 have g0 := Grow.refl H
 refine Al.intro (fun b_1 H_1 hb_2 hl_3 g_4 o_5 => ?_)
 have l_7 := g_4.1
 have g_8 := g0.trans g_4
 have l_9 := g_8.1
 have w25 := o_5.lt
 refine Al.intro (fun b_10 H_2 hb_11 hl_12 g13 o_14 => ?_)
 have l_16 := g13.1
 have g17 := g_8.trans g13
 have l_18 := g17.1
 have o19 := o_5.grow g13
 have w20 := o19.lt
 have w24 := o_14.lt
 refine ⟨a_Wide, (o19.rdC _).trans rfl, ?_⟩
 refine ⟨b_Wide, (o_14.rdC _).trans rfl, ?_⟩
 refine Br.intro (fun c_21 => ?_) (fun c_21 => ?_)
 ·have e := e.trans (cond_t c_21)
  have c_21' := ine_t c_21
  rw [e] at hk
  exact hk  H_2 g17 
 ·have e := e.trans (cond_f c_21)
  have c_21' := ine_f c_21
  refine ⟨a_High, (o19.rdC _).trans rfl, ?_⟩
  refine ⟨b_High, (o_14.rdC _).trans rfl, ?_⟩
  refine Br.intro (fun c_22 => ?_) (fun c_22 => ?_)
  ·have e := e.trans (cond_t c_22)
   have c_22' := ine_t c_22
   rw [e] at hk
   exact hk  H_2 g17 
  ·have e := e.trans (cond_f c_22)
   have c_22' := ine_f c_22
   refine ⟨ta, ia.length, db, (o19.rdC _).trans rfl, ?_⟩
   refine ⟨xd, wc.length, ee, (o_14.rdC _).trans rfl, ?_⟩
   refine T_fdz_i ⟨_, _, (i_a_Lights.grow g17), (i_b_Lights.grow g17), ω0, ω0, ?_⟩
   refine Br.intro (fun c23 => ?_) (fun c23 => ?_)
   ·have e := e.trans (cond_t c23)
    have c_23n := nf_of_t c23
    rw [e] at hk
    exact hk  H_2 g17 
   ·have e := e.trans (cond_f c23)
    have c_23n := nt_of_f c23
    rw [e] at hk
    exact hk  H_2 g17 
theorem fiz_ok : FnOk Try.prog 12 S_fiz := by
 refine FnOk.body mix_ok E_fiz_ok Try.func12 rfl ω9 ω9 ?_ ?_ ?_ ?_ ?_
 ·intro args H K K' h hk
  simp only [S_fiz] at *
  unfold F_fiz at *
  split at hk
  ·obtain ⟨ia, wc, i_a_Lights, i_b_Lights, bd_26, bd_27, k⟩ := hk
   exact ⟨ia, wc, i_a_Lights, i_b_Lights, bd_26, bd_27, (fun  H' gg  => h _ _ (k  H' gg ))⟩
  ·exact hk.elim
 ·intro hq; cases hq
 ·intro args H K hk
  simp only [S_fiz] at *
  unfold F_fiz at *
  split at hk
  ·obtain ⟨ia, wc, i_a_Lights, i_b_Lights, bd_26, bd_27, k⟩ := hk
   exact ⟨_, _, k H (Grow.refl H)⟩
  ·exact hk.elim
 ·intro _ args H K hk
  simp only [S_fiz] at *
  unfold F_fiz at *
  split at hk
  ·obtain ⟨ia, wc, i_a_Lights, i_b_Lights, bd_26, bd_27, k⟩ := hk
   exact ⟨ia, wc, i_a_Lights, i_b_Lights, bd_26, bd_27, (fun  H' gg  => ⟨gg, k  H' gg ⟩)⟩
  ·exact hk.elim
 ·have mm := @fiz_main
  have ml := fun (args : List Value) (H : AHeap) (K : Value → AHeap → Prop) => bodyL_body (P := Try.prog) (env := E_fiz ) (fn := Try.f12) (args := args) (H := H) (K := K) E_fiz_ok 
  revert mm ml
  generalize bodyK Try.prog E_fiz Try.f12 = Q
  generalize bodyL Try.prog E_fiz Try.f12 = QL
  intro mm ml args H K hk
  simp only [S_fiz] at *
  unfold F_fiz at *
  split at hk
  ·exact ml _ H K (mm _ _ _ _ _ _ _ _ _ _ H K hk)
  ·exact hk.elim

def p_fvz (ja : LN) (a_Scale : Nat) (vc : LN) (b_Scale : Nat) : Bool := (bif !(p_fdz ja vc) then false else (bif !((p_fjz (fwide a_Scale) (fwide b_Scale))) then false else true))
def p_fvz_eq := @p_fvz.eq_1
def T_fvz (za : OA) (lb : Nat) (nb : Nat) (a_Scale : Nat) (md : OA) (sd : Nat) (yd : Nat) (b_Scale : Nat) (H : AHeap) (K : Bool → AHeap → Prop) : Prop := ∃ (ja : LN), ∃ (vc : LN), IsL fF H za lb ja ∧ IsL fF H md sd vc ∧ ja.length < 1073741824 ∧ vc.length < 1073741824 ∧ ((∀ H' : AHeap, Grow H H' → K (p_fvz ja a_Scale vc b_Scale) H'))
theorem T_fvz_i {za : OA} {lb : Nat} {nb : Nat} {a_Scale : Nat} {md : OA} {sd : Nat} {yd : Nat} {b_Scale : Nat} {H : AHeap} {K : Bool → AHeap → Prop} (h : ∃ (ja : LN), ∃ (vc : LN), IsL fF H za lb ja ∧ IsL fF H md sd vc ∧ ja.length < 1073741824 ∧ vc.length < 1073741824 ∧ ((∀ H' : AHeap, Grow H H' → K (p_fvz ja a_Scale vc b_Scale) H'))) : T_fvz za lb nb a_Scale md sd yd b_Scale H K := h

/-! fvz: function 13 -/
def E_fvz : Env := envOf [(32, S_fdz), (33, S_fjz)]
def F_fvz : List Value → AHeap → (Value → AHeap → Prop) → Prop
 | [.agg ⟨[.slice za lb nb, .float .f32 a_Scale]⟩, .agg ⟨[.slice md sd yd, .float .f32 b_Scale]⟩], H, K => T_fvz za lb nb a_Scale md sd yd b_Scale H fun (r1 : Bool) (H' : AHeap) => K (.bool r1) H'
 | _, _, _ => False
def S_fvz : FSpec := { F := F_fvz, quiet := false, tame := true }
theorem fvz_vc (za : OA) (lb : Nat) (nb : Nat) (a_Scale : Nat) (md : OA) (sd : Nat) (yd : Nat) (b_Scale : Nat) (H : AHeap) (K : Value → AHeap → Prop) : bodyL Try.prog E_fvz Try.f13 [.agg #[.slice za lb nb, .float .f32 a_Scale], .agg #[.slice md sd yd, .float .f32 b_Scale]] H K =
 (Al [.slice za lb nb, .float .f32 a_Scale] H fun b1 H1 => Al [.slice md sd yd, .float .f32 b_Scale] H1 fun b2 H2 => ∃ nd : OA, ∃ yc : Nat, ∃ od : Nat,  rdC H2 b1 0 = some (.slice nd yc od) ∧ ∃ pg : OA, ∃ og : Nat, ∃ qg : Nat,  rdC H2 b2 0 = some (.slice pg og qg) ∧ T_fdz nd yc od pg og qg H2 fun (r1 : Bool) (H3 : AHeap) => Br (!r1) (K (.bool false) H3) (∃ x3 : Nat,  rdC H3 b1 1 = some (.float .f32 x3) ∧ ∃ x4 : Nat,  rdC H3 b2 1 = some (.float .f32 x4) ∧ T_fjz (fwide x3) (fwide x4) H3 fun (r2 : Bool) (H4 : AHeap) => Br (!r2) (K (.bool false) H4) (K (.bool true) H4))) := by kernel_rfl
theorem E_fvz_ok : ∀ g, FnOk Try.prog g (E_fvz g) := FnOk.envOf (by
 intro x hx
 simp only [List.mem_cons, List.not_mem_nil, or_false] at hx
 rcases hx with rfl | rfl
 ·exact fdz_ok
 ·exact fjz_ok)
theorem fvz_main (za : OA) (lb : Nat) (nb : Nat) (a_Scale : Nat) (md : OA) (sd : Nat) (yd : Nat) (b_Scale : Nat) (H : AHeap) (K : Value → AHeap → Prop) (h : T_fvz za lb nb a_Scale md sd yd b_Scale H fun (r1 : Bool) (H' : AHeap) => K (.bool r1) H') : bodyL Try.prog E_fvz Try.f13 [.agg #[.slice za lb nb, .float .f32 a_Scale], .agg #[.slice md sd yd, .float .f32 b_Scale]] H K := by
 rw [fvz_vc]
 obtain ⟨ja, vc, i_a_Weights, i_b_Weights, bd_25, bd_26, hk⟩ := h
 obtain rfl := i_a_Weights.eqn
 obtain rfl := i_b_Weights.eqn
 have e : (p_fvz ja a_Scale vc b_Scale) = _ := rfl
 have e := e.trans (p_fvz_eq ja a_Scale vc b_Scale)
 have g0 := Grow.refl H
 refine Al.intro (fun b_1 H_1 hb_2 hl_3 g_4 o_5 => ?_)
 have l_7 := g_4.1
 have g_8 := g0.trans g_4
 have l_9 := g_8.1
 have w24 := o_5.lt
 refine Al.intro (fun b_10 H_2 hb_11 hl_12 g13 o_14 => ?_)
 have l_16 := g13.1
 have g17 := g_8.trans g13
 have l_18 := g17.1
 have o19 := o_5.grow g13
 have w20 := o19.lt
 have w23 := o_14.lt
 refine ⟨za, ja.length, nb, (o19.rdC _).trans rfl, ?_⟩
 refine ⟨md, vc.length, yd, (o_14.rdC _).trans rfl, ?_⟩
 refine T_fdz_i ⟨_, _, (i_a_Weights.grow g17), (i_b_Weights.grow g17), ω0, ω0, ?_⟩
 refine Br.intro (fun c_21 => ?_) (fun c_21 => ?_)
 ·have e := e.trans (cond_t c_21)
  have c_21n := nf_of_t c_21
  rw [e] at hk
  exact hk  H_2 g17 
 ·have e := e.trans (cond_f c_21)
  have c_21n := nt_of_f c_21
  refine ⟨a_Scale, (o19.rdC _).trans rfl, ?_⟩
  refine ⟨b_Scale, (o_14.rdC _).trans rfl, ?_⟩
  refine T_fjz_i ?_
  refine Br.intro (fun c_22 => ?_) (fun c_22 => ?_)
  ·have e := e.trans (cond_t c_22)
   have c_22n := nf_of_t c_22
   rw [e] at hk
   exact hk  H_2 g17 
  ·have e := e.trans (cond_f c_22)
   have c_22n := nt_of_f c_22
   rw [e] at hk
   exact hk  H_2 g17 
theorem fvz_ok : FnOk Try.prog 13 S_fvz := by
 refine FnOk.body mix_ok E_fvz_ok Try.func13 rfl ω9 ω9 ?_ ?_ ?_ ?_ ?_
 ·intro args H K K' h hk
  simp only [S_fvz] at *
  unfold F_fvz at *
  split at hk
  ·obtain ⟨ja, vc, i_a_Weights, i_b_Weights, bd_25, bd_26, k⟩ := hk
   exact ⟨ja, vc, i_a_Weights, i_b_Weights, bd_25, bd_26, (fun  H' gg  => h _ _ (k  H' gg ))⟩
  ·exact hk.elim
 ·intro hq; cases hq
 ·intro args H K hk
  simp only [S_fvz] at *
  unfold F_fvz at *
  split at hk
  ·obtain ⟨ja, vc, i_a_Weights, i_b_Weights, bd_25, bd_26, k⟩ := hk
   exact ⟨_, _, k H (Grow.refl H)⟩
  ·exact hk.elim
 ·intro _ args H K hk
  simp only [S_fvz] at *
  unfold F_fvz at *
  split at hk
  ·obtain ⟨ja, vc, i_a_Weights, i_b_Weights, bd_25, bd_26, k⟩ := hk
   exact ⟨ja, vc, i_a_Weights, i_b_Weights, bd_25, bd_26, (fun  H' gg  => ⟨gg, k  H' gg ⟩)⟩
  ·exact hk.elim
 ·have mm := @fvz_main
  have ml := fun (args : List Value) (H : AHeap) (K : Value → AHeap → Prop) => bodyL_body (P := Try.prog) (env := E_fvz ) (fn := Try.f13) (args := args) (H := H) (K := K) E_fvz_ok 
  revert mm ml
  generalize bodyK Try.prog E_fvz Try.f13 = Q
  generalize bodyL Try.prog E_fvz Try.f13 = QL
  intro mm ml args H K hk
  simp only [S_fvz] at *
  unfold F_fvz at *
  split at hk
  ·exact ml _ H K (mm _ _ _ _ _ _ _ _ H K hk)
  ·exact hk.elim

def p_f8z_l1 (l_a : LN) (k : Int) : Nat → Int → Int → LN → Int × LN
 | 0, _, _, _ => (0, [])
 | μ + 1, k_1, i, y1_1 => (bif decide ((i : Int) < (l_a.length : Int)) then (p_f8z_l1 l_a k μ (IntKind.wrap .i64 (k_1 + 1)) (i + 1) (((y1_1).set (i : Int).toNat (FloatKind.nearest .f32 k_1)))) else (k_1, y1_1))
def p_f8z_l1_s := fun l_a k μ k_1 i y1_1 => @p_f8z_l1.eq_2 l_a k k_1 i y1_1 μ
def p_f8z (l_a : LN) (k : Int) : Int × LN := (p_f8z_l1 l_a k (Int.toNat ((l_a.length : Int) - (0 : Int)) + 1) k (0 : Int) l_a)
def p_f8z_eq := @p_f8z.eq_1
def T_f8z (a_a : OA) (a_n : Nat) (a_e : Nat) (k : Int) (H : AHeap) (K : Int → AHeap → Prop) : Prop := ∃ lo : Nat, ∃ (l_a : LN), OwnS fF H lo a_a a_n a_e l_a ∧ l_a.length < 1073741824 ∧ ((∀ H' : AHeap, KeepA a_a H H' → OwnS fF H' lo a_a a_n a_e (marks (FloatKind.nearest .f32) k l_a.length) → K (wk k l_a.length) H'))
theorem T_f8z_i {a_a : OA} {a_n : Nat} {a_e : Nat} {k : Int} {H : AHeap} {K : Int → AHeap → Prop} (h : ∃ lo : Nat, ∃ (l_a : LN), OwnS fF H lo a_a a_n a_e l_a ∧ l_a.length < 1073741824 ∧ ((∀ H' : AHeap, KeepA a_a H H' → OwnS fF H' lo a_a a_n a_e (marks (FloatKind.nearest .f32) k l_a.length) → K (wk k l_a.length) H'))) : T_f8z a_a a_n a_e k H K := h
theorem f8z_go (l : LN) (k0 : Int) : ∀ (μ : Nat) (k : Int) (i : Nat) (ys : LN), ys.length = l.length → i ≤ l.length → l.length - i < μ →
  p_f8z_l1 l k0 μ k (i : Int) ys = (wk k (l.length - i), ys.take i ++ marks (FloatKind.nearest .f32) k (l.length - i)) := by
 intro μ
 induction μ with
 | zero => intro k i ys _ _ h; omega
 | succ μ ih =>
  intro k i ys hy hi hm
  rw [p_f8z_l1_s]
  by_cases h : i < l.length
  ·rw [decide_eq_true (show (i : Int) < (l.length : Int) by omega), cond_true, Int.toNat_natCast]
   have := ih (IntKind.wrap .i64 (k + 1)) (i + 1) (ys.set i ((FloatKind.nearest .f32) k)) (by simp [hy]) ω2 ω2
   obtain ⟨d, hd⟩ : ∃ d, l.length - i = d + 1 := ⟨l.length - i - 1, by omega⟩
   rw [show l.length - (i + 1) = d by omega] at this
   rw [hd, wk, marks]
   refine Eq.trans this ?_
   rw [List.take_add_one, List.getElem?_set_self ω2, List.take_set_of_le (Nat.le_refl i)]
   simp
  ·rw [decide_eq_false (show ¬ (i : Int) < (l.length : Int) by omega), cond_false]
   rw [show l.length - i = 0 by omega, wk, marks, List.append_nil, List.take_of_length_le ω2]
theorem f8z_val (l : LN) (k : Int) : p_f8z l k = (wk k l.length, marks (FloatKind.nearest .f32) k l.length) := by
 rw [p_f8z_eq]
 have := f8z_go l k (Int.toNat ((l.length : Int) - 0) + 1) k 0 l rfl ω2 ω2
 simpa using this
/-! f8z: function 34 -/
def E_f8z : Env := envOf []
def F_f8z : List Value → AHeap → (Value → AHeap → Prop) → Prop
 | [.slice a_a a_n a_e, .int .i64 k], H, K => T_f8z a_a a_n a_e k H fun (r1 : Int) (H' : AHeap) => K (.int .i64 r1) H'
 | _, _, _ => False
def S_f8z : FSpec := { F := F_f8z, quiet := false, tame := false }
theorem f8z_vc (a_a : OA) (a_n : Nat) (a_e : Nat) (k : Int) (H : AHeap) (K : Value → AHeap → Prop) : bodyL Try.prog E_f8z Try.f34 [.slice a_a a_n a_e, .int .i64 k] H K =
 (loopK (exL Try.prog E_f8z (cl (cl (cr (cl (cr (bodyC Try.f34)))))) 35 16 [(0, 2)]) (.slice a_a a_n a_e :: .int .i64 k :: ud3 (.int .i64 0 :: ud14 [])) H (blockQ 0 (seqQ (exL Try.prog E_f8z (cr (cr (bodyC Try.f34))) 16 16 []) (retK Try.prog Try.f34 K)))) := by kernel_rfl
abbrev f8z_P1 (a_a : OA) (a_e : Nat) (a_n : Nat) (k_1 : Int) (i : Int)  : List Value := (.slice a_a a_n a_e :: .int .i64 k_1 :: ud3 (.int .i64 i :: ud14 []))
theorem f8z_r1 (a_a : OA) (a_e : Nat) (a_n : Nat) (k_1 : Int) (i : Int)  (H : AHeap) (R : Post) : exL Try.prog E_f8z (cl (cl (cr (cl (cr (bodyC Try.f34)))))) 35 16 [(0, 2)] (f8z_P1 a_a a_e a_n k_1 i) H R =
 (Br (decide ((i : Int) < (a_n : Int))) ((0 : Int) ≤ i ∧ i < (a_n : Int) ∧ ∃ b1 f1, (a_a : OA) = some ⟨b1, f1, none⟩ ∧ isOwn H b1 ∧ (∃ l, rdN H b1 (f1 + (i : Int).toNat * 1) 1 = some l) ∧ Lt (setC H b1 (f1 + (i : Int).toNat * 1) (.float .f32 (FloatKind.nearest .f32 k_1))) fun H1 => R .normal (.slice a_a a_n a_e :: .int .i64 (IntKind.wrap .i64 (k_1 + 1)) :: ud3 (.int .i64 (IntKind.wrap .i64 (i + 1)) :: ud14 [])) H1) (R (.exit 0) (ud :: .int .i64 k_1 :: ud18 []) H)) := by kernel_rfl
def f8z_I1 (a_a : OA) (a_e : Nat) (a_n : Nat) (Inv : Nat → Int → Int → AHeap → Prop) : Nat → List Value → AHeap → Prop := fun μ tm H => ∃ (k_1 : Int), ∃ (i : Int), tm = (f8z_P1 a_a a_e a_n k_1 i) ∧ Inv μ k_1 i H
theorem f8z_L1 (a_a : OA) (a_e : Nat) (a_n : Nat) {Q : Post} (Inv : Nat → Int → Int → AHeap → Prop) (ν : Nat) (k_1 : Int) (i : Int)  (H : AHeap) (h0 : Inv ν k_1 i H)
  (hs : ∀ (μ : Nat) (k_1 : Int) (i : Int)  (H : AHeap), Inv μ k_1 i H → exL Try.prog E_f8z (cl (cl (cr (cl (cr (bodyC Try.f34)))))) 35 16 [(0, 2)] (f8z_P1 a_a a_e a_n k_1 i) H (loopQ (f8z_I1 a_a a_e a_n Inv) μ Q)) : loopK (exL Try.prog E_f8z (cl (cl (cr (cl (cr (bodyC Try.f34)))))) 35 16 [(0, 2)]) (f8z_P1 a_a a_e a_n k_1 i) H Q :=
 ⟨f8z_I1 a_a a_e a_n Inv, ν, ⟨k_1, i, rfl, h0⟩, fun μ tm H h => by obtain ⟨k_1, i, rfl, hI⟩ := h; exact hs μ k_1 i  H hI⟩
theorem f8z_n1 {a_a : OA} {a_e : Nat} {a_n : Nat} {Q : Post} {Inv : Nat → Int → Int → AHeap → Prop} {μ : Nat} (μ' : Nat) {k_1 : Int} {i : Int}  {H : AHeap} (hm : μ' < μ) (hI : Inv μ' k_1 i H) : loopQ (f8z_I1 a_a a_e a_n Inv) μ Q .normal (f8z_P1 a_a a_e a_n k_1 i) H := ⟨μ', hm, k_1, i, rfl, hI⟩
theorem f8z_x1_0 (k_1 : Int) (H : AHeap) (K : Value → AHeap → Prop)  {I : Nat → List Value → AHeap → Prop} {μ : Nat} : loopQ I μ (blockQ 0 (seqQ (exL Try.prog E_f8z (cr (cr (bodyC Try.f34))) 16 16 []) (retK Try.prog Try.f34 K))) (.exit 0) (ud :: .int .i64 k_1 :: ud18 []) H =
 (K (.int .i64 k_1) H) := by kernel_rfl
theorem E_f8z_ok : ∀ g, FnOk Try.prog g (E_f8z g) := FnOk.envOf (by
 intro x hx; cases hx)
theorem f8z_main (a_a : OA) (a_n : Nat) (a_e : Nat) (k : Int) (H : AHeap) (K : Value → AHeap → Prop) (h : T_f8z a_a a_n a_e k H fun (r1 : Int) (H' : AHeap) => K (.int .i64 r1) H') : bodyL Try.prog E_f8z Try.f34 [.slice a_a a_n a_e, .int .i64 k] H K := by
 rw [f8z_vc]
 obtain ⟨lo, l_a, i_a, bd_18, hk⟩ := h
 have hk : (∀ H' : AHeap, KeepA a_a H H' → OwnS fF H' lo a_a a_n a_e ((p_f8z l_a k).2) → (fun (r1 : Int) (H' : AHeap) => K (.int .i64 r1) H') ((p_f8z l_a k).1) H') := by rw [f8z_val l_a k]; exact hk
 obtain rfl := i_a.len
 have up_p := i_a.up
 have lo_p := i_a.lo
 have e : (p_f8z l_a k) = _ := rfl
 have e := e.trans (p_f8z_eq l_a k)
 have g0 := KeepA.refl a_a H
 refine f8z_L1 _ _ _ (fun (μ : Nat) (k_1 : Int) (i : Int) (H_1 : AHeap) => ∃ (y1_1 : LN), OwnS fF H_1 lo a_a l_a.length a_e y1_1 ∧ y1_1.length = (l_a).length ∧ H.length ≤ H_1.length ∧ KeepA a_a H H_1 ∧ (0 : Int) ≤ i ∧ i ≤ (l_a.length : Int) ∧ (l_a.length : Int) - i ≤ (μ : Int) ∧ p_f8z l_a k = p_f8z_l1 l_a k (μ + 1) k_1 i y1_1) (Int.toNat ((l_a.length : Int) - (0 : Int))) _ _ H ?_ ?_
 ·exact ⟨_, i_a, ω16, ω2, g0, ω6, ω6, ω2, e⟩
 ·intro μ k_1 i  H_1 hI
  obtain ⟨y1_1, r_1, y_2, n3, g_4, v_5, v_6, hμ, e⟩ := hI
  rw [f8z_r1]
  have e := e.trans (p_f8z_l1_s l_a k μ k_1 i y1_1)
  have l_7 := g_4.1
  refine Br.intro (fun c_8 => ?_) (fun c_8 => ?_)
  ·have e := e.trans (cond_t c_8)
   have c_8' := of_decide_eq_true c_8
   obtain ⟨b_9, f_10, q_11⟩ := (r_1.isL).pos ω0
   refine ⟨by omega, by omega, b_9, f_10, q_11, ?_⟩
   refine Lt.setS r_1 q_11 ω4 (fun H_2 hl_12 o_14 k13 => ?_)
   have l_15 := k13.1
   have g16 := g_4.transA k13
   have l_17 := g16.1
   rw [show IntKind.wrap .i64 (i + 1) = (i + 1) from wrap64 ω2 ω2]
   refine f8z_n1 (μ - 1) ω15 ⟨_, o_14, ω17, ω2, g16, ω1, ω1, ω15, ω13⟩
  ·have e := e.trans (cond_f c_8)
   have c_8' := of_decide_eq_false c_8
   rw [f8z_x1_0]
   rw [e] at hk
   exact hk H_1 g_4 r_1
theorem f8z_ok : FnOk Try.prog 34 S_f8z := by
 refine FnOk.body mix_ok E_f8z_ok Try.func34 rfl ω9 ω9 ?_ ?_ ?_ ?_ ?_
 ·intro args H K K' h hk
  simp only [S_f8z] at *
  unfold F_f8z at *
  split at hk
  ·obtain ⟨lo, l_a, i_a, bd_18, k⟩ := hk
   exact ⟨lo, l_a, i_a, bd_18, (fun H' gg ow => h _ _ (k H' gg ow))⟩
  ·exact hk.elim
 ·intro hq; cases hq
 ·intro args H K hk
  simp only [S_f8z] at *
  unfold F_f8z at *
  split at hk
  ·obtain ⟨lo, l_a, i_a, bd_18, k⟩ := hk
   exact (i_a.put _ (by rw [marks_length])).elim fun H1 h => ⟨_, _, k H1 h.1 h.2⟩
  ·exact hk.elim
 ·intro hq; cases hq
 ·have mm := @f8z_main
  have ml := fun (args : List Value) (H : AHeap) (K : Value → AHeap → Prop) => bodyL_body (P := Try.prog) (env := E_f8z ) (fn := Try.f34) (args := args) (H := H) (K := K) E_f8z_ok 
  revert mm ml
  generalize bodyK Try.prog E_f8z Try.f34 = Q
  generalize bodyL Try.prog E_f8z Try.f34 = QL
  intro mm ml args H K hk
  simp only [S_f8z] at *
  unfold F_f8z at *
  split at hk
  ·exact ml _ H K (mm _ _ _ _ H K hk)
  ·exact hk.elim

def p_fez (ja : LN) (a_Scale : Nat) (k : Int) : Int × LN := ((wk k ja.length), (marks (FloatKind.nearest .f32) k ja.length))
def p_fez_eq := @p_fez.eq_1
def T_fez (za : OA) (lb : Nat) (nb : Nat) (a_Scale : Nat) (k : Int) (H : AHeap) (K : Int → AHeap → Prop) : Prop := ∃ lo : Nat, ∃ (ja : LN), OwnS fF H lo za lb nb ja ∧ ja.length < 1073741824 ∧ ((∀ H' : AHeap, KeepA za H H' → OwnS fF H' lo za lb nb (marks (FloatKind.nearest .f32) k ja.length) → K (wk k ja.length) H'))
theorem T_fez_i {za : OA} {lb : Nat} {nb : Nat} {a_Scale : Nat} {k : Int} {H : AHeap} {K : Int → AHeap → Prop} (h : ∃ lo : Nat, ∃ (ja : LN), OwnS fF H lo za lb nb ja ∧ ja.length < 1073741824 ∧ ((∀ H' : AHeap, KeepA za H H' → OwnS fF H' lo za lb nb (marks (FloatKind.nearest .f32) k ja.length) → K (wk k ja.length) H'))) : T_fez za lb nb a_Scale k H K := h
theorem fez_val (ja : LN) (a_Scale : Nat) (k : Int) : p_fez ja a_Scale k = (wk k ja.length, marks (FloatKind.nearest .f32) k ja.length) := rfl
/-! fez: function 14 -/
def E_fez : Env := envOf [(34, S_f8z)]
def F_fez : List Value → AHeap → (Value → AHeap → Prop) → Prop
 | [.agg ⟨[.slice za lb nb, .float .f32 a_Scale]⟩, .int .i64 k], H, K => T_fez za lb nb a_Scale k H fun (r1 : Int) (H' : AHeap) => K (.int .i64 r1) H'
 | _, _, _ => False
def S_fez : FSpec := { F := F_fez, quiet := false, tame := false }
theorem fez_vc (za : OA) (lb : Nat) (nb : Nat) (a_Scale : Nat) (k : Int) (H : AHeap) (K : Value → AHeap → Prop) : bodyL Try.prog E_fez Try.f14 [.agg #[.slice za lb nb, .float .f32 a_Scale], .int .i64 k] H K =
 (Al [.slice za lb nb, .float .f32 a_Scale] H fun b1 H1 => ∃ nd : OA, ∃ yc : Nat, ∃ od : Nat,  rdC H1 b1 0 = some (.slice nd yc od) ∧ T_f8z nd yc od k H1 fun (r1 : Int) (H2 : AHeap) => K (.int .i64 r1) H2) := by kernel_rfl
theorem E_fez_ok : ∀ g, FnOk Try.prog g (E_fez g) := FnOk.envOf (by
 intro x hx
 simp only [List.mem_cons, List.not_mem_nil, or_false] at hx
 subst hx; exact f8z_ok)
theorem fez_main (za : OA) (lb : Nat) (nb : Nat) (a_Scale : Nat) (k : Int) (H : AHeap) (K : Value → AHeap → Prop) (h : T_fez za lb nb a_Scale k H fun (r1 : Int) (H' : AHeap) => K (.int .i64 r1) H') : bodyL Try.prog E_fez Try.f14 [.agg #[.slice za lb nb, .float .f32 a_Scale], .int .i64 k] H K := by
 rw [fez_vc]
 obtain ⟨lo, ja, i_a_Weights, bd_19, hk⟩ := h
 have hk : (∀ H' : AHeap, KeepA za H H' → OwnS fF H' lo za lb nb ((p_fez ja a_Scale k).2) → (fun (r1 : Int) (H' : AHeap) => K (.int .i64 r1) H') ((p_fez ja a_Scale k).1) H') := by rw [fez_val ja a_Scale k]; exact hk
 obtain rfl := i_a_Weights.len
 have up_p := i_a_Weights.up
 have lo_p := i_a_Weights.lo
 have e : (p_fez ja a_Scale k) = _ := rfl
 have e := e.trans (p_fez_eq ja a_Scale k)
 have g0 := KeepA.refl za H
 refine Al.intro (fun b_1 H_1 hb_2 hl_3 g_4 o_5 => ?_)
 have l_7 := g_4.1
 have g_8 := g0.trans g_4
 have l_9 := g_8.1
 have r_10 := i_a_Weights.grow g_4
 have w18 := o_5.lt
 refine ⟨za, ja.length, nb, (o_5.rdC _).trans rfl, ?_⟩
 refine T_f8z_i ⟨_, _, r_10, ω0, (fun H_2 k_11 o12 => ?_)⟩
 have l_13 := k_11.1
 have g_14 := g_8.transA k_11
 have l_15 := g_14.1
 have o16 := o_5.keepA (fun x hx => by have := lo_p x hx; have := up_p x hx; omega) k_11
 have w17 := o16.lt
 rw [e] at hk
 exact hk H_2 g_14 o12
theorem fez_ok : FnOk Try.prog 14 S_fez := by
 refine FnOk.body mix_ok E_fez_ok Try.func14 rfl ω9 ω9 ?_ ?_ ?_ ?_ ?_
 ·intro args H K K' h hk
  simp only [S_fez] at *
  unfold F_fez at *
  split at hk
  ·obtain ⟨lo, ja, i_a_Weights, bd_19, k⟩ := hk
   exact ⟨lo, ja, i_a_Weights, bd_19, (fun H' gg ow => h _ _ (k H' gg ow))⟩
  ·exact hk.elim
 ·intro hq; cases hq
 ·intro args H K hk
  simp only [S_fez] at *
  unfold F_fez at *
  split at hk
  ·obtain ⟨lo, ja, i_a_Weights, bd_19, k⟩ := hk
   exact (i_a_Weights.put _ (by rw [marks_length])).elim fun H1 h => ⟨_, _, k H1 h.1 h.2⟩
  ·exact hk.elim
 ·intro hq; cases hq
 ·have mm := @fez_main
  have ml := fun (args : List Value) (H : AHeap) (K : Value → AHeap → Prop) => bodyL_body (P := Try.prog) (env := E_fez ) (fn := Try.f14) (args := args) (H := H) (K := K) E_fez_ok 
  revert mm ml
  generalize bodyK Try.prog E_fez Try.f14 = Q
  generalize bodyL Try.prog E_fez Try.f14 = QL
  intro mm ml args H K hk
  simp only [S_fez] at *
  unfold F_fez at *
  split at hk
  ·exact ml _ H K (mm _ _ _ _ _ H K hk)
  ·exact hk.elim

def p_fbz (a_Wide : Int) (a_High : Int) (ia : LN) (k : Int) : Int × LN := ((wk k ia.length), (marks (FloatKind.nearest .f32) k ia.length))
def p_fbz_eq := @p_fbz.eq_1
def T_fbz (a_Wide : Int) (a_High : Int) (ta : OA) (cb : Nat) (db : Nat) (k : Int) (H : AHeap) (K : Int → AHeap → Prop) : Prop := ∃ lo : Nat, ∃ (ia : LN), OwnS fF H lo ta cb db ia ∧ ia.length < 1073741824 ∧ ((∀ H' : AHeap, KeepA ta H H' → OwnS fF H' lo ta cb db (marks (FloatKind.nearest .f32) k ia.length) → K (wk k ia.length) H'))
theorem T_fbz_i {a_Wide : Int} {a_High : Int} {ta : OA} {cb : Nat} {db : Nat} {k : Int} {H : AHeap} {K : Int → AHeap → Prop} (h : ∃ lo : Nat, ∃ (ia : LN), OwnS fF H lo ta cb db ia ∧ ia.length < 1073741824 ∧ ((∀ H' : AHeap, KeepA ta H H' → OwnS fF H' lo ta cb db (marks (FloatKind.nearest .f32) k ia.length) → K (wk k ia.length) H'))) : T_fbz a_Wide a_High ta cb db k H K := h
theorem fbz_val (a_Wide : Int) (a_High : Int) (ia : LN) (k : Int) : p_fbz a_Wide a_High ia k = (wk k ia.length, marks (FloatKind.nearest .f32) k ia.length) := rfl
/-! fbz: function 15 -/
def E_fbz : Env := envOf [(34, S_f8z)]
def F_fbz : List Value → AHeap → (Value → AHeap → Prop) → Prop
 | [.agg ⟨[.int .i64 a_Wide, .int .i64 a_High, .slice ta cb db]⟩, .int .i64 k], H, K => T_fbz a_Wide a_High ta cb db k H fun (r1 : Int) (H' : AHeap) => K (.int .i64 r1) H'
 | _, _, _ => False
def S_fbz : FSpec := { F := F_fbz, quiet := false, tame := false }
theorem fbz_vc (a_Wide : Int) (a_High : Int) (ta : OA) (cb : Nat) (db : Nat) (k : Int) (H : AHeap) (K : Value → AHeap → Prop) : bodyL Try.prog E_fbz Try.f15 [.agg #[.int .i64 a_Wide, .int .i64 a_High, .slice ta cb db], .int .i64 k] H K =
 (Al [.int .i64 a_Wide, .int .i64 a_High, .slice ta cb db] H fun b1 H1 => ∃ nd : OA, ∃ yc : Nat, ∃ od : Nat,  rdC H1 b1 2 = some (.slice nd yc od) ∧ T_f8z nd yc od k H1 fun (r1 : Int) (H2 : AHeap) => K (.int .i64 r1) H2) := by kernel_rfl
theorem E_fbz_ok : ∀ g, FnOk Try.prog g (E_fbz g) := FnOk.envOf (by
 intro x hx
 simp only [List.mem_cons, List.not_mem_nil, or_false] at hx
 subst hx; exact f8z_ok)
theorem fbz_main (a_Wide : Int) (a_High : Int) (ta : OA) (cb : Nat) (db : Nat) (k : Int) (H : AHeap) (K : Value → AHeap → Prop) (h : T_fbz a_Wide a_High ta cb db k H fun (r1 : Int) (H' : AHeap) => K (.int .i64 r1) H') : bodyL Try.prog E_fbz Try.f15 [.agg #[.int .i64 a_Wide, .int .i64 a_High, .slice ta cb db], .int .i64 k] H K := by
 rw [fbz_vc]
 obtain ⟨lo, ia, i_a_Lights, bd_19, hk⟩ := h
 have hk : (∀ H' : AHeap, KeepA ta H H' → OwnS fF H' lo ta cb db ((p_fbz a_Wide a_High ia k).2) → (fun (r1 : Int) (H' : AHeap) => K (.int .i64 r1) H') ((p_fbz a_Wide a_High ia k).1) H') := by rw [fbz_val a_Wide a_High ia k]; exact hk
 obtain rfl := i_a_Lights.len
 have up_p := i_a_Lights.up
 have lo_p := i_a_Lights.lo
 have e : (p_fbz a_Wide a_High ia k) = _ := rfl
 have e := e.trans (p_fbz_eq a_Wide a_High ia k)
 have g0 := KeepA.refl ta H
 refine Al.intro (fun b_1 H_1 hb_2 hl_3 g_4 o_5 => ?_)
 have l_7 := g_4.1
 have g_8 := g0.trans g_4
 have l_9 := g_8.1
 have r_10 := i_a_Lights.grow g_4
 have w18 := o_5.lt
 refine ⟨ta, ia.length, db, (o_5.rdC _).trans rfl, ?_⟩
 refine T_f8z_i ⟨_, _, r_10, ω0, (fun H_2 k_11 o12 => ?_)⟩
 have l_13 := k_11.1
 have g_14 := g_8.transA k_11
 have l_15 := g_14.1
 have o16 := o_5.keepA (fun x hx => by have := lo_p x hx; have := up_p x hx; omega) k_11
 have w17 := o16.lt
 rw [e] at hk
 exact hk H_2 g_14 o12
theorem fbz_ok : FnOk Try.prog 15 S_fbz := by
 refine FnOk.body mix_ok E_fbz_ok Try.func15 rfl ω9 ω9 ?_ ?_ ?_ ?_ ?_
 ·intro args H K K' h hk
  simp only [S_fbz] at *
  unfold F_fbz at *
  split at hk
  ·obtain ⟨lo, ia, i_a_Lights, bd_19, k⟩ := hk
   exact ⟨lo, ia, i_a_Lights, bd_19, (fun H' gg ow => h _ _ (k H' gg ow))⟩
  ·exact hk.elim
 ·intro hq; cases hq
 ·intro args H K hk
  simp only [S_fbz] at *
  unfold F_fbz at *
  split at hk
  ·obtain ⟨lo, ia, i_a_Lights, bd_19, k⟩ := hk
   exact (i_a_Lights.put _ (by rw [marks_length])).elim fun H1 h => ⟨_, _, k H1 h.1 h.2⟩
  ·exact hk.elim
 ·intro hq; cases hq
 ·have mm := @fbz_main
  have ml := fun (args : List Value) (H : AHeap) (K : Value → AHeap → Prop) => bodyL_body (P := Try.prog) (env := E_fbz ) (fn := Try.f15) (args := args) (H := H) (K := K) E_fbz_ok 
  revert mm ml
  generalize bodyK Try.prog E_fbz Try.f15 = Q
  generalize bodyL Try.prog E_fbz Try.f15 = QL
  intro mm ml args H K hk
  simp only [S_fbz] at *
  unfold F_fbz at *
  split at hk
  ·exact ml _ H K (mm _ _ _ _ _ _ H K hk)
  ·exact hk.elim

def p_f7z_l1 (l_a : LN) (k : Int) : Nat → Int → Int → Int → Int
 | 0, _, _, _ => 0
 | μ + 1, k_1, t4, i => (bif decide ((i : Int) < (l_a.length : Int)) then (bif !(feq .f32 (((l_a).getD (i : Int).toNat 0)) (FloatKind.nearest .f32 k_1)) then ((-1) : Int) else (p_f7z_l1 l_a k μ (IntKind.wrap .i64 (k_1 + 1)) t4 (i + 1))) else k_1)
def p_f7z_l1_s := fun l_a k μ k_1 t4 i => @p_f7z_l1.eq_2 l_a k k_1 t4 i μ
def p_f7z (l_a : LN) (k : Int) : Int := (p_f7z_l1 l_a k (Int.toNat ((l_a.length : Int) - (0 : Int)) + 1) k (0 : Int) (0 : Int))
def p_f7z_eq := @p_f7z.eq_1
def T_f7z (a_a : OA) (a_n : Nat) (a_e : Nat) (k : Int) (H : AHeap) (K : Int → AHeap → Prop) : Prop := ∃ (l_a : LN), IsL fF H a_a a_n l_a ∧ l_a.length < 1073741824 ∧ K (p_f7z l_a k) H
theorem T_f7z_i {a_a : OA} {a_n : Nat} {a_e : Nat} {k : Int} {H : AHeap} {K : Int → AHeap → Prop} (h : ∃ (l_a : LN), IsL fF H a_a a_n l_a ∧ l_a.length < 1073741824 ∧ K (p_f7z l_a k) H) : T_f7z a_a a_n a_e k H K := h
theorem f7z_go (k0 : Int) : ∀ (μ : Nat) (i : Nat) (pre : LN) (k t : Int) (n : Nat), pre.length = i → n < μ →
  p_f7z_l1 (pre ++ marks (FloatKind.nearest .f32) k n) k0 μ k t (i : Int) = wk k n := by
 intro μ
 induction μ with
 | zero => intro i pre k t n _ h; omega
 | succ μ ih =>
  intro i pre k t n hp hm
  rw [p_f7z_l1_s]
  have hl : (pre ++ marks (FloatKind.nearest .f32) k n).length = i + n := by rw [List.length_append, hp, marks_length]
  rw [hl]
  cases n with
  | zero => rw [decide_eq_false (show ¬ (i : Int) < ((i + 0 : Nat) : Int) by omega), cond_false]; rfl
  | succ n =>
   rw [decide_eq_true (show (i : Int) < ((i + (n + 1) : Nat) : Int) by omega), cond_true, Int.toNat_natCast]
   have hx : (pre ++ marks (FloatKind.nearest .f32) k (n + 1)).getD i 0 = (FloatKind.nearest .f32) k := by
    rw [List.getD_eq_getElem?_getD, List.getElem?_append_right ω2, hp, Nat.sub_self]; rfl
   rw [hx]
   have hq : (!(feq .f32 (FloatKind.nearest .f32 k) (FloatKind.nearest .f32 k))) = false := by rw [feq_nearest]; rfl
   simp only [hq, cond_false]
   have := ih (i + 1) (pre ++ [(FloatKind.nearest .f32) k]) (IntKind.wrap .i64 (k + 1)) t n (by simp [hp]) ω2
   rw [List.append_assoc] at this
   rw [wk]; exact this
theorem f7z_marks (k : Int) (n : Nat) : p_f7z (marks (FloatKind.nearest .f32) k n) k = wk k n := by
 rw [p_f7z_eq]
 have := f7z_go k (Int.toNat (((marks (FloatKind.nearest .f32) k n).length : Int) - 0) + 1) 0 [] k 0 n rfl (by rw [marks_length]; omega)
 simpa using this
/-! f7z: function 35 -/
def E_f7z : Env := envOf []
def F_f7z : List Value → AHeap → (Value → AHeap → Prop) → Prop
 | [.slice a_a a_n a_e, .int .i64 k], H, K => T_f7z a_a a_n a_e k H fun (r1 : Int) (H' : AHeap) => K (.int .i64 r1) H'
 | _, _, _ => False
def S_f7z : FSpec := { F := F_f7z, quiet := true, tame := false }
theorem f7z_vc (a_a : OA) (a_n : Nat) (a_e : Nat) (k : Int) (H : AHeap) (K : Value → AHeap → Prop) : bodyL Try.prog E_f7z Try.f35 [.slice a_a a_n a_e, .int .i64 k] H K =
 (loopK (exL Try.prog E_f7z (cl (cl (cr (cl (cr (bodyC Try.f35)))))) 35 16 [(0, 2)]) (.slice a_a a_n a_e :: .int .i64 k :: ud3 (.int .i64 0 :: ud16 [])) H (blockQ 0 (seqQ (exL Try.prog E_f7z (cr (cr (bodyC Try.f35))) 16 16 []) (retK Try.prog Try.f35 K)))) := by kernel_rfl
abbrev f7z_P1 (a_a : OA) (a_e : Nat) (a_n : Nat) (k_1 : Int) (i : Int)  : List Value := (.slice a_a a_n a_e :: .int .i64 k_1 :: ud3 (.int .i64 i :: ud16 []))
theorem f7z_r1 (a_a : OA) (a_e : Nat) (a_n : Nat) (k_1 : Int) (i : Int)  (H : AHeap) (R : Post) : exL Try.prog E_f7z (cl (cl (cr (cl (cr (bodyC Try.f35)))))) 35 16 [(0, 2)] (f7z_P1 a_a a_e a_n k_1 i) H R =
 (Br (decide ((i : Int) < (a_n : Int))) ((0 : Int) ≤ i ∧ i < (a_n : Int) ∧ ∃ b1 f1, (a_a : OA) = some ⟨b1, f1, none⟩ ∧ ∃ x1 : Nat,  rdC H b1 (f1 + (i : Int).toNat * 1) = some (.float .f32 x1) ∧ Br (!(feq .f32 x1 (FloatKind.nearest .f32 k_1))) (R .ret (ud4 (.int .i64 (-1) :: ud17 [])) H) (R .normal (.slice a_a a_n a_e :: .int .i64 (IntKind.wrap .i64 (k_1 + 1)) :: ud3 (.int .i64 (IntKind.wrap .i64 (i + 1)) :: ud16 [])) H)) (R (.exit 0) (ud :: .int .i64 k_1 :: ud20 []) H)) := by kernel_rfl
def f7z_I1 (a_a : OA) (a_e : Nat) (a_n : Nat) (Inv : Nat → Int → Int → AHeap → Prop) : Nat → List Value → AHeap → Prop := fun μ tm H => ∃ (k_1 : Int), ∃ (i : Int), tm = (f7z_P1 a_a a_e a_n k_1 i) ∧ Inv μ k_1 i H
theorem f7z_L1 (a_a : OA) (a_e : Nat) (a_n : Nat) {Q : Post} (Inv : Nat → Int → Int → AHeap → Prop) (ν : Nat) (k_1 : Int) (i : Int)  (H : AHeap) (h0 : Inv ν k_1 i H)
  (hs : ∀ (μ : Nat) (k_1 : Int) (i : Int)  (H : AHeap), Inv μ k_1 i H → exL Try.prog E_f7z (cl (cl (cr (cl (cr (bodyC Try.f35)))))) 35 16 [(0, 2)] (f7z_P1 a_a a_e a_n k_1 i) H (loopQ (f7z_I1 a_a a_e a_n Inv) μ Q)) : loopK (exL Try.prog E_f7z (cl (cl (cr (cl (cr (bodyC Try.f35)))))) 35 16 [(0, 2)]) (f7z_P1 a_a a_e a_n k_1 i) H Q :=
 ⟨f7z_I1 a_a a_e a_n Inv, ν, ⟨k_1, i, rfl, h0⟩, fun μ tm H h => by obtain ⟨k_1, i, rfl, hI⟩ := h; exact hs μ k_1 i  H hI⟩
theorem f7z_n1 {a_a : OA} {a_e : Nat} {a_n : Nat} {Q : Post} {Inv : Nat → Int → Int → AHeap → Prop} {μ : Nat} (μ' : Nat) {k_1 : Int} {i : Int}  {H : AHeap} (hm : μ' < μ) (hI : Inv μ' k_1 i H) : loopQ (f7z_I1 a_a a_e a_n Inv) μ Q .normal (f7z_P1 a_a a_e a_n k_1 i) H := ⟨μ', hm, k_1, i, rfl, hI⟩
theorem f7z_x1_0 (k_1 : Int) (H : AHeap) (K : Value → AHeap → Prop)  {I : Nat → List Value → AHeap → Prop} {μ : Nat} : loopQ I μ (blockQ 0 (seqQ (exL Try.prog E_f7z (cr (cr (bodyC Try.f35))) 16 16 []) (retK Try.prog Try.f35 K))) (.exit 0) (ud :: .int .i64 k_1 :: ud20 []) H =
 (K (.int .i64 k_1) H) := by kernel_rfl
theorem f7z_x1_ret (t4 : Int) (H : AHeap) (K : Value → AHeap → Prop)  {I : Nat → List Value → AHeap → Prop} {μ : Nat} : loopQ I μ (blockQ 0 (seqQ (exL Try.prog E_f7z (cr (cr (bodyC Try.f35))) 16 16 []) (retK Try.prog Try.f35 K))) .ret (ud4 (.int .i64 t4 :: ud17 [])) H =
 (K (.int .i64 t4) H) := by kernel_rfl
theorem E_f7z_ok : ∀ g, FnOk Try.prog g (E_f7z g) := FnOk.envOf (by
 intro x hx; cases hx)
theorem f7z_main (a_a : OA) (a_n : Nat) (a_e : Nat) (k : Int) (H : AHeap) (K : Value → AHeap → Prop) (h : T_f7z a_a a_n a_e k H fun (r1 : Int) (H' : AHeap) => K (.int .i64 r1) H') : bodyL Try.prog E_f7z Try.f35 [.slice a_a a_n a_e, .int .i64 k] H K := by
 rw [f7z_vc]
 obtain ⟨l_a, i_a, bd_9, hk⟩ := h
 obtain rfl := i_a.eqn
 have e : (p_f7z l_a k) = _ := rfl
 have e := e.trans (p_f7z_eq l_a k)
 have g0 := Grow.refl H
 refine f7z_L1 _ _ _ (fun (μ : Nat) (k_1 : Int) (i : Int) (H_1 : AHeap) => ∃ (t4 : Int), H = H_1 ∧ (0 : Int) ≤ i ∧ i ≤ (l_a.length : Int) ∧ (l_a.length : Int) - i ≤ (μ : Int) ∧ p_f7z l_a k = p_f7z_l1 l_a k (μ + 1) k_1 t4 i) (Int.toNat ((l_a.length : Int) - (0 : Int))) _ _ H ?_ ?_
 ·exact ⟨_, rfl, ω6, ω6, ω2, e⟩
 ·intro μ k_1 i  H_1 hI
  obtain ⟨t4, rfl, v_1, v_2, hμ, e⟩ := hI
  rw [f7z_r1]
  have e := e.trans (p_f7z_l1_s l_a k μ k_1 t4 i)
  have l_3 := g0.1
  refine Br.intro (fun c_4 => ?_) (fun c_4 => ?_)
  ·have e := e.trans (cond_t c_4)
   have c_4' := of_decide_eq_true c_4
   obtain ⟨b_5, f_6, q_7⟩ := ((i_a.grow g0)).pos ω0
   refine ⟨by omega, by omega, b_5, f_6, q_7, ?_⟩
   refine ⟨((l_a).getD (i : Int).toNat 0), (i_a).rd g0 q_7 ω2 _, ?_⟩
   refine Br.intro (fun c_8 => ?_) (fun c_8 => ?_)
   ·have e := e.trans (cond_t c_8)
    have c_8n := nf_of_t c_8
    rw [f7z_x1_ret]
    rw [e] at hk
    exact hk
   ·have e := e.trans (cond_f c_8)
    have c_8n := nt_of_f c_8
    rw [show IntKind.wrap .i64 (i + 1) = (i + 1) from wrap64 ω2 ω2]
    refine f7z_n1 (μ - 1) ω15 ⟨_, rfl, ω1, ω1, ω15, ω13⟩
  ·have e := e.trans (cond_f c_4)
   have c_4' := of_decide_eq_false c_4
   rw [f7z_x1_0]
   rw [e] at hk
   exact hk
theorem f7z_ok : FnOk Try.prog 35 S_f7z := by
 refine FnOk.body mix_ok E_f7z_ok Try.func35 rfl ω9 ω9 ?_ ?_ ?_ ?_ ?_
 ·intro args H K K' h hk
  simp only [S_f7z] at *
  unfold F_f7z at *
  split at hk
  ·obtain ⟨l_a, i_a, bd_9, k⟩ := hk
   exact ⟨l_a, i_a, bd_9, h _ _ k⟩
  ·exact hk.elim
 ·intro _ args H K hk
  simp only [S_f7z] at *
  unfold F_f7z at *
  split at hk
  ·obtain ⟨l_a, i_a, bd_9, k⟩ := hk
   exact ⟨_, k, fun K' k' => ⟨l_a, i_a, bd_9, k'⟩⟩
  ·exact hk.elim
 ·intro args H K hk
  simp only [S_f7z] at *
  unfold F_f7z at *
  split at hk
  ·obtain ⟨l_a, i_a, bd_9, k⟩ := hk
   exact ⟨_, _, k⟩
  ·exact hk.elim
 ·intro hq; cases hq
 ·have mm := @f7z_main
  have ml := fun (args : List Value) (H : AHeap) (K : Value → AHeap → Prop) => bodyL_body (P := Try.prog) (env := E_f7z ) (fn := Try.f35) (args := args) (H := H) (K := K) E_f7z_ok 
  revert mm ml
  generalize bodyK Try.prog E_f7z Try.f35 = Q
  generalize bodyL Try.prog E_f7z Try.f35 = QL
  intro mm ml args H K hk
  simp only [S_f7z] at *
  unfold F_f7z at *
  split at hk
  ·exact ml _ H K (mm _ _ _ _ H K hk)
  ·exact hk.elim

def p_faz (a_Wide : Int) (a_High : Int) (ia : LN) (k : Int) : Int := (bif decide (((p_f7z ia k) : Int) < 0) then ((-1) : Int) else (p_f7z ia k))
def p_faz_eq := @p_faz.eq_1
def T_faz (a_Wide : Int) (a_High : Int) (ta : OA) (cb : Nat) (db : Nat) (k : Int) (H : AHeap) (K : Int → AHeap → Prop) : Prop := ∃ (ia : LN), IsL fF H ta cb ia ∧ ia.length < 1073741824 ∧ ((∀ H' : AHeap, Grow H H' → K (p_faz a_Wide a_High ia k) H'))
theorem T_faz_i {a_Wide : Int} {a_High : Int} {ta : OA} {cb : Nat} {db : Nat} {k : Int} {H : AHeap} {K : Int → AHeap → Prop} (h : ∃ (ia : LN), IsL fF H ta cb ia ∧ ia.length < 1073741824 ∧ ((∀ H' : AHeap, Grow H H' → K (p_faz a_Wide a_High ia k) H'))) : T_faz a_Wide a_High ta cb db k H K := h

/-! faz: function 16 -/
def E_faz : Env := envOf [(35, S_f7z)]
def F_faz : List Value → AHeap → (Value → AHeap → Prop) → Prop
 | [.agg ⟨[.int .i64 a_Wide, .int .i64 a_High, .slice ta cb db]⟩, .int .i64 k], H, K => T_faz a_Wide a_High ta cb db k H fun (r1 : Int) (H' : AHeap) => K (.int .i64 r1) H'
 | _, _, _ => False
def S_faz : FSpec := { F := F_faz, quiet := false, tame := true }
theorem faz_vc (a_Wide : Int) (a_High : Int) (ta : OA) (cb : Nat) (db : Nat) (k : Int) (H : AHeap) (K : Value → AHeap → Prop) : bodyL Try.prog E_faz Try.f16 [.agg #[.int .i64 a_Wide, .int .i64 a_High, .slice ta cb db], .int .i64 k] H K =
 (Al [.int .i64 a_Wide, .int .i64 a_High, .slice ta cb db] H fun b1 H1 => ∃ nd : OA, ∃ yc : Nat, ∃ od : Nat,  rdC H1 b1 2 = some (.slice nd yc od) ∧ T_f7z nd yc od k H1 fun (r1 : Int) (H2 : AHeap) => Br (decide ((r1 : Int) < 0)) (K (.int .i64 (-1)) H2) (K (.int .i64 r1) H2)) := by kernel_rfl
theorem E_faz_ok : ∀ g, FnOk Try.prog g (E_faz g) := FnOk.envOf (by
 intro x hx
 simp only [List.mem_cons, List.not_mem_nil, or_false] at hx
 subst hx; exact f7z_ok)
theorem faz_main (a_Wide : Int) (a_High : Int) (ta : OA) (cb : Nat) (db : Nat) (k : Int) (H : AHeap) (K : Value → AHeap → Prop) (h : T_faz a_Wide a_High ta cb db k H fun (r1 : Int) (H' : AHeap) => K (.int .i64 r1) H') : bodyL Try.prog E_faz Try.f16 [.agg #[.int .i64 a_Wide, .int .i64 a_High, .slice ta cb db], .int .i64 k] H K := by
 rw [faz_vc]
 obtain ⟨ia, i_a_Lights, bd_12, hk⟩ := h
 obtain rfl := i_a_Lights.eqn
 have e : (p_faz a_Wide a_High ia k) = _ := rfl
 have e := e.trans (p_faz_eq a_Wide a_High ia k)
 have g0 := Grow.refl H
 refine Al.intro (fun b_1 H_1 hb_2 hl_3 g_4 o_5 => ?_)
 have l_7 := g_4.1
 have g_8 := g0.trans g_4
 have l_9 := g_8.1
 have w11 := o_5.lt
 refine ⟨ta, ia.length, db, (o_5.rdC _).trans rfl, ?_⟩
 refine T_f7z_i ⟨_, (i_a_Lights.grow g_8), ω0, ?_⟩
 refine Br.intro (fun c_10 => ?_) (fun c_10 => ?_)
 ·have e := e.trans (cond_t c_10)
  have c_10' := of_decide_eq_true c_10
  rw [e] at hk
  exact hk  H_1 g_8 
 ·have e := e.trans (cond_f c_10)
  have c_10' := of_decide_eq_false c_10
  rw [e] at hk
  exact hk  H_1 g_8 
theorem faz_ok : FnOk Try.prog 16 S_faz := by
 refine FnOk.body mix_ok E_faz_ok Try.func16 rfl ω9 ω9 ?_ ?_ ?_ ?_ ?_
 ·intro args H K K' h hk
  simp only [S_faz] at *
  unfold F_faz at *
  split at hk
  ·obtain ⟨ia, i_a_Lights, bd_12, k⟩ := hk
   exact ⟨ia, i_a_Lights, bd_12, (fun  H' gg  => h _ _ (k  H' gg ))⟩
  ·exact hk.elim
 ·intro hq; cases hq
 ·intro args H K hk
  simp only [S_faz] at *
  unfold F_faz at *
  split at hk
  ·obtain ⟨ia, i_a_Lights, bd_12, k⟩ := hk
   exact ⟨_, _, k H (Grow.refl H)⟩
  ·exact hk.elim
 ·intro _ args H K hk
  simp only [S_faz] at *
  unfold F_faz at *
  split at hk
  ·obtain ⟨ia, i_a_Lights, bd_12, k⟩ := hk
   exact ⟨ia, i_a_Lights, bd_12, (fun  H' gg  => ⟨gg, k  H' gg ⟩)⟩
  ·exact hk.elim
 ·have mm := @faz_main
  have ml := fun (args : List Value) (H : AHeap) (K : Value → AHeap → Prop) => bodyL_body (P := Try.prog) (env := E_faz ) (fn := Try.f16) (args := args) (H := H) (K := K) E_faz_ok 
  revert mm ml
  generalize bodyK Try.prog E_faz Try.f16 = Q
  generalize bodyL Try.prog E_faz Try.f16 = QL
  intro mm ml args H K hk
  simp only [S_faz] at *
  unfold F_faz at *
  split at hk
  ·exact ml _ H K (mm _ _ _ _ _ _ H K hk)
  ·exact hk.elim
end Go.Proofs.Ythheoefadijhdaa.Ai
