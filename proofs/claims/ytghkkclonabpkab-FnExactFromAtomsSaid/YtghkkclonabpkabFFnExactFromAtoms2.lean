/- What functions of the program come to on the abstract machine, and that they do so; printed by a program of mine around proofs of mine. -/
import Derived.Test.YtghkkclonabpkabFFnExactFromAtoms1
set_option linter.unusedVariables false
set_option linter.unusedSimpArgs false
set_option linter.defProp false
set_option maxRecDepth 100000
namespace Go.Proofs.Ytghkkclonabpkab.Ai
open Go
attribute [local irreducible] bodyK

def p_impl_realKernel_l1 (scale : Nat) : Nat → (List Nat) → Int → (List Nat) × Int
  | 0, _, _ => ([], 0)
  | μ + 1, l_vout, t17 => (bif decide ((t17 : Int) < (((p_impl_kernel scale).1).length : Int)) then (p_impl_realKernel_l1 scale μ ((l_vout ++ [(((((p_impl_kernel scale).1).getD (t17 : Int).toNat (0, 0))).1)])) (t17 + 1)) else (l_vout, (p_impl_kernel scale).2))
def p_impl_realKernel_l1_s := fun scale μ l_vout t17 => @p_impl_realKernel_l1.eq_2 scale l_vout t17 μ
def p_impl_realKernel (scale : Nat) : (List Nat) × Int := (p_impl_realKernel_l1 scale (Int.toNat ((((p_impl_kernel scale).1).length : Int) - (0 : Int)) + 1) ([] : List Nat) (0 : Int))
def p_impl_realKernel_eq := @p_impl_realKernel.eq_1
def T_impl_realKernel (scale : Nat) (H : AHeap) (K : (Option Addr) → Nat → Nat → Int → AHeap → Prop) : Prop := (bif fle .f32 1056964608 scale then fle .f32 scale 1098907648 else false) = true ∧ ((∀ (r1_a : Option Addr) (r1_n r1_e : Nat), ∀ H' : AHeap, Grow H H' → OwnS fF H' H.length r1_a r1_n r1_e ((p_impl_realKernel scale).1) → K r1_a r1_n r1_e ((p_impl_realKernel scale).2) H'))
theorem T_impl_realKernel_i {scale : Nat} {H : AHeap} {K : (Option Addr) → Nat → Nat → Int → AHeap → Prop} (h : (bif fle .f32 1056964608 scale then fle .f32 scale 1098907648 else false) = true ∧ ((∀ (r1_a : Option Addr) (r1_n r1_e : Nat), ∀ H' : AHeap, Grow H H' → OwnS fF H' H.length r1_a r1_n r1_e ((p_impl_realKernel scale).1) → K r1_a r1_n r1_e ((p_impl_realKernel scale).2) H'))) : T_impl_realKernel scale H K := h
theorem impl_realKernel_l1_val (x : Nat) : ∀ (μ : Nat) (o : List Nat) (k : Int), 0 ≤ k → ((p_impl_kernel x).1.length - k).toNat < μ → p_impl_realKernel_l1 x μ o k = (o ++ ((p_impl_kernel x).1.drop k.toNat).map Prod.fst, (p_impl_kernel x).2) := by
  intro μ
  induction μ with
  | zero => intro o k h0 h; omega
  | succ μ ih =>
    intro o k h0 h
    rw [p_impl_realKernel_l1_s]
    by_cases hk : k < ((p_impl_kernel x).1.length : Int)
    · rw [decide_eq_true hk, cond_true, ih _ _ o4 o4]
      have hk' : k.toNat < (p_impl_kernel x).1.length := by omega
      rw [show (k + 1).toNat = k.toNat + 1 by omega, List.append_assoc, List.getD_eq_getElem?_getD, List.getElem?_eq_getElem hk', List.drop_eq_getElem_cons hk']; rfl
    · rw [decide_eq_false hk, cond_false, List.drop_eq_nil_of_le o4, List.map_nil, List.append_nil]
theorem impl_realKernel_val (x : Nat) : p_impl_realKernel x = ((p_impl_kernel x).1.map Prod.fst, (p_impl_kernel x).2) := by
  rw [p_impl_realKernel_eq, impl_realKernel_l1_val _ _ _ _ o22 o4]; rfl
theorem impl_realKernel_len (x : Nat) (h : (bif fle .f32 1056964608 x then fle .f32 x 1098907648 else false) = true) : (p_impl_realKernel x).1.length ≤ 1000 ∧ -256 ≤ (p_impl_realKernel x).2 ∧ (p_impl_realKernel x).2 ≤ 256 := by
  rw [impl_realKernel_val]; simp only [List.length_map]; exact impl_kernel_len x h
/-! impl_realKernel: function 57 -/
def E_impl_realKernel : Env := envOf [(87, S_impl_kernel)]
def F_impl_realKernel : List Value → AHeap → (Value → AHeap → Prop) → Prop
  | [.float .f32 scale], H, K => T_impl_realKernel scale H fun (r1_a : Option Addr) (r1_n : Nat) (r1_e : Nat) (r2 : Int) (H' : AHeap) => K (.tuple #[.slice r1_a r1_n r1_e, .int .i64 r2]) H'
  | _, _, _ => False
def S_impl_realKernel : FSpec := { F := F_impl_realKernel, quiet := false, tame := true }
theorem impl_realKernel_vc (scale : Nat) (H : AHeap) (K : Value → AHeap → Prop) : bodyK Try.prog E_impl_realKernel Try.f57 [.float .f32 scale] H K =
  (T_impl_kernel scale H fun (a1 : Option Addr) (r1 : Nat) (r2 : Nat) (r3 : Int) (H1 : AHeap) => Al [] H1 fun b1 H2 => loopK (exK Try.prog E_impl_realKernel (cl (cl (cr (cl (cr (cr (cr (bodyC Try.f57))))))))) [.float .f32 scale, undef, .slice none 0 0, .int .i64 0, .slice a1 r1 r2, .int .i64 r3, .slice (some ⟨b1, 0, none⟩) 0 1, undef, undef, .tuple #[.slice a1 r1 r2, .int .i64 r3], .float .f32 scale, .tuple #[.slice a1 r1 r2, .int .i64 r3], .slice a1 r1 r2, .int .i64 r3, .slice (some ⟨b1, 0, none⟩) 0 1, .slice a1 r1 r2, .int .i64 (r1 : Int), .int .i64 0, undef, undef, undef, undef, undef, undef, undef, undef, undef, undef, undef] H2 (blockQ 0 (seqQ (exK Try.prog E_impl_realKernel (cr (cr (cr (cr (bodyC Try.f57)))))) (retK Try.prog Try.f57 K)))) := by kernel_rfl
abbrev impl_realKernel_P1 (a1 : Option Addr) (b1 : Nat) (r1 : Nat) (r2 : Nat) (r3 : Int) (scale : Nat) (vout_a : Option Addr) (vout_n : Nat) (vout_e : Nat) (t17 : Int) (g8 g18 g19 g20 g21 g22 g23 g24 g25 g26 : Value) : List Value := [.float .f32 scale, undef, .slice none 0 0, .int .i64 0, .slice a1 r1 r2, .int .i64 r3, .slice vout_a vout_n vout_e, undef, g8, .tuple #[.slice a1 r1 r2, .int .i64 r3], .float .f32 scale, .tuple #[.slice a1 r1 r2, .int .i64 r3], .slice a1 r1 r2, .int .i64 r3, .slice (some ⟨b1, 0, none⟩) 0 1, .slice a1 r1 r2, .int .i64 (r1 : Int), .int .i64 t17, g18, g19, g20, g21, g22, g23, g24, g25, g26, undef, undef]
theorem impl_realKernel_r1 (a1 : Option Addr) (b1 : Nat) (r1 : Nat) (r2 : Nat) (r3 : Int) (scale : Nat) (vout_a : Option Addr) (vout_n : Nat) (vout_e : Nat) (t17 : Int) (g8 g18 g19 g20 g21 g22 g23 g24 g25 g26 : Value) (H : AHeap) (R : Post) : exK Try.prog E_impl_realKernel (cl (cl (cr (cl (cr (cr (cr (bodyC Try.f57)))))))) (impl_realKernel_P1 a1 b1 r1 r2 r3 scale vout_a vout_n vout_e t17 g8 g18 g19 g20 g21 g22 g23 g24 g25 g26) H R =
  (Br (decide ((t17 : Int) < (r1 : Int))) ((0 : Int) ≤ t17 ∧ t17 < (r1 : Int) ∧ ∃ b2 f1, (a1 : Option Addr) = some ⟨b2, f1, none⟩ ∧ ∃ x1_r : Nat, ∃ x1_i : Nat,  rdC H b2 (f1 + (t17 : Int).toNat * 1) = some (.complex .f32 x1_r x1_i) ∧ Al [.float .f32 x1_r] H fun b3 H3 => ∃ o1 w1 : List Value, ownB H3 vout_a vout_n vout_e 1 = some o1 ∧ rdS H3 (some ⟨b3, 0, none⟩) (1 * 1) = some w1 ∧ ((vout_a : Option Addr) = none → 0 < (1 : Nat)) ∧ (vout_n : Nat) + 1 < most ∧ Ap H3 (killB H3 vout_a ++ [some ⟨o1 ++ w1, true⟩]) fun b4 H4 => R .normal [.float .f32 scale, undef, .slice none 0 0, .int .i64 0, .slice a1 r1 r2, .int .i64 r3, .slice (some ⟨b4, 0, none⟩) (vout_n + 1) 1, undef, .complex .f32 x1_r x1_i, .tuple #[.slice a1 r1 r2, .int .i64 r3], .float .f32 scale, .tuple #[.slice a1 r1 r2, .int .i64 r3], .slice a1 r1 r2, .int .i64 r3, .slice (some ⟨b1, 0, none⟩) 0 1, .slice a1 r1 r2, .int .i64 (r1 : Int), .int .i64 (IntKind.wrap .i64 (t17 + 1)), .bool (decide ((t17 : Int) < (r1 : Int))), .pointer (some ⟨b2, f1 + (t17 : Int).toNat * 1, none⟩), .complex .f32 x1_r x1_i, .slice vout_a vout_n vout_e, .complex .f32 x1_r x1_i, .float .f32 x1_r, .slice (some ⟨b3, 0, none⟩) 1 1, .slice (some ⟨b4, 0, none⟩) (vout_n + 1) 1, .int .i64 (IntKind.wrap .i64 (t17 + 1)), undef, undef] H4) (R (.exit 0) [.float .f32 scale, undef, .slice none 0 0, .int .i64 0, .slice a1 r1 r2, .int .i64 r3, .slice vout_a vout_n vout_e, undef, g8, .tuple #[.slice a1 r1 r2, .int .i64 r3], .float .f32 scale, .tuple #[.slice a1 r1 r2, .int .i64 r3], .slice a1 r1 r2, .int .i64 r3, .slice (some ⟨b1, 0, none⟩) 0 1, .slice a1 r1 r2, .int .i64 (r1 : Int), .int .i64 t17, .bool (decide ((t17 : Int) < (r1 : Int))), g19, g20, g21, g22, g23, g24, g25, g26, undef, undef] H)) := by kernel_rfl
def impl_realKernel_I1 (a1 : Option Addr) (b1 : Nat) (r1 : Nat) (r2 : Nat) (r3 : Int) (scale : Nat) (Inv : Nat → (Option Addr) → Nat → Nat → Int → AHeap → Prop) : Nat → List Value → AHeap → Prop := fun μ tm H => ∃ (vout_a : Option Addr), ∃ (vout_n : Nat), ∃ (vout_e : Nat), ∃ (t17 : Int), ∃ g8 g18 g19 g20 g21 g22 g23 g24 g25 g26, tm = (impl_realKernel_P1 a1 b1 r1 r2 r3 scale vout_a vout_n vout_e t17 g8 g18 g19 g20 g21 g22 g23 g24 g25 g26) ∧ Inv μ vout_a vout_n vout_e t17 H
theorem impl_realKernel_L1 (a1 : Option Addr) (b1 : Nat) (r1 : Nat) (r2 : Nat) (r3 : Int) (scale : Nat) {Q : Post} (Inv : Nat → (Option Addr) → Nat → Nat → Int → AHeap → Prop) (ν : Nat) (vout_a : Option Addr) (vout_n : Nat) (vout_e : Nat) (t17 : Int) (g8 g18 g19 g20 g21 g22 g23 g24 g25 g26 : Value) (H : AHeap) (h0 : Inv ν vout_a vout_n vout_e t17 H)
    (hs : ∀ (μ : Nat) (vout_a : Option Addr) (vout_n : Nat) (vout_e : Nat) (t17 : Int) (g8 g18 g19 g20 g21 g22 g23 g24 g25 g26 : Value) (H : AHeap), Inv μ vout_a vout_n vout_e t17 H → exK Try.prog E_impl_realKernel (cl (cl (cr (cl (cr (cr (cr (bodyC Try.f57)))))))) (impl_realKernel_P1 a1 b1 r1 r2 r3 scale vout_a vout_n vout_e t17 g8 g18 g19 g20 g21 g22 g23 g24 g25 g26) H (loopQ (impl_realKernel_I1 a1 b1 r1 r2 r3 scale Inv) μ Q)) : loopK (exK Try.prog E_impl_realKernel (cl (cl (cr (cl (cr (cr (cr (bodyC Try.f57))))))))) (impl_realKernel_P1 a1 b1 r1 r2 r3 scale vout_a vout_n vout_e t17 g8 g18 g19 g20 g21 g22 g23 g24 g25 g26) H Q :=
  ⟨impl_realKernel_I1 a1 b1 r1 r2 r3 scale Inv, ν, ⟨vout_a, vout_n, vout_e, t17, g8, g18, g19, g20, g21, g22, g23, g24, g25, g26, rfl, h0⟩, fun μ tm H h => by obtain ⟨vout_a, vout_n, vout_e, t17, g8, g18, g19, g20, g21, g22, g23, g24, g25, g26, rfl, hI⟩ := h; exact hs μ vout_a vout_n vout_e t17 g8 g18 g19 g20 g21 g22 g23 g24 g25 g26 H hI⟩
theorem impl_realKernel_n1 {a1 : Option Addr} {b1 : Nat} {r1 : Nat} {r2 : Nat} {r3 : Int} {scale : Nat} {Q : Post} {Inv : Nat → (Option Addr) → Nat → Nat → Int → AHeap → Prop} {μ : Nat} (μ' : Nat) {vout_a : Option Addr} {vout_n : Nat} {vout_e : Nat} {t17 : Int} {g8 g18 g19 g20 g21 g22 g23 g24 g25 g26 : Value} {H : AHeap} (hm : μ' < μ) (hI : Inv μ' vout_a vout_n vout_e t17 H) : loopQ (impl_realKernel_I1 a1 b1 r1 r2 r3 scale Inv) μ Q .normal (impl_realKernel_P1 a1 b1 r1 r2 r3 scale vout_a vout_n vout_e t17 g8 g18 g19 g20 g21 g22 g23 g24 g25 g26) H := ⟨μ', hm, vout_a, vout_n, vout_e, t17, g8, g18, g19, g20, g21, g22, g23, g24, g25, g26, rfl, hI⟩
theorem impl_realKernel_x1_0 (a1 : Option Addr) (b1 : Nat) (r1 : Nat) (r2 : Nat) (r3 : Int) (scale : Nat) (vout_a : Option Addr) (vout_n : Nat) (vout_e : Nat) (t17 : Int) (g8 g18 g19 g20 g21 g22 g23 g24 g25 g26 : Value) (H : AHeap) (K : Value → AHeap → Prop)  {I : Nat → List Value → AHeap → Prop} {μ : Nat} : loopQ I μ (blockQ 0 (seqQ (exK Try.prog E_impl_realKernel (cr (cr (cr (cr (bodyC Try.f57)))))) (retK Try.prog Try.f57 K))) (.exit 0) (impl_realKernel_P1 a1 b1 r1 r2 r3 scale vout_a vout_n vout_e t17 g8 g18 g19 g20 g21 g22 g23 g24 g25 g26) H =
  (K (.tuple #[.slice vout_a vout_n vout_e, .int .i64 r3]) H) := by kernel_rfl
theorem E_impl_realKernel_ok : ∀ g, FnOk Try.prog g (E_impl_realKernel g) := FnOk.envOf (by
  intro x hx
  simp only [List.mem_cons, List.not_mem_nil, or_false] at hx
  subst hx; exact impl_kernel_ok)
set_option maxHeartbeats 1000000 in
theorem impl_realKernel_main (scale : Nat) (H : AHeap) (K : Value → AHeap → Prop) (h : T_impl_realKernel scale H fun (r1_a : Option Addr) (r1_n : Nat) (r1_e : Nat) (r2 : Int) (H' : AHeap) => K (.tuple #[.slice r1_a r1_n r1_e, .int .i64 r2]) H') : bodyK Try.prog E_impl_realKernel Try.f57 [.float .f32 scale] H K := by
  rw [impl_realKernel_vc]
  obtain ⟨pr0, hk⟩ := h
  have e : (p_impl_realKernel scale) = _ := rfl
  have e := e.trans (p_impl_realKernel_eq scale)
  have g0 := Grow.refl H
  refine T_impl_kernel_i ⟨o18, fun a_1 n_2 e_3 H_1 g_6 r_4 => ?_⟩
  have z_5 := impl_kernel_len scale o29
  have l_7 := g_6.1
  have g_8 := g0.trans g_6
  have l_9 := g_8.1
  obtain rfl := r_4.isL.eqn
  have u_10 := r_4.up
  have u_11 := r_4.lo
  refine Al.intro (fun b_13 H_2 hb_14 hl_15 g_16 o_17 => ?_)
  have o_17 : Own H_2 b_13 ((([] : List Nat)).map fF) := o_17
  have l_19 := g_16.1
  have g_20 := g_8.trans g_16
  have l_21 := g_20.1
  have r_22 := r_4.grow g_16
  have w_66 := o_17.lt
  refine impl_realKernel_L1 _ _ _ _ _ _ (fun (μ : Nat) (vout_a : Option Addr) (vout_n : Nat) (vout_e : Nat) (t17 : Int) (H_3 : AHeap) => ∃ (l_vout : List Nat), ∃ (b_23 : Nat), vout_a = some ⟨b_23, 0, none⟩ ∧ vout_n = l_vout.length ∧ vout_e = 1 ∧ Own H_3 b_23 (l_vout.map fF) ∧ OwnS fC H_3 H.length a_1 (((p_impl_kernel scale).1).length) e_3 ((p_impl_kernel scale).1) ∧ H_1.length ≤ H_3.length ∧ (b_23 < H.length ∨ H_1.length ≤ b_23) ∧ Grow H H_3 ∧ H.length ≤ b_23 ∧ (0 : Int) ≤ t17 ∧ t17 ≤ (((p_impl_kernel scale).1).length : Int) ∧ (l_vout.length : Int) ≤ t17 - (0 : Int) + 0 ∧ (l_vout.length : Int) ≤ t17 ∧ (((p_impl_kernel scale).1).length : Int) - t17 ≤ (μ : Int) ∧ p_impl_realKernel scale = p_impl_realKernel_l1 scale (μ + 1) l_vout t17) (Int.toNat ((((p_impl_kernel scale).1).length : Int) - (0 : Int))) _ _ _ _ _ _ _ _ _ _ _ _ _ _ H_2 ?_ ?_
  · exact ⟨_, _, rfl, o8, rfl, o_17, r_22, o4, o4, g_20, o4, o5, o5, o5, o5, o4, e⟩
  · intro μ vout_a vout_n vout_e t17 g8 g18 g19 g20 g21 g22 g23 g24 g25 g26 H_3 hI
    obtain ⟨l_vout, b_23, rfl, rfl, rfl, o_24, r_25, n_26, n_27, g_28, l_29, v_30, v_31, v_32, v_33, hμ, e⟩ := hI
    rw [impl_realKernel_r1]
    have e := e.trans (p_impl_realKernel_l1_s scale μ l_vout t17)
    have w_34 := o_24.lt
    have l_35 := g_28.1
    refine Br.intro (fun c_36 => ?_) (fun c_36 => ?_)
    · have e := e.trans (cond_t c_36)
      have c_36' := of_decide_eq_true c_36
      obtain ⟨b_37, f_38, q_39⟩ := (r_25.isL).pos o0
      refine ⟨by omega, by omega, b_37, f_38, q_39, ?_⟩
      refine ⟨((((p_impl_kernel scale).1).getD (t17 : Int).toNat (0, 0))).1, ((((p_impl_kernel scale).1).getD (t17 : Int).toNat (0, 0))).2, (r_25.isL).rd (Grow.refl _) q_39 o4 _, ?_⟩
      refine Al.intro (fun b_40 H_4 hb_41 hl_42 g_43 o_44 => ?_)
      have o_44 : Own H_4 b_40 (([(((((p_impl_kernel scale).1).getD (t17 : Int).toNat (0, 0))).1)]).map fF) := o_44
      have l_46 := g_43.1
      have g_47 := g_28.trans g_43
      have l_48 := g_47.1
      have o_49 := o_24.grow g_43
      have w_50 := o_49.lt
      have r_51 := r_25.grow g_43
      have w_65 := o_44.lt
      refine ⟨_, _, o_49.ownB o9 rfl, (isl_rdS (o_44.isL o8)), (fun h => by cases h), o24, ?_⟩
      refine Ap.app o_49 rfl rfl (fun b_56 H_5 q_63 hl_52 o_53 k_54 => ?_)
      have o_53 := map_snoc o_53
      have l_57 := k_54.1
      have g_58 := g_47.keep (b := b_23) o4 k_54
      have l_59 := g_58.1
      have o_60 := o_44.keep o4 k_54
      have w_61 := o_60.lt
      have r_62 := r_51.keep u_10 o4 k_54
      have w_64 := o_53.lt
      rw [show IntKind.wrap .i64 (t17 + 1) = (t17 + 1) from wrap64 o4 o4]
      refine impl_realKernel_n1 (μ - 1) o12 ⟨_, _, rfl, o11, rfl, o_53, r_62, o4, o4, g_58, o4, o1, o1, o1, o1, o12, (by rw [show μ - 1 + 1 = μ from by first | omega]; exact e)⟩
    · have e := e.trans (cond_f c_36)
      have c_36' := of_decide_eq_false c_36
      rw [impl_realKernel_x1_0]
      rw [e] at hk
      exact hk _ _ _ H_3 g_28 (o_24.ownS o8 o4)
theorem impl_realKernel_ok : FnOk Try.prog 57 S_impl_realKernel := by
  refine FnOk.body mix_ok E_impl_realKernel_ok Try.func57 rfl (by kernel_rfl) (by kernel_rfl) ?_ ?_ ?_ ?_ ?_
  · intro args H K K' h hk
    simp only [S_impl_realKernel] at *
    unfold F_impl_realKernel at *
    split at hk
    · obtain ⟨pr0, k⟩ := hk
      exact ⟨pr0, (fun r1_a r1_n r1_e H' gg ow0 => h _ _ (k r1_a r1_n r1_e H' gg ow0))⟩
    · exact hk.elim
  · intro hq; cases hq
  · intro args H K hk
    simp only [S_impl_realKernel] at *
    unfold F_impl_realKernel at *
    split at hk
    · obtain ⟨pr0, k⟩ := hk
      exact liveS fun a n e H1 g o => ⟨_, _, k a n e H1 g o⟩
    · exact hk.elim
  · intro _ args H K hk
    simp only [S_impl_realKernel] at *
    unfold F_impl_realKernel at *
    split at hk
    · obtain ⟨pr0, k⟩ := hk
      exact ⟨pr0, (fun r1_a r1_n r1_e H' gg ow0 => ⟨gg, k r1_a r1_n r1_e H' gg ow0⟩)⟩
    · exact hk.elim
  · have mm := @impl_realKernel_main
    revert mm
    generalize bodyK Try.prog E_impl_realKernel Try.f57 = Q
    intro mm args H K hk
    simp only [S_impl_realKernel] at *
    unfold F_impl_realKernel at *
    split at hk
    · exact mm _ H K hk
    · exact hk.elim

def p_impl_squares_l1 (l_list : List Nat) : Nat → Nat → Int → Nat
  | 0, _, _ => 0
  | μ + 1, sum, t8 => (bif decide ((t8 : Int) < (l_list.length : Int)) then (p_impl_squares_l1 l_list μ (fadd .f32 sum (fmul .f32 (((l_list).getD (t8 : Int).toNat 0)) (((l_list).getD (t8 : Int).toNat 0)))) (t8 + 1)) else sum)
def p_impl_squares_l1_s := fun l_list μ sum t8 => @p_impl_squares_l1.eq_2 l_list sum t8 μ
def p_impl_squares (l_list : List Nat) : Nat := (p_impl_squares_l1 l_list (Int.toNat ((l_list.length : Int) - (0 : Int)) + 1) 0 (0 : Int))
def p_impl_squares_eq := @p_impl_squares.eq_1
def T_impl_squares (list_a : Option Addr) (list_n : Nat) (list_e : Nat) (H : AHeap) (K : Nat → AHeap → Prop) : Prop := ∃ (l_list : List Nat), IsL fF H list_a list_n l_list ∧ l_list.length < 1073741824 ∧ K (p_impl_squares l_list) H
theorem T_impl_squares_i {list_a : Option Addr} {list_n : Nat} {list_e : Nat} {H : AHeap} {K : Nat → AHeap → Prop} (h : ∃ (l_list : List Nat), IsL fF H list_a list_n l_list ∧ l_list.length < 1073741824 ∧ K (p_impl_squares l_list) H) : T_impl_squares list_a list_n list_e H K := h

/-! impl_squares: function 89 -/
def E_impl_squares : Env := envOf []
def F_impl_squares : List Value → AHeap → (Value → AHeap → Prop) → Prop
  | [.slice list_a list_n list_e], H, K => T_impl_squares list_a list_n list_e H fun (r1 : Nat) (H' : AHeap) => K (.float .f32 r1) H'
  | _, _, _ => False
def S_impl_squares : FSpec := { F := F_impl_squares, quiet := true, tame := false }
theorem impl_squares_vc (list_a : Option Addr) (list_n : Nat) (list_e : Nat) (H : AHeap) (K : Value → AHeap → Prop) : bodyK Try.prog E_impl_squares Try.f89 [.slice list_a list_n list_e] H K =
  (loopK (exK Try.prog E_impl_squares (cl (cl (cr (cl (cr (cr (bodyC Try.f89)))))))) [.slice list_a list_n list_e, undef, .float .f32 0, .float .f32 0, undef, undef, .slice list_a list_n list_e, .int .i64 (list_n : Int), .int .i64 0, undef, undef, undef, undef, undef, undef, undef, undef, undef, undef] H (blockQ 0 (seqQ (exK Try.prog E_impl_squares (cr (cr (cr (bodyC Try.f89))))) (retK Try.prog Try.f89 K)))) := by kernel_rfl
abbrev impl_squares_P1 (list_a : Option Addr) (list_e : Nat) (list_n : Nat) (sum : Nat) (t8 : Int) (g5 g9 g10 g11 g12 g13 g14 g15 g16 g17 : Value) : List Value := [.slice list_a list_n list_e, undef, .float .f32 0, .float .f32 sum, undef, g5, .slice list_a list_n list_e, .int .i64 (list_n : Int), .int .i64 t8, g9, g10, g11, g12, g13, g14, g15, g16, g17, undef]
theorem impl_squares_r1 (list_a : Option Addr) (list_e : Nat) (list_n : Nat) (sum : Nat) (t8 : Int) (g5 g9 g10 g11 g12 g13 g14 g15 g16 g17 : Value) (H : AHeap) (R : Post) : exK Try.prog E_impl_squares (cl (cl (cr (cl (cr (cr (bodyC Try.f89))))))) (impl_squares_P1 list_a list_e list_n sum t8 g5 g9 g10 g11 g12 g13 g14 g15 g16 g17) H R =
  (Br (decide ((t8 : Int) < (list_n : Int))) ((0 : Int) ≤ t8 ∧ t8 < (list_n : Int) ∧ ∃ b1 f1, (list_a : Option Addr) = some ⟨b1, f1, none⟩ ∧ ∃ x1 : Nat,  rdC H b1 (f1 + (t8 : Int).toNat * 1) = some (.float .f32 x1) ∧ R .normal [.slice list_a list_n list_e, undef, .float .f32 0, .float .f32 (fadd .f32 sum (fmul .f32 x1 x1)), undef, .float .f32 x1, .slice list_a list_n list_e, .int .i64 (list_n : Int), .int .i64 (IntKind.wrap .i64 (t8 + 1)), .bool (decide ((t8 : Int) < (list_n : Int))), .pointer (some ⟨b1, f1 + (t8 : Int).toNat * 1, none⟩), .float .f32 x1, .float .f32 sum, .float .f32 x1, .float .f32 x1, .float .f32 (fmul .f32 x1 x1), .float .f32 (fadd .f32 sum (fmul .f32 x1 x1)), .int .i64 (IntKind.wrap .i64 (t8 + 1)), undef] H) (R (.exit 0) [.slice list_a list_n list_e, undef, .float .f32 0, .float .f32 sum, undef, g5, .slice list_a list_n list_e, .int .i64 (list_n : Int), .int .i64 t8, .bool (decide ((t8 : Int) < (list_n : Int))), g10, g11, g12, g13, g14, g15, g16, g17, undef] H)) := by kernel_rfl
def impl_squares_I1 (list_a : Option Addr) (list_e : Nat) (list_n : Nat) (Inv : Nat → Nat → Int → AHeap → Prop) : Nat → List Value → AHeap → Prop := fun μ tm H => ∃ (sum : Nat), ∃ (t8 : Int), ∃ g5 g9 g10 g11 g12 g13 g14 g15 g16 g17, tm = (impl_squares_P1 list_a list_e list_n sum t8 g5 g9 g10 g11 g12 g13 g14 g15 g16 g17) ∧ Inv μ sum t8 H
theorem impl_squares_L1 (list_a : Option Addr) (list_e : Nat) (list_n : Nat) {Q : Post} (Inv : Nat → Nat → Int → AHeap → Prop) (ν : Nat) (sum : Nat) (t8 : Int) (g5 g9 g10 g11 g12 g13 g14 g15 g16 g17 : Value) (H : AHeap) (h0 : Inv ν sum t8 H)
    (hs : ∀ (μ : Nat) (sum : Nat) (t8 : Int) (g5 g9 g10 g11 g12 g13 g14 g15 g16 g17 : Value) (H : AHeap), Inv μ sum t8 H → exK Try.prog E_impl_squares (cl (cl (cr (cl (cr (cr (bodyC Try.f89))))))) (impl_squares_P1 list_a list_e list_n sum t8 g5 g9 g10 g11 g12 g13 g14 g15 g16 g17) H (loopQ (impl_squares_I1 list_a list_e list_n Inv) μ Q)) : loopK (exK Try.prog E_impl_squares (cl (cl (cr (cl (cr (cr (bodyC Try.f89)))))))) (impl_squares_P1 list_a list_e list_n sum t8 g5 g9 g10 g11 g12 g13 g14 g15 g16 g17) H Q :=
  ⟨impl_squares_I1 list_a list_e list_n Inv, ν, ⟨sum, t8, g5, g9, g10, g11, g12, g13, g14, g15, g16, g17, rfl, h0⟩, fun μ tm H h => by obtain ⟨sum, t8, g5, g9, g10, g11, g12, g13, g14, g15, g16, g17, rfl, hI⟩ := h; exact hs μ sum t8 g5 g9 g10 g11 g12 g13 g14 g15 g16 g17 H hI⟩
theorem impl_squares_n1 {list_a : Option Addr} {list_e : Nat} {list_n : Nat} {Q : Post} {Inv : Nat → Nat → Int → AHeap → Prop} {μ : Nat} (μ' : Nat) {sum : Nat} {t8 : Int} {g5 g9 g10 g11 g12 g13 g14 g15 g16 g17 : Value} {H : AHeap} (hm : μ' < μ) (hI : Inv μ' sum t8 H) : loopQ (impl_squares_I1 list_a list_e list_n Inv) μ Q .normal (impl_squares_P1 list_a list_e list_n sum t8 g5 g9 g10 g11 g12 g13 g14 g15 g16 g17) H := ⟨μ', hm, sum, t8, g5, g9, g10, g11, g12, g13, g14, g15, g16, g17, rfl, hI⟩
theorem impl_squares_x1_0 (list_a : Option Addr) (list_e : Nat) (list_n : Nat) (sum : Nat) (t8 : Int) (g5 g9 g10 g11 g12 g13 g14 g15 g16 g17 : Value) (H : AHeap) (K : Value → AHeap → Prop)  {I : Nat → List Value → AHeap → Prop} {μ : Nat} : loopQ I μ (blockQ 0 (seqQ (exK Try.prog E_impl_squares (cr (cr (cr (bodyC Try.f89))))) (retK Try.prog Try.f89 K))) (.exit 0) (impl_squares_P1 list_a list_e list_n sum t8 g5 g9 g10 g11 g12 g13 g14 g15 g16 g17) H =
  (K (.float .f32 sum) H) := by kernel_rfl
theorem E_impl_squares_ok : ∀ g, FnOk Try.prog g (E_impl_squares g) := FnOk.envOf (by
  intro x hx; cases hx)
set_option maxHeartbeats 1000000 in
theorem impl_squares_main (list_a : Option Addr) (list_n : Nat) (list_e : Nat) (H : AHeap) (K : Value → AHeap → Prop) (h : T_impl_squares list_a list_n list_e H fun (r1 : Nat) (H' : AHeap) => K (.float .f32 r1) H') : bodyK Try.prog E_impl_squares Try.f89 [.slice list_a list_n list_e] H K := by
  rw [impl_squares_vc]
  obtain ⟨l_list, i_list, bd_8, hk⟩ := h
  obtain rfl := i_list.eqn
  have e : (p_impl_squares l_list) = _ := rfl
  have e := e.trans (p_impl_squares_eq l_list)
  have g0 := Grow.refl H
  refine impl_squares_L1 _ _ _ (fun (μ : Nat) (sum : Nat) (t8 : Int) (H_1 : AHeap) => H = H_1 ∧ (0 : Int) ≤ t8 ∧ t8 ≤ (l_list.length : Int) ∧ (l_list.length : Int) - t8 ≤ (μ : Int) ∧ p_impl_squares l_list = p_impl_squares_l1 l_list (μ + 1) sum t8) (Int.toNat ((l_list.length : Int) - (0 : Int))) _ _ _ _ _ _ _ _ _ _ _ _ H ?_ ?_
  · exact ⟨rfl, o5, o5, o4, e⟩
  · intro μ sum t8 g5 g9 g10 g11 g12 g13 g14 g15 g16 g17 H_1 hI
    obtain ⟨rfl, v_1, v_2, hμ, e⟩ := hI
    rw [impl_squares_r1]
    have e := e.trans (p_impl_squares_l1_s l_list μ sum t8)
    have l_3 := g0.1
    refine Br.intro (fun c_4 => ?_) (fun c_4 => ?_)
    · have e := e.trans (cond_t c_4)
      have c_4' := of_decide_eq_true c_4
      obtain ⟨b_5, f_6, q_7⟩ := ((i_list.grow g0)).pos o0
      refine ⟨by omega, by omega, b_5, f_6, q_7, ?_⟩
      refine ⟨((l_list).getD (t8 : Int).toNat 0), (i_list).rd g0 q_7 o4 _, ?_⟩
      rw [show IntKind.wrap .i64 (t8 + 1) = (t8 + 1) from wrap64 o4 o4]
      refine impl_squares_n1 (μ - 1) o12 ⟨rfl, o1, o1, o12, (by rw [show μ - 1 + 1 = μ from by first | omega]; exact e)⟩
    · have e := e.trans (cond_f c_4)
      have c_4' := of_decide_eq_false c_4
      rw [impl_squares_x1_0]
      rw [e] at hk
      exact hk
theorem impl_squares_ok : FnOk Try.prog 89 S_impl_squares := by
  refine FnOk.body mix_ok E_impl_squares_ok Try.func89 rfl (by kernel_rfl) (by kernel_rfl) ?_ ?_ ?_ ?_ ?_
  · intro args H K K' h hk
    simp only [S_impl_squares] at *
    unfold F_impl_squares at *
    split at hk
    · obtain ⟨l_list, i_list, bd_8, k⟩ := hk
      exact ⟨l_list, i_list, bd_8, h _ _ k⟩
    · exact hk.elim
  · intro _ args H K hk
    simp only [S_impl_squares] at *
    unfold F_impl_squares at *
    split at hk
    · obtain ⟨l_list, i_list, bd_8, k⟩ := hk
      exact ⟨_, k, fun K' k' => ⟨l_list, i_list, bd_8, k'⟩⟩
    · exact hk.elim
  · intro args H K hk
    simp only [S_impl_squares] at *
    unfold F_impl_squares at *
    split at hk
    · obtain ⟨l_list, i_list, bd_8, k⟩ := hk
      exact ⟨_, _, k⟩
    · exact hk.elim
  · intro hq; cases hq
  · have mm := @impl_squares_main
    revert mm
    generalize bodyK Try.prog E_impl_squares Try.f89 = Q
    intro mm args H K hk
    simp only [S_impl_squares] at *
    unfold F_impl_squares at *
    split at hk
    · exact mm _ _ _ H K hk
    · exact hk.elim

def p_impl_RootNumber (x : Nat) : Nat := ((fnarrow ((p_math_Sqrt (fwide x)))).getD 0)
def p_impl_RootNumber_eq := @p_impl_RootNumber.eq_1
def T_impl_RootNumber (x : Nat) (H : AHeap) (K : Nat → AHeap → Prop) : Prop := K (p_impl_RootNumber x) H
theorem T_impl_RootNumber_i {x : Nat} {H : AHeap} {K : Nat → AHeap → Prop} (h : K (p_impl_RootNumber x) H) : T_impl_RootNumber x H K := h

/-! impl_RootNumber: function 88 -/
def E_impl_RootNumber : Env := envOf [(113, S_math_Sqrt)]
def F_impl_RootNumber : List Value → AHeap → (Value → AHeap → Prop) → Prop
  | [.float .f32 x], H, K => T_impl_RootNumber x H fun (r1 : Nat) (H' : AHeap) => K (.float .f32 r1) H'
  | _, _, _ => False
def S_impl_RootNumber : FSpec := { F := F_impl_RootNumber, quiet := true, tame := false }
theorem impl_RootNumber_vc (x : Nat) (H : AHeap) (K : Value → AHeap → Prop) : bodyK Try.prog E_impl_RootNumber Try.f88 [.float .f32 x] H K =
  (T_math_Sqrt (fwide x) H fun (r1 : Nat) (H1 : AHeap) => ∃ x1 : Nat, fnarrow r1 = some x1 ∧ K (.float .f32 x1) H1) := by kernel_rfl
theorem E_impl_RootNumber_ok : ∀ g, FnOk Try.prog g (E_impl_RootNumber g) := FnOk.envOf (by
  intro x hx
  simp only [List.mem_cons, List.not_mem_nil, or_false] at hx
  subst hx; exact math_Sqrt_ok)
set_option maxHeartbeats 1000000 in
theorem impl_RootNumber_main (x : Nat) (H : AHeap) (K : Value → AHeap → Prop) (h : T_impl_RootNumber x H fun (r1 : Nat) (H' : AHeap) => K (.float .f32 r1) H') : bodyK Try.prog E_impl_RootNumber Try.f88 [.float .f32 x] H K := by
  rw [impl_RootNumber_vc]
  have hk := h
  unfold T_impl_RootNumber at hk
  have e : (p_impl_RootNumber x) = _ := rfl
  have e := e.trans (p_impl_RootNumber_eq x)
  have g0 := Grow.refl H
  refine T_math_Sqrt_i ?_
  refine ⟨_, opt_get (d := 0) (by exact sqrt_nar _), ?_⟩
  rw [e] at hk
  exact hk
theorem impl_RootNumber_ok : FnOk Try.prog 88 S_impl_RootNumber := by
  refine FnOk.body mix_ok E_impl_RootNumber_ok Try.func88 rfl (by kernel_rfl) (by kernel_rfl) ?_ ?_ ?_ ?_ ?_
  · intro args H K K' h hk
    simp only [S_impl_RootNumber] at *
    unfold F_impl_RootNumber at *
    split at hk
    · have k := hk
      exact h _ _ k
    · exact hk.elim
  · intro _ args H K hk
    simp only [S_impl_RootNumber] at *
    unfold F_impl_RootNumber at *
    split at hk
    · have k := hk
      exact ⟨_, k, fun K' k' => k'⟩
    · exact hk.elim
  · intro args H K hk
    simp only [S_impl_RootNumber] at *
    unfold F_impl_RootNumber at *
    split at hk
    · have k := hk
      exact ⟨_, _, k⟩
    · exact hk.elim
  · intro hq; cases hq
  · have mm := @impl_RootNumber_main
    revert mm
    generalize bodyK Try.prog E_impl_RootNumber Try.f88 = Q
    intro mm args H K hk
    simp only [S_impl_RootNumber] at *
    unfold F_impl_RootNumber at *
    split at hk
    · exact mm _ H K hk
    · exact hk.elim

def p_impl_atomBy_l2 (l_list : List Nat) (r : Int) (count : Int) (place : Int) (size : Nat) (t21 : Int) (y1_1 : List Nat) (k2_2 : Int → (List Nat) → (List Nat)) : Nat → Int → (List Nat) → (List Nat)
  | 0, _, _ => []
  | μ2 + 1, t50, y2_1 => (bif decide ((t50 : Int) < ((count).toNat : Int)) then (p_impl_atomBy_l2 l_list r count place size t21 y1_1 k2_2 μ2 (t50 + 1) (((y2_1).set (t50 : Int).toNat ((fmul .f32 (fdiv .f32 (((y2_1).getD (t50 : Int).toNat 0)) ((p_impl_RootNumber (p_impl_squares y1_1)))) size))))) else (k2_2 t50 y2_1))
def p_impl_atomBy_l2_s := fun l_list r count place size t21 y1_1 k2_2 μ2 t50 y2_1 => @p_impl_atomBy_l2.eq_2 l_list r count place size t21 y1_1 k2_2 t50 y2_1 μ2
def p_impl_atomBy_l1 (l_list : List Nat) (r : Int) (count : Int) (place : Int) (size : Nat) : Nat → Int → (List Nat) → (List Nat)
  | 0, _, _ => []
  | μ + 1, t21, y1_1 => (bif decide ((t21 : Int) < ((count).toNat : Int)) then (bif decide ((0 : Int) ≤ ((t21 - place) + r)) then (bif decide ((((t21 - place) + r) : Int) < (l_list.length : Int)) then (p_impl_atomBy_l1 l_list r count place size μ (t21 + 1) (((y1_1).set (t21 : Int).toNat ((((l_list).getD (((t21 - place) + r) : Int).toNat 0)))))) else (p_impl_atomBy_l1 l_list r count place size μ (t21 + 1) y1_1)) else (p_impl_atomBy_l1 l_list r count place size μ (t21 + 1) y1_1)) else (p_impl_atomBy_l2 l_list r count place size t21 y1_1 (fun (t50 : Int) (y2_1 : List Nat) => y2_1) (Int.toNat (((count).toNat : Int) - (0 : Int)) + 1) (0 : Int) y1_1))
def p_impl_atomBy_l1_s := fun l_list r count place size μ t21 y1_1 => @p_impl_atomBy_l1.eq_2 l_list r count place size t21 y1_1 μ
def p_impl_atomBy (l_list : List Nat) (r : Int) (count : Int) (place : Int) (size : Nat) : (List Nat) := (p_impl_atomBy_l1 l_list r count place size (Int.toNat (((count).toNat : Int) - (0 : Int)) + 1) (0 : Int) (List.replicate ((count).toNat) 0))
def p_impl_atomBy_eq := @p_impl_atomBy.eq_1
def T_impl_atomBy (list_a : Option Addr) (list_n : Nat) (list_e : Nat) (r : Int) (count : Int) (place : Int) (size : Nat) (H : AHeap) (K : (Option Addr) → Nat → Nat → AHeap → Prop) : Prop := ∃ (l_list : List Nat), IsL fF H list_a list_n l_list ∧ l_list.length < 1073741824 ∧ 0 ≤ count ∧ count ≤ 1000 ∧ 0 ≤ place ∧ place ≤ 1000 ∧ -256 ≤ r ∧ r ≤ 256 ∧ ((∀ (r1_a : Option Addr) (r1_n r1_e : Nat), ∀ H' : AHeap, Grow H H' → OwnS fF H' H.length r1_a r1_n r1_e (p_impl_atomBy l_list r count place size) → K r1_a r1_n r1_e H'))
theorem T_impl_atomBy_i {list_a : Option Addr} {list_n : Nat} {list_e : Nat} {r : Int} {count : Int} {place : Int} {size : Nat} {H : AHeap} {K : (Option Addr) → Nat → Nat → AHeap → Prop} (h : ∃ (l_list : List Nat), IsL fF H list_a list_n l_list ∧ l_list.length < 1073741824 ∧ 0 ≤ count ∧ count ≤ 1000 ∧ 0 ≤ place ∧ place ≤ 1000 ∧ -256 ≤ r ∧ r ≤ 256 ∧ ((∀ (r1_a : Option Addr) (r1_n r1_e : Nat), ∀ H' : AHeap, Grow H H' → OwnS fF H' H.length r1_a r1_n r1_e (p_impl_atomBy l_list r count place size) → K r1_a r1_n r1_e H'))) : T_impl_atomBy list_a list_n list_e r count place size H K := h
theorem impl_atomBy_l2_len (l : List Nat) (r c p : Int) (z : Nat) (t : Int) (y1 : List Nat) : ∀ (μ : Nat) (i : Int) (y : List Nat), (p_impl_atomBy_l2 l r c p z t y1 (fun (t50 : Int) (y2_1 : List Nat) => y2_1) μ i y).length ≤ y.length := by
  intro μ
  induction μ with
  | zero => intro i y; exact Nat.zero_le _
  | succ μ ih =>
    intro i y
    rw [p_impl_atomBy_l2_s]
    cases decide (i < ((c).toNat : Int))
    · exact Nat.le_refl _
    · exact Nat.le_trans (ih _ _) (by rw [List.length_set]; exact Nat.le_refl _)
theorem impl_atomBy_l1_len (l : List Nat) (r c p : Int) (z : Nat) : ∀ (μ : Nat) (i : Int) (y : List Nat), (p_impl_atomBy_l1 l r c p z μ i y).length ≤ y.length := by
  intro μ
  induction μ with
  | zero => intro i y; exact Nat.zero_le _
  | succ μ ih =>
    intro i y
    rw [p_impl_atomBy_l1_s]
    cases decide (i < ((c).toNat : Int))
    · exact impl_atomBy_l2_len _ _ _ _ _ _ _ _ _ _
    · simp only [cond_true]
      refine cnb (P := fun r : List Nat => r.length ≤ y.length) (fun h => ?_) (fun h => ih _ _)
      refine cnb (P := fun r : List Nat => r.length ≤ y.length) (fun h => ?_) (fun h => ih _ _)
      refine Nat.le_trans (ih _ _) ?_; rw [List.length_set]; exact Nat.le_refl _
theorem impl_atomBy_len (l : List Nat) (r c p : Int) (z : Nat) : (p_impl_atomBy l r c p z).length ≤ c.toNat := by
  rw [p_impl_atomBy_eq]
  exact Nat.le_trans (impl_atomBy_l1_len _ _ _ _ _ _ _ _) (by rw [List.length_replicate]; exact Nat.le_refl _)
theorem impl_atomBy_l2_full (l : List Nat) (r c p : Int) (z : Nat) (t : Int) (y1 : List Nat) : ∀ (μ : Nat) (i : Int) (y : List Nat), (((c).toNat : Int) - i).toNat < μ → (p_impl_atomBy_l2 l r c p z t y1 (fun (t50 : Int) (y2_1 : List Nat) => y2_1) μ i y).length = y.length := by
  intro μ
  induction μ with
  | zero => intro i y h; omega
  | succ μ ih =>
    intro i y h
    rw [p_impl_atomBy_l2_s]
    by_cases hi : i < ((c).toNat : Int)
    · rw [decide_eq_true hi, cond_true, ih _ _ o4, List.length_set]
    · rw [decide_eq_false hi, cond_false]
theorem impl_atomBy_l1_full (l : List Nat) (r c p : Int) (z : Nat) : ∀ (μ : Nat) (i : Int) (y : List Nat), (((c).toNat : Int) - i).toNat < μ → (p_impl_atomBy_l1 l r c p z μ i y).length = y.length := by
  intro μ
  induction μ with
  | zero => intro i y h; omega
  | succ μ ih =>
    intro i y h
    rw [p_impl_atomBy_l1_s]
    by_cases hi : i < ((c).toNat : Int)
    · rw [decide_eq_true hi, cond_true]
      refine cnb (P := fun r : List Nat => r.length = y.length) (fun h2 => ?_) (fun h2 => ih _ _ o4)
      refine cnb (P := fun r : List Nat => r.length = y.length) (fun h3 => ?_) (fun h3 => ih _ _ o4)
      rw [ih _ _ o4, List.length_set]
    · rw [decide_eq_false hi, cond_false]
      exact impl_atomBy_l2_full _ _ _ _ _ _ _ _ _ _ o4
theorem impl_atomBy_full (l : List Nat) (r c p : Int) (z : Nat) : (p_impl_atomBy l r c p z).length = c.toNat := by
  rw [p_impl_atomBy_eq, impl_atomBy_l1_full _ _ _ _ _ _ _ _ o4, List.length_replicate]
/-! impl_atomBy: function 59 -/
def E_impl_atomBy : Env := envOf [(89, S_impl_squares), (88, S_impl_RootNumber)]
def F_impl_atomBy : List Value → AHeap → (Value → AHeap → Prop) → Prop
  | [.slice list_a list_n list_e, .int .i64 r, .int .i64 count, .int .i64 place, .float .f32 size], H, K => T_impl_atomBy list_a list_n list_e r count place size H fun (r1_a : Option Addr) (r1_n : Nat) (r1_e : Nat) (H' : AHeap) => K (.slice r1_a r1_n r1_e) H'
  | _, _, _ => False
def S_impl_atomBy : FSpec := { F := F_impl_atomBy, quiet := false, tame := true }
theorem impl_atomBy_vc (list_a : Option Addr) (list_n : Nat) (list_e : Nat) (r : Int) (count : Int) (place : Int) (size : Nat) (H : AHeap) (K : Value → AHeap → Prop) : bodyK Try.prog E_impl_atomBy Try.f59 [.slice list_a list_n list_e, .int .i64 r, .int .i64 count, .int .i64 place, .float .f32 size] H K =
  ((0 : Int) ≤ count ∧ count = count ∧ count < (most : Int) ∧ Al (zerosOf (.float .f32 0) (count).toNat) H fun b1 H1 => loopK (exK Try.prog E_impl_atomBy (cl (cl (cr (cl (cr (cr (bodyC Try.f59)))))))) [.slice list_a list_n list_e, .int .i64 r, .int .i64 count, .int .i64 place, .float .f32 size, undef, undef, undef, undef, undef, .slice none 0 0, .slice (some ⟨b1, 0, none⟩) ((count).toNat) 1, undef, undef, undef, undef, undef, .int .i64 count, .slice (some ⟨b1, 0, none⟩) ((count).toNat) 1, .slice (some ⟨b1, 0, none⟩) ((count).toNat) 1, .int .i64 (((count).toNat : Int)), .int .i64 0, undef, undef, undef, undef, undef, undef, undef, undef, undef, undef, undef, undef, undef, undef, undef, undef, undef, undef, undef, undef, undef, undef, undef, undef, undef, undef, undef, undef, undef, undef, undef, undef, undef, undef, undef, undef, undef, undef, undef, undef, undef, undef, undef] H1 (blockQ 0 (seqQ (exK Try.prog E_impl_atomBy (cr (cr (cr (bodyC Try.f59))))) (retK Try.prog Try.f59 K)))) := by kernel_rfl
abbrev impl_atomBy_P1 (b1 : Nat) (count : Int) (list_a : Option Addr) (list_e : Nat) (list_n : Nat) (place : Int) (r : Int) (size : Nat) (t21 : Int) (g12 g13 g22 g23 g24 g25 g26 g27 g28 g29 g30 g31 g32 g33 g34 g35 g36 g37 g38 g39 g40 g41 g42 g43 g44 : Value) : List Value := [.slice list_a list_n list_e, .int .i64 r, .int .i64 count, .int .i64 place, .float .f32 size, undef, undef, undef, undef, undef, .slice none 0 0, .slice (some ⟨b1, 0, none⟩) ((count).toNat) 1, g12, g13, undef, undef, undef, .int .i64 count, .slice (some ⟨b1, 0, none⟩) ((count).toNat) 1, .slice (some ⟨b1, 0, none⟩) ((count).toNat) 1, .int .i64 (((count).toNat : Int)), .int .i64 t21, g22, g23, g24, g25, g26, g27, g28, g29, g30, g31, g32, g33, g34, g35, g36, g37, g38, g39, g40, g41, g42, g43, g44, undef, undef, undef, undef, undef, undef, undef, undef, undef, undef, undef, undef, undef, undef, undef, undef, undef, undef, undef, undef]
theorem impl_atomBy_r1 (b1 : Nat) (count : Int) (list_a : Option Addr) (list_e : Nat) (list_n : Nat) (place : Int) (r : Int) (size : Nat) (t21 : Int) (g12 g13 g22 g23 g24 g25 g26 g27 g28 g29 g30 g31 g32 g33 g34 g35 g36 g37 g38 g39 g40 g41 g42 g43 g44 : Value) (H : AHeap) (R : Post) : exK Try.prog E_impl_atomBy (cl (cl (cr (cl (cr (cr (bodyC Try.f59))))))) (impl_atomBy_P1 b1 count list_a list_e list_n place r size t21 g12 g13 g22 g23 g24 g25 g26 g27 g28 g29 g30 g31 g32 g33 g34 g35 g36 g37 g38 g39 g40 g41 g42 g43 g44) H R =
  (Br (decide ((t21 : Int) < ((count).toNat : Int))) (Br (decide ((0 : Int) ≤ IntKind.wrap .i64 ((IntKind.wrap .i64 (t21 - place)) + r))) (Br (decide ((IntKind.wrap .i64 ((IntKind.wrap .i64 (t21 - place)) + r) : Int) < (list_n : Int))) ((0 : Int) ≤ IntKind.wrap .i64 ((IntKind.wrap .i64 (t21 - place)) + r) ∧ IntKind.wrap .i64 ((IntKind.wrap .i64 (t21 - place)) + r) < (list_n : Int) ∧ ∃ b2 f1, (list_a : Option Addr) = some ⟨b2, f1, none⟩ ∧ ∃ x1 : Nat,  rdC H b2 (f1 + (IntKind.wrap .i64 ((IntKind.wrap .i64 (t21 - place)) + r) : Int).toNat * 1) = some (.float .f32 x1) ∧ (0 : Int) ≤ t21 ∧ t21 < ((count).toNat : Int) ∧ ∃ b3 f2, (some ⟨b1, 0, none⟩ : Option Addr) = some ⟨b3, f2, none⟩ ∧ isOwn H b3 ∧ (∃ l, rdN H b3 (f2 + (t21 : Int).toNat * 1) 1 = some l) ∧ Lt (setC H b3 (f2 + (t21 : Int).toNat * 1) (.float .f32 x1)) fun H2 => R .normal [.slice list_a list_n list_e, .int .i64 r, .int .i64 count, .int .i64 place, .float .f32 size, undef, undef, undef, undef, undef, .slice none 0 0, .slice (some ⟨b1, 0, none⟩) ((count).toNat) 1, .int .i64 t21, .int .i64 (IntKind.wrap .i64 ((IntKind.wrap .i64 (t21 - place)) + r)), undef, undef, undef, .int .i64 count, .slice (some ⟨b1, 0, none⟩) ((count).toNat) 1, .slice (some ⟨b1, 0, none⟩) ((count).toNat) 1, .int .i64 (((count).toNat : Int)), .int .i64 (IntKind.wrap .i64 (t21 + 1)), .bool (decide ((t21 : Int) < ((count).toNat : Int))), .int .i64 t21, .int .i64 t21, .int .i64 place, .int .i64 (IntKind.wrap .i64 (t21 - place)), .int .i64 r, .int .i64 (IntKind.wrap .i64 ((IntKind.wrap .i64 (t21 - place)) + r)), .int .i64 (IntKind.wrap .i64 ((IntKind.wrap .i64 (t21 - place)) + r)), .bool (decide ((0 : Int) ≤ IntKind.wrap .i64 ((IntKind.wrap .i64 (t21 - place)) + r))), .bool true, .int .i64 (IntKind.wrap .i64 ((IntKind.wrap .i64 (t21 - place)) + r)), .slice list_a list_n list_e, .int .i64 (list_n : Int), .bool (decide ((IntKind.wrap .i64 ((IntKind.wrap .i64 (t21 - place)) + r) : Int) < (list_n : Int))), .bool (decide ((IntKind.wrap .i64 ((IntKind.wrap .i64 (t21 - place)) + r) : Int) < (list_n : Int))), .slice (some ⟨b1, 0, none⟩) ((count).toNat) 1, .int .i64 t21, .slice list_a list_n list_e, .int .i64 (IntKind.wrap .i64 ((IntKind.wrap .i64 (t21 - place)) + r)), .pointer (some ⟨b2, f1 + (IntKind.wrap .i64 ((IntKind.wrap .i64 (t21 - place)) + r) : Int).toNat * 1, none⟩), .float .f32 x1, .pointer (some ⟨b3, f2 + (t21 : Int).toNat * 1, none⟩), .int .i64 (IntKind.wrap .i64 (t21 + 1)), undef, undef, undef, undef, undef, undef, undef, undef, undef, undef, undef, undef, undef, undef, undef, undef, undef, undef, undef, undef] H2) (R .normal [.slice list_a list_n list_e, .int .i64 r, .int .i64 count, .int .i64 place, .float .f32 size, undef, undef, undef, undef, undef, .slice none 0 0, .slice (some ⟨b1, 0, none⟩) ((count).toNat) 1, .int .i64 t21, .int .i64 (IntKind.wrap .i64 ((IntKind.wrap .i64 (t21 - place)) + r)), undef, undef, undef, .int .i64 count, .slice (some ⟨b1, 0, none⟩) ((count).toNat) 1, .slice (some ⟨b1, 0, none⟩) ((count).toNat) 1, .int .i64 (((count).toNat : Int)), .int .i64 (IntKind.wrap .i64 (t21 + 1)), .bool (decide ((t21 : Int) < ((count).toNat : Int))), .int .i64 t21, .int .i64 t21, .int .i64 place, .int .i64 (IntKind.wrap .i64 (t21 - place)), .int .i64 r, .int .i64 (IntKind.wrap .i64 ((IntKind.wrap .i64 (t21 - place)) + r)), .int .i64 (IntKind.wrap .i64 ((IntKind.wrap .i64 (t21 - place)) + r)), .bool (decide ((0 : Int) ≤ IntKind.wrap .i64 ((IntKind.wrap .i64 (t21 - place)) + r))), .bool true, .int .i64 (IntKind.wrap .i64 ((IntKind.wrap .i64 (t21 - place)) + r)), .slice list_a list_n list_e, .int .i64 (list_n : Int), .bool (decide ((IntKind.wrap .i64 ((IntKind.wrap .i64 (t21 - place)) + r) : Int) < (list_n : Int))), .bool (decide ((IntKind.wrap .i64 ((IntKind.wrap .i64 (t21 - place)) + r) : Int) < (list_n : Int))), g37, g38, g39, g40, g41, g42, g43, .int .i64 (IntKind.wrap .i64 (t21 + 1)), undef, undef, undef, undef, undef, undef, undef, undef, undef, undef, undef, undef, undef, undef, undef, undef, undef, undef, undef, undef] H)) (R .normal [.slice list_a list_n list_e, .int .i64 r, .int .i64 count, .int .i64 place, .float .f32 size, undef, undef, undef, undef, undef, .slice none 0 0, .slice (some ⟨b1, 0, none⟩) ((count).toNat) 1, .int .i64 t21, .int .i64 (IntKind.wrap .i64 ((IntKind.wrap .i64 (t21 - place)) + r)), undef, undef, undef, .int .i64 count, .slice (some ⟨b1, 0, none⟩) ((count).toNat) 1, .slice (some ⟨b1, 0, none⟩) ((count).toNat) 1, .int .i64 (((count).toNat : Int)), .int .i64 (IntKind.wrap .i64 (t21 + 1)), .bool (decide ((t21 : Int) < ((count).toNat : Int))), .int .i64 t21, .int .i64 t21, .int .i64 place, .int .i64 (IntKind.wrap .i64 (t21 - place)), .int .i64 r, .int .i64 (IntKind.wrap .i64 ((IntKind.wrap .i64 (t21 - place)) + r)), .int .i64 (IntKind.wrap .i64 ((IntKind.wrap .i64 (t21 - place)) + r)), .bool (decide ((0 : Int) ≤ IntKind.wrap .i64 ((IntKind.wrap .i64 (t21 - place)) + r))), .bool false, undef, undef, undef, undef, .bool false, g37, g38, g39, g40, g41, g42, g43, .int .i64 (IntKind.wrap .i64 (t21 + 1)), undef, undef, undef, undef, undef, undef, undef, undef, undef, undef, undef, undef, undef, undef, undef, undef, undef, undef, undef, undef] H)) (R (.exit 0) [.slice list_a list_n list_e, .int .i64 r, .int .i64 count, .int .i64 place, .float .f32 size, undef, undef, undef, undef, undef, .slice none 0 0, .slice (some ⟨b1, 0, none⟩) ((count).toNat) 1, g12, g13, undef, undef, undef, .int .i64 count, .slice (some ⟨b1, 0, none⟩) ((count).toNat) 1, .slice (some ⟨b1, 0, none⟩) ((count).toNat) 1, .int .i64 (((count).toNat : Int)), .int .i64 t21, .bool (decide ((t21 : Int) < ((count).toNat : Int))), g23, g24, g25, g26, g27, g28, g29, g30, g31, g32, g33, g34, g35, g36, g37, g38, g39, g40, g41, g42, g43, g44, undef, undef, undef, undef, undef, undef, undef, undef, undef, undef, undef, undef, undef, undef, undef, undef, undef, undef, undef, undef] H)) := by kernel_rfl
def impl_atomBy_I1 (b1 : Nat) (count : Int) (list_a : Option Addr) (list_e : Nat) (list_n : Nat) (place : Int) (r : Int) (size : Nat) (Inv : Nat → Int → AHeap → Prop) : Nat → List Value → AHeap → Prop := fun μ tm H => ∃ (t21 : Int), ∃ g12 g13 g22 g23 g24 g25 g26 g27 g28 g29 g30 g31 g32 g33 g34 g35 g36 g37 g38 g39 g40 g41 g42 g43 g44, tm = (impl_atomBy_P1 b1 count list_a list_e list_n place r size t21 g12 g13 g22 g23 g24 g25 g26 g27 g28 g29 g30 g31 g32 g33 g34 g35 g36 g37 g38 g39 g40 g41 g42 g43 g44) ∧ Inv μ t21 H
theorem impl_atomBy_L1 (b1 : Nat) (count : Int) (list_a : Option Addr) (list_e : Nat) (list_n : Nat) (place : Int) (r : Int) (size : Nat) {Q : Post} (Inv : Nat → Int → AHeap → Prop) (ν : Nat) (t21 : Int) (g12 g13 g22 g23 g24 g25 g26 g27 g28 g29 g30 g31 g32 g33 g34 g35 g36 g37 g38 g39 g40 g41 g42 g43 g44 : Value) (H : AHeap) (h0 : Inv ν t21 H)
    (hs : ∀ (μ : Nat) (t21 : Int) (g12 g13 g22 g23 g24 g25 g26 g27 g28 g29 g30 g31 g32 g33 g34 g35 g36 g37 g38 g39 g40 g41 g42 g43 g44 : Value) (H : AHeap), Inv μ t21 H → exK Try.prog E_impl_atomBy (cl (cl (cr (cl (cr (cr (bodyC Try.f59))))))) (impl_atomBy_P1 b1 count list_a list_e list_n place r size t21 g12 g13 g22 g23 g24 g25 g26 g27 g28 g29 g30 g31 g32 g33 g34 g35 g36 g37 g38 g39 g40 g41 g42 g43 g44) H (loopQ (impl_atomBy_I1 b1 count list_a list_e list_n place r size Inv) μ Q)) : loopK (exK Try.prog E_impl_atomBy (cl (cl (cr (cl (cr (cr (bodyC Try.f59)))))))) (impl_atomBy_P1 b1 count list_a list_e list_n place r size t21 g12 g13 g22 g23 g24 g25 g26 g27 g28 g29 g30 g31 g32 g33 g34 g35 g36 g37 g38 g39 g40 g41 g42 g43 g44) H Q :=
  ⟨impl_atomBy_I1 b1 count list_a list_e list_n place r size Inv, ν, ⟨t21, g12, g13, g22, g23, g24, g25, g26, g27, g28, g29, g30, g31, g32, g33, g34, g35, g36, g37, g38, g39, g40, g41, g42, g43, g44, rfl, h0⟩, fun μ tm H h => by obtain ⟨t21, g12, g13, g22, g23, g24, g25, g26, g27, g28, g29, g30, g31, g32, g33, g34, g35, g36, g37, g38, g39, g40, g41, g42, g43, g44, rfl, hI⟩ := h; exact hs μ t21 g12 g13 g22 g23 g24 g25 g26 g27 g28 g29 g30 g31 g32 g33 g34 g35 g36 g37 g38 g39 g40 g41 g42 g43 g44 H hI⟩
theorem impl_atomBy_n1 {b1 : Nat} {count : Int} {list_a : Option Addr} {list_e : Nat} {list_n : Nat} {place : Int} {r : Int} {size : Nat} {Q : Post} {Inv : Nat → Int → AHeap → Prop} {μ : Nat} (μ' : Nat) {t21 : Int} {g12 g13 g22 g23 g24 g25 g26 g27 g28 g29 g30 g31 g32 g33 g34 g35 g36 g37 g38 g39 g40 g41 g42 g43 g44 : Value} {H : AHeap} (hm : μ' < μ) (hI : Inv μ' t21 H) : loopQ (impl_atomBy_I1 b1 count list_a list_e list_n place r size Inv) μ Q .normal (impl_atomBy_P1 b1 count list_a list_e list_n place r size t21 g12 g13 g22 g23 g24 g25 g26 g27 g28 g29 g30 g31 g32 g33 g34 g35 g36 g37 g38 g39 g40 g41 g42 g43 g44) H := ⟨μ', hm, t21, g12, g13, g22, g23, g24, g25, g26, g27, g28, g29, g30, g31, g32, g33, g34, g35, g36, g37, g38, g39, g40, g41, g42, g43, g44, rfl, hI⟩
theorem impl_atomBy_x1_0 (b1 : Nat) (count : Int) (list_a : Option Addr) (list_e : Nat) (list_n : Nat) (place : Int) (r : Int) (size : Nat) (t21 : Int) (g12 g13 g22 g23 g24 g25 g26 g27 g28 g29 g30 g31 g32 g33 g34 g35 g36 g37 g38 g39 g40 g41 g42 g43 g44 : Value) (H : AHeap) (K : Value → AHeap → Prop)  {I : Nat → List Value → AHeap → Prop} {μ : Nat} : loopQ I μ (blockQ 0 (seqQ (exK Try.prog E_impl_atomBy (cr (cr (cr (bodyC Try.f59))))) (retK Try.prog Try.f59 K))) (.exit 0) (impl_atomBy_P1 b1 count list_a list_e list_n place r size t21 g12 g13 g22 g23 g24 g25 g26 g27 g28 g29 g30 g31 g32 g33 g34 g35 g36 g37 g38 g39 g40 g41 g42 g43 g44) H =
  (T_impl_squares (some ⟨b1, 0, none⟩) ((count).toNat) 1 H fun (r1 : Nat) (H3 : AHeap) => T_impl_RootNumber r1 H3 fun (r2 : Nat) (H4 : AHeap) => loopK (exK Try.prog E_impl_atomBy (cl (cl (cr (cl (cr (cr (cr (cr (bodyC Try.f59)))))))))) [.slice list_a list_n list_e, .int .i64 r, .int .i64 count, .int .i64 place, .float .f32 size, undef, undef, undef, undef, undef, .slice none 0 0, .slice (some ⟨b1, 0, none⟩) ((count).toNat) 1, g12, g13, .float .f32 r2, undef, undef, .int .i64 count, .slice (some ⟨b1, 0, none⟩) ((count).toNat) 1, .slice (some ⟨b1, 0, none⟩) ((count).toNat) 1, .int .i64 (((count).toNat : Int)), .int .i64 t21, g22, g23, g24, g25, g26, g27, g28, g29, g30, g31, g32, g33, g34, g35, g36, g37, g38, g39, g40, g41, g42, g43, g44, .slice (some ⟨b1, 0, none⟩) ((count).toNat) 1, .float .f32 r1, .float .f32 r2, .slice (some ⟨b1, 0, none⟩) ((count).toNat) 1, .int .i64 (((count).toNat : Int)), .int .i64 0, undef, undef, undef, undef, undef, undef, undef, undef, undef, undef, undef, undef, undef, undef] H4 (blockQ 2 (seqQ (exK Try.prog E_impl_atomBy (cr (cr (cr (cr (cr (bodyC Try.f59))))))) (retK Try.prog Try.f59 K)))) := by kernel_rfl
abbrev impl_atomBy_P2 (b1 : Nat) (count : Int) (g12 : Value) (g13 : Value) (g22 : Value) (g23 : Value) (g24 : Value) (g25 : Value) (g26 : Value) (g27 : Value) (g28 : Value) (g29 : Value) (g30 : Value) (g31 : Value) (g32 : Value) (g33 : Value) (g34 : Value) (g35 : Value) (g36 : Value) (g37 : Value) (g38 : Value) (g39 : Value) (g40 : Value) (g41 : Value) (g42 : Value) (g43 : Value) (g44 : Value) (list_a : Option Addr) (list_e : Nat) (list_n : Nat) (place : Int) (r : Int) (r1 : Nat) (r2 : Nat) (size : Nat) (t21 : Int) (t50 : Int) (g15 g16 g51 g52 g53 g54 g55 g56 g57 g58 g59 g60 g61 g62 g63 : Value) : List Value := [.slice list_a list_n list_e, .int .i64 r, .int .i64 count, .int .i64 place, .float .f32 size, undef, undef, undef, undef, undef, .slice none 0 0, .slice (some ⟨b1, 0, none⟩) ((count).toNat) 1, g12, g13, .float .f32 r2, g15, g16, .int .i64 count, .slice (some ⟨b1, 0, none⟩) ((count).toNat) 1, .slice (some ⟨b1, 0, none⟩) ((count).toNat) 1, .int .i64 (((count).toNat : Int)), .int .i64 t21, g22, g23, g24, g25, g26, g27, g28, g29, g30, g31, g32, g33, g34, g35, g36, g37, g38, g39, g40, g41, g42, g43, g44, .slice (some ⟨b1, 0, none⟩) ((count).toNat) 1, .float .f32 r1, .float .f32 r2, .slice (some ⟨b1, 0, none⟩) ((count).toNat) 1, .int .i64 (((count).toNat : Int)), .int .i64 t50, g51, g52, g53, g54, g55, g56, g57, g58, g59, g60, g61, g62, g63, undef]
theorem impl_atomBy_r2 (b1 : Nat) (count : Int) (g12 : Value) (g13 : Value) (g22 : Value) (g23 : Value) (g24 : Value) (g25 : Value) (g26 : Value) (g27 : Value) (g28 : Value) (g29 : Value) (g30 : Value) (g31 : Value) (g32 : Value) (g33 : Value) (g34 : Value) (g35 : Value) (g36 : Value) (g37 : Value) (g38 : Value) (g39 : Value) (g40 : Value) (g41 : Value) (g42 : Value) (g43 : Value) (g44 : Value) (list_a : Option Addr) (list_e : Nat) (list_n : Nat) (place : Int) (r : Int) (r1 : Nat) (r2 : Nat) (size : Nat) (t21 : Int) (t50 : Int) (g15 g16 g51 g52 g53 g54 g55 g56 g57 g58 g59 g60 g61 g62 g63 : Value) (H : AHeap) (R : Post) : exK Try.prog E_impl_atomBy (cl (cl (cr (cl (cr (cr (cr (cr (bodyC Try.f59))))))))) (impl_atomBy_P2 b1 count g12 g13 g22 g23 g24 g25 g26 g27 g28 g29 g30 g31 g32 g33 g34 g35 g36 g37 g38 g39 g40 g41 g42 g43 g44 list_a list_e list_n place r r1 r2 size t21 t50 g15 g16 g51 g52 g53 g54 g55 g56 g57 g58 g59 g60 g61 g62 g63) H R =
  (Br (decide ((t50 : Int) < ((count).toNat : Int))) ((0 : Int) ≤ t50 ∧ t50 < ((count).toNat : Int) ∧ ∃ b4 f3, (some ⟨b1, 0, none⟩ : Option Addr) = some ⟨b4, f3, none⟩ ∧ ∃ x2 : Nat,  rdC H b4 (f3 + (t50 : Int).toNat * 1) = some (.float .f32 x2) ∧ (0 : Int) ≤ t50 ∧ t50 < ((count).toNat : Int) ∧ ∃ b5 f4, (some ⟨b1, 0, none⟩ : Option Addr) = some ⟨b5, f4, none⟩ ∧ isOwn H b5 ∧ (∃ l, rdN H b5 (f4 + (t50 : Int).toNat * 1) 1 = some l) ∧ Lt (setC H b5 (f4 + (t50 : Int).toNat * 1) (.float .f32 (fmul .f32 (fdiv .f32 x2 r2) size))) fun H5 => R .normal [.slice list_a list_n list_e, .int .i64 r, .int .i64 count, .int .i64 place, .float .f32 size, undef, undef, undef, undef, undef, .slice none 0 0, .slice (some ⟨b1, 0, none⟩) ((count).toNat) 1, g12, g13, .float .f32 r2, .int .i64 t50, .float .f32 x2, .int .i64 count, .slice (some ⟨b1, 0, none⟩) ((count).toNat) 1, .slice (some ⟨b1, 0, none⟩) ((count).toNat) 1, .int .i64 (((count).toNat : Int)), .int .i64 t21, g22, g23, g24, g25, g26, g27, g28, g29, g30, g31, g32, g33, g34, g35, g36, g37, g38, g39, g40, g41, g42, g43, g44, .slice (some ⟨b1, 0, none⟩) ((count).toNat) 1, .float .f32 r1, .float .f32 r2, .slice (some ⟨b1, 0, none⟩) ((count).toNat) 1, .int .i64 (((count).toNat : Int)), .int .i64 (IntKind.wrap .i64 (t50 + 1)), .bool (decide ((t50 : Int) < ((count).toNat : Int))), .int .i64 t50, .pointer (some ⟨b4, f3 + (t50 : Int).toNat * 1, none⟩), .float .f32 x2, .slice (some ⟨b1, 0, none⟩) ((count).toNat) 1, .int .i64 t50, .float .f32 x2, .float .f32 r2, .float .f32 (fdiv .f32 x2 r2), .float .f32 size, .float .f32 (fmul .f32 (fdiv .f32 x2 r2) size), .pointer (some ⟨b5, f4 + (t50 : Int).toNat * 1, none⟩), .int .i64 (IntKind.wrap .i64 (t50 + 1)), undef] H5) (R (.exit 2) [.slice list_a list_n list_e, .int .i64 r, .int .i64 count, .int .i64 place, .float .f32 size, undef, undef, undef, undef, undef, .slice none 0 0, .slice (some ⟨b1, 0, none⟩) ((count).toNat) 1, g12, g13, .float .f32 r2, g15, g16, .int .i64 count, .slice (some ⟨b1, 0, none⟩) ((count).toNat) 1, .slice (some ⟨b1, 0, none⟩) ((count).toNat) 1, .int .i64 (((count).toNat : Int)), .int .i64 t21, g22, g23, g24, g25, g26, g27, g28, g29, g30, g31, g32, g33, g34, g35, g36, g37, g38, g39, g40, g41, g42, g43, g44, .slice (some ⟨b1, 0, none⟩) ((count).toNat) 1, .float .f32 r1, .float .f32 r2, .slice (some ⟨b1, 0, none⟩) ((count).toNat) 1, .int .i64 (((count).toNat : Int)), .int .i64 t50, .bool (decide ((t50 : Int) < ((count).toNat : Int))), g52, g53, g54, g55, g56, g57, g58, g59, g60, g61, g62, g63, undef] H)) := by kernel_rfl
def impl_atomBy_I2 (b1 : Nat) (count : Int) (g12 : Value) (g13 : Value) (g22 : Value) (g23 : Value) (g24 : Value) (g25 : Value) (g26 : Value) (g27 : Value) (g28 : Value) (g29 : Value) (g30 : Value) (g31 : Value) (g32 : Value) (g33 : Value) (g34 : Value) (g35 : Value) (g36 : Value) (g37 : Value) (g38 : Value) (g39 : Value) (g40 : Value) (g41 : Value) (g42 : Value) (g43 : Value) (g44 : Value) (list_a : Option Addr) (list_e : Nat) (list_n : Nat) (place : Int) (r : Int) (r1 : Nat) (r2 : Nat) (size : Nat) (t21 : Int) (Inv : Nat → Int → AHeap → Prop) : Nat → List Value → AHeap → Prop := fun μ tm H => ∃ (t50 : Int), ∃ g15 g16 g51 g52 g53 g54 g55 g56 g57 g58 g59 g60 g61 g62 g63, tm = (impl_atomBy_P2 b1 count g12 g13 g22 g23 g24 g25 g26 g27 g28 g29 g30 g31 g32 g33 g34 g35 g36 g37 g38 g39 g40 g41 g42 g43 g44 list_a list_e list_n place r r1 r2 size t21 t50 g15 g16 g51 g52 g53 g54 g55 g56 g57 g58 g59 g60 g61 g62 g63) ∧ Inv μ t50 H
theorem impl_atomBy_L2 (b1 : Nat) (count : Int) (g12 : Value) (g13 : Value) (g22 : Value) (g23 : Value) (g24 : Value) (g25 : Value) (g26 : Value) (g27 : Value) (g28 : Value) (g29 : Value) (g30 : Value) (g31 : Value) (g32 : Value) (g33 : Value) (g34 : Value) (g35 : Value) (g36 : Value) (g37 : Value) (g38 : Value) (g39 : Value) (g40 : Value) (g41 : Value) (g42 : Value) (g43 : Value) (g44 : Value) (list_a : Option Addr) (list_e : Nat) (list_n : Nat) (place : Int) (r : Int) (r1 : Nat) (r2 : Nat) (size : Nat) (t21 : Int) {Q : Post} (Inv : Nat → Int → AHeap → Prop) (ν : Nat) (t50 : Int) (g15 g16 g51 g52 g53 g54 g55 g56 g57 g58 g59 g60 g61 g62 g63 : Value) (H : AHeap) (h0 : Inv ν t50 H)
    (hs : ∀ (μ : Nat) (t50 : Int) (g15 g16 g51 g52 g53 g54 g55 g56 g57 g58 g59 g60 g61 g62 g63 : Value) (H : AHeap), Inv μ t50 H → exK Try.prog E_impl_atomBy (cl (cl (cr (cl (cr (cr (cr (cr (bodyC Try.f59))))))))) (impl_atomBy_P2 b1 count g12 g13 g22 g23 g24 g25 g26 g27 g28 g29 g30 g31 g32 g33 g34 g35 g36 g37 g38 g39 g40 g41 g42 g43 g44 list_a list_e list_n place r r1 r2 size t21 t50 g15 g16 g51 g52 g53 g54 g55 g56 g57 g58 g59 g60 g61 g62 g63) H (loopQ (impl_atomBy_I2 b1 count g12 g13 g22 g23 g24 g25 g26 g27 g28 g29 g30 g31 g32 g33 g34 g35 g36 g37 g38 g39 g40 g41 g42 g43 g44 list_a list_e list_n place r r1 r2 size t21 Inv) μ Q)) : loopK (exK Try.prog E_impl_atomBy (cl (cl (cr (cl (cr (cr (cr (cr (bodyC Try.f59)))))))))) (impl_atomBy_P2 b1 count g12 g13 g22 g23 g24 g25 g26 g27 g28 g29 g30 g31 g32 g33 g34 g35 g36 g37 g38 g39 g40 g41 g42 g43 g44 list_a list_e list_n place r r1 r2 size t21 t50 g15 g16 g51 g52 g53 g54 g55 g56 g57 g58 g59 g60 g61 g62 g63) H Q :=
  ⟨impl_atomBy_I2 b1 count g12 g13 g22 g23 g24 g25 g26 g27 g28 g29 g30 g31 g32 g33 g34 g35 g36 g37 g38 g39 g40 g41 g42 g43 g44 list_a list_e list_n place r r1 r2 size t21 Inv, ν, ⟨t50, g15, g16, g51, g52, g53, g54, g55, g56, g57, g58, g59, g60, g61, g62, g63, rfl, h0⟩, fun μ tm H h => by obtain ⟨t50, g15, g16, g51, g52, g53, g54, g55, g56, g57, g58, g59, g60, g61, g62, g63, rfl, hI⟩ := h; exact hs μ t50 g15 g16 g51 g52 g53 g54 g55 g56 g57 g58 g59 g60 g61 g62 g63 H hI⟩
theorem impl_atomBy_n2 {b1 : Nat} {count : Int} {g12 : Value} {g13 : Value} {g22 : Value} {g23 : Value} {g24 : Value} {g25 : Value} {g26 : Value} {g27 : Value} {g28 : Value} {g29 : Value} {g30 : Value} {g31 : Value} {g32 : Value} {g33 : Value} {g34 : Value} {g35 : Value} {g36 : Value} {g37 : Value} {g38 : Value} {g39 : Value} {g40 : Value} {g41 : Value} {g42 : Value} {g43 : Value} {g44 : Value} {list_a : Option Addr} {list_e : Nat} {list_n : Nat} {place : Int} {r : Int} {r1 : Nat} {r2 : Nat} {size : Nat} {t21 : Int} {Q : Post} {Inv : Nat → Int → AHeap → Prop} {μ : Nat} (μ' : Nat) {t50 : Int} {g15 g16 g51 g52 g53 g54 g55 g56 g57 g58 g59 g60 g61 g62 g63 : Value} {H : AHeap} (hm : μ' < μ) (hI : Inv μ' t50 H) : loopQ (impl_atomBy_I2 b1 count g12 g13 g22 g23 g24 g25 g26 g27 g28 g29 g30 g31 g32 g33 g34 g35 g36 g37 g38 g39 g40 g41 g42 g43 g44 list_a list_e list_n place r r1 r2 size t21 Inv) μ Q .normal (impl_atomBy_P2 b1 count g12 g13 g22 g23 g24 g25 g26 g27 g28 g29 g30 g31 g32 g33 g34 g35 g36 g37 g38 g39 g40 g41 g42 g43 g44 list_a list_e list_n place r r1 r2 size t21 t50 g15 g16 g51 g52 g53 g54 g55 g56 g57 g58 g59 g60 g61 g62 g63) H := ⟨μ', hm, t50, g15, g16, g51, g52, g53, g54, g55, g56, g57, g58, g59, g60, g61, g62, g63, rfl, hI⟩
theorem impl_atomBy_x2_2 (b1 : Nat) (count : Int) (g12 : Value) (g13 : Value) (g22 : Value) (g23 : Value) (g24 : Value) (g25 : Value) (g26 : Value) (g27 : Value) (g28 : Value) (g29 : Value) (g30 : Value) (g31 : Value) (g32 : Value) (g33 : Value) (g34 : Value) (g35 : Value) (g36 : Value) (g37 : Value) (g38 : Value) (g39 : Value) (g40 : Value) (g41 : Value) (g42 : Value) (g43 : Value) (g44 : Value) (list_a : Option Addr) (list_e : Nat) (list_n : Nat) (place : Int) (r : Int) (r1 : Nat) (r2 : Nat) (size : Nat) (t21 : Int) (t50 : Int) (g15 g16 g51 g52 g53 g54 g55 g56 g57 g58 g59 g60 g61 g62 g63 : Value) (H : AHeap) (K : Value → AHeap → Prop)  {I : Nat → List Value → AHeap → Prop} {μ : Nat} : loopQ I μ (blockQ 2 (seqQ (exK Try.prog E_impl_atomBy (cr (cr (cr (cr (cr (bodyC Try.f59))))))) (retK Try.prog Try.f59 K))) (.exit 2) (impl_atomBy_P2 b1 count g12 g13 g22 g23 g24 g25 g26 g27 g28 g29 g30 g31 g32 g33 g34 g35 g36 g37 g38 g39 g40 g41 g42 g43 g44 list_a list_e list_n place r r1 r2 size t21 t50 g15 g16 g51 g52 g53 g54 g55 g56 g57 g58 g59 g60 g61 g62 g63) H =
  (K (.slice (some ⟨b1, 0, none⟩) ((count).toNat) 1) H) := by kernel_rfl
theorem E_impl_atomBy_ok : ∀ g, FnOk Try.prog g (E_impl_atomBy g) := FnOk.envOf (by
  intro x hx
  simp only [List.mem_cons, List.not_mem_nil, or_false] at hx
  rcases hx with rfl | rfl
  · exact impl_squares_ok
  · exact impl_RootNumber_ok)
set_option maxHeartbeats 1000000 in
theorem impl_atomBy_main (list_a : Option Addr) (list_n : Nat) (list_e : Nat) (r : Int) (count : Int) (place : Int) (size : Nat) (H : AHeap) (K : Value → AHeap → Prop) (h : T_impl_atomBy list_a list_n list_e r count place size H fun (r1_a : Option Addr) (r1_n : Nat) (r1_e : Nat) (H' : AHeap) => K (.slice r1_a r1_n r1_e) H') : bodyK Try.prog E_impl_atomBy Try.f59 [.slice list_a list_n list_e, .int .i64 r, .int .i64 count, .int .i64 place, .float .f32 size] H K := by
  rw [impl_atomBy_vc]
  obtain ⟨l_list, i_list, bd_46, pr0, pr1, pr2, pr3, pr4, pr5, hk⟩ := h
  obtain rfl := i_list.eqn
  have e : (p_impl_atomBy l_list r count place size) = _ := rfl
  have e := e.trans (p_impl_atomBy_eq l_list r count place size)
  have g0 := Grow.refl H
  refine ⟨by omega, rfl, o24, ?_⟩
  refine Al.intro (fun b_1 H_1 hb_2 hl_3 g_4 o_5 => ?_)
  rw [zeros_map fF 0 _ rfl] at o_5
  have l_7 := g_4.1
  have g_8 := g0.trans g_4
  have l_9 := g_8.1
  have w_45 := o_5.lt
  refine impl_atomBy_L1 _ _ _ _ _ _ _ _ (fun (μ : Nat) (t21 : Int) (H_2 : AHeap) => ∃ (y1_1 : List Nat), Own H_2 b_1 (y1_1.map fF) ∧ y1_1.length = (count).toNat ∧ Grow H H_2 ∧ (0 : Int) ≤ t21 ∧ ((t21 ≤ ((count).toNat : Int) ∨ t21 ≤ (0 : Int))) ∧ ((count).toNat : Int) - t21 ≤ (μ : Int) ∧ p_impl_atomBy l_list r count place size = p_impl_atomBy_l1 l_list r count place size (μ + 1) t21 y1_1) (Int.toNat (((count).toNat : Int) - (0 : Int))) _ _ _ _ _ _ _ _ _ _ _ _ _ _ _ _ _ _ _ _ _ _ _ _ _ _ H_1 ?_ ?_
  · exact ⟨_, o_5, o20, g_8, o5, o5, o4, e⟩
  · intro μ t21 g12 g13 g22 g23 g24 g25 g26 g27 g28 g29 g30 g31 g32 g33 g34 g35 g36 g37 g38 g39 g40 g41 g42 g43 g44 H_2 hI
    obtain ⟨y1_1, o_10, y_11, g_12, v_13, v_14, hμ, e⟩ := hI
    rw [impl_atomBy_r1]
    have e := e.trans (p_impl_atomBy_l1_s l_list r count place size μ t21 y1_1)
    have w_15 := o_10.lt
    have l_16 := g_12.1
    refine Br.intro (fun c_17 => ?_) (fun c_17 => ?_)
    · have e := e.trans (cond_t c_17)
      have c_17' := of_decide_eq_true c_17
      rw [show IntKind.wrap .i64 (t21 - place) = (t21 - place) from wrap64 o4 o4]
      rw [show IntKind.wrap .i64 ((t21 - place) + r) = ((t21 - place) + r) from wrap64 o4 o4]
      refine Br.intro (fun c_18 => ?_) (fun c_18 => ?_)
      · have e := e.trans (cond_t c_18)
        have c_18' := of_decide_eq_true c_18
        refine Br.intro (fun c_19 => ?_) (fun c_19 => ?_)
        · have e := e.trans (cond_t c_19)
          have c_19' := of_decide_eq_true c_19
          obtain ⟨b_20, f_21, q_22⟩ := ((i_list.grow g_12)).pos o0
          refine ⟨by omega, by omega, b_20, f_21, q_22, ?_⟩
          refine ⟨((l_list).getD (((t21 - place) + r) : Int).toNat 0), (i_list).rd g_12 q_22 o4 _, ?_⟩
          refine ⟨by omega, o4, _, _, rfl, ?_⟩
          refine Lt.set o_10 o7 (fun H_3 hl_23 o_25 k_24 => ?_)
          have o_25 := map_set o_25
          have l_26 := k_24.1
          have g_27 := g_12.keep (b := b_1) o4 k_24
          have l_28 := g_27.1
          have w_29 := o_25.lt
          rw [show IntKind.wrap .i64 (t21 + 1) = (t21 + 1) from wrap64 o4 o4]
          refine impl_atomBy_n1 (μ - 1) o12 ⟨_, o_25, o13, g_27, o1, o1, o12, (by rw [show μ - 1 + 1 = μ from by first | omega]; exact e)⟩
        · have e := e.trans (cond_f c_19)
          have c_19' := of_decide_eq_false c_19
          rw [show IntKind.wrap .i64 (t21 + 1) = (t21 + 1) from wrap64 o4 o4]
          refine impl_atomBy_n1 (μ - 1) o12 ⟨_, o_10, o13, g_12, o1, o1, o12, (by rw [show μ - 1 + 1 = μ from by first | omega]; exact e)⟩
      · have e := e.trans (cond_f c_18)
        have c_18' := of_decide_eq_false c_18
        rw [show IntKind.wrap .i64 (t21 + 1) = (t21 + 1) from wrap64 o4 o4]
        refine impl_atomBy_n1 (μ - 1) o12 ⟨_, o_10, o13, g_12, o1, o1, o12, (by rw [show μ - 1 + 1 = μ from by first | omega]; exact e)⟩
    · have e := e.trans (cond_f c_17)
      have c_17' := of_decide_eq_false c_17
      rw [impl_atomBy_x1_0]
      refine T_impl_squares_i ⟨_, (o_10.isL o19), o0, ?_⟩
      refine T_impl_RootNumber_i ?_
      refine impl_atomBy_L2 _ _ _ _ _ _ _ _ _ _ _ _ _ _ _ _ _ _ _ _ _ _ _ _ _ _ _ _ _ _ _ _ _ _ _ _ (fun (μ2 : Nat) (t50 : Int) (H_4 : AHeap) => ∃ (y2_1 : List Nat), Own H_4 b_1 (y2_1.map fF) ∧ y2_1.length = (count).toNat ∧ Grow H H_4 ∧ (0 : Int) ≤ t50 ∧ ((t50 ≤ ((count).toNat : Int) ∨ t50 ≤ (0 : Int))) ∧ ((count).toNat : Int) - t50 ≤ (μ2 : Int) ∧ p_impl_atomBy l_list r count place size = p_impl_atomBy_l2 l_list r count place size t21 y1_1 (fun (t50 : Int) (y2_1 : List Nat) => y2_1) (μ2 + 1) t50 y2_1) (Int.toNat (((count).toNat : Int) - (0 : Int))) _ _ _ _ _ _ _ _ _ _ _ _ _ _ _ _ H_2 ?_ ?_
      · exact ⟨_, o_10, o20, g_12, o5, o5, o4, e⟩
      · intro μ2 t50 g15 g16 g51 g52 g53 g54 g55 g56 g57 g58 g59 g60 g61 g62 g63 H_4 hI
        obtain ⟨y2_1, o_30, y_31, g_32, v_33, v_34, hμ, e⟩ := hI
        rw [impl_atomBy_r2]
        have e := e.trans (p_impl_atomBy_l2_s l_list r count place size t21 y1_1 (fun (t50 : Int) (y2_1 : List Nat) => y2_1) μ2 t50 y2_1)
        have w_35 := o_30.lt
        have l_36 := g_32.1
        refine Br.intro (fun c_37 => ?_) (fun c_37 => ?_)
        · have e := e.trans (cond_t c_37)
          have c_37' := of_decide_eq_true c_37
          refine ⟨by omega, o4, _, _, rfl, ?_⟩
          refine ⟨((y2_1).getD (t50 : Int).toNat 0), o_30.rd o0 _, ?_⟩
          refine ⟨by omega, o4, _, _, rfl, ?_⟩
          refine Lt.set o_30 o7 (fun H_5 hl_38 o_40 k_39 => ?_)
          have o_40 := map_set o_40
          have l_41 := k_39.1
          have g_42 := g_32.keep (b := b_1) o4 k_39
          have l_43 := g_42.1
          have w_44 := o_40.lt
          rw [show IntKind.wrap .i64 (t50 + 1) = (t50 + 1) from wrap64 o4 o4]
          refine impl_atomBy_n2 (μ2 - 1) o12 ⟨_, o_40, o13, g_42, o1, o1, o12, (by rw [show μ2 - 1 + 1 = μ2 from by first | omega]; exact e)⟩
        · have e := e.trans (cond_f c_37)
          have c_37' := of_decide_eq_false c_37
          rw [impl_atomBy_x2_2]
          rw [e] at hk
          exact hk _ _ _ H_4 g_32 (o_30.ownS o19 o4)
theorem impl_atomBy_ok : FnOk Try.prog 59 S_impl_atomBy := by
  refine FnOk.body mix_ok E_impl_atomBy_ok Try.func59 rfl (by kernel_rfl) (by kernel_rfl) ?_ ?_ ?_ ?_ ?_
  · intro args H K K' h hk
    simp only [S_impl_atomBy] at *
    unfold F_impl_atomBy at *
    split at hk
    · obtain ⟨l_list, i_list, bd_46, pr0, pr1, pr2, pr3, pr4, pr5, k⟩ := hk
      exact ⟨l_list, i_list, bd_46, pr0, pr1, pr2, pr3, pr4, pr5, (fun r1_a r1_n r1_e H' gg ow0 => h _ _ (k r1_a r1_n r1_e H' gg ow0))⟩
    · exact hk.elim
  · intro hq; cases hq
  · intro args H K hk
    simp only [S_impl_atomBy] at *
    unfold F_impl_atomBy at *
    split at hk
    · obtain ⟨l_list, i_list, bd_46, pr0, pr1, pr2, pr3, pr4, pr5, k⟩ := hk
      exact liveS fun a n e H1 g o => ⟨_, _, k a n e H1 g o⟩
    · exact hk.elim
  · intro _ args H K hk
    simp only [S_impl_atomBy] at *
    unfold F_impl_atomBy at *
    split at hk
    · obtain ⟨l_list, i_list, bd_46, pr0, pr1, pr2, pr3, pr4, pr5, k⟩ := hk
      exact ⟨l_list, i_list, bd_46, pr0, pr1, pr2, pr3, pr4, pr5, (fun r1_a r1_n r1_e H' gg ow0 => ⟨gg, k r1_a r1_n r1_e H' gg ow0⟩)⟩
    · exact hk.elim
  · have mm := @impl_atomBy_main
    revert mm
    generalize bodyK Try.prog E_impl_atomBy Try.f59 = Q
    intro mm args H K hk
    simp only [S_impl_atomBy] at *
    unfold F_impl_atomBy at *
    split at hk
    · exact mm _ _ _ _ _ _ _ H K hk
    · exact hk.elim

def p_impl_areFinite_l2 (l_lists : List (List Nat)) (t2 : Bool) (t9 : Int) (k2_2 : Bool → Int → Bool) : Nat → Bool → Int → Bool
  | 0, _, _ => false
  | μ2 + 1, t2_2, t15 => (bif decide ((t15 : Int) < ((((l_lists).getD (t9 : Int).toNat [])).length : Int)) then (bif !((p_impl_IsFinite (((((l_lists).getD (t9 : Int).toNat [])).getD (t15 : Int).toNat 0)))) then false else (p_impl_areFinite_l2 l_lists t2 t9 k2_2 μ2 t2_2 (t15 + 1))) else (k2_2 t2_2 t15))
def p_impl_areFinite_l2_s := fun l_lists t2 t9 k2_2 μ2 t2_2 t15 => @p_impl_areFinite_l2.eq_2 l_lists t2 t9 k2_2 t2_2 t15 μ2
def p_impl_areFinite_l1 (l_lists : List (List Nat)) : Nat → Bool → Int → Bool
  | 0, _, _ => false
  | μ + 1, t2, t9 => (bif decide ((t9 : Int) < (l_lists.length : Int)) then (p_impl_areFinite_l2 l_lists t2 t9 (fun (t2_2 : Bool) (t15 : Int) => (p_impl_areFinite_l1 l_lists μ t2_2 (t9 + 1))) (Int.toNat (((((l_lists).getD (t9 : Int).toNat [])).length : Int) - (0 : Int)) + 1) t2 (0 : Int)) else true)
def p_impl_areFinite_l1_s := fun l_lists μ t2 t9 => @p_impl_areFinite_l1.eq_2 l_lists t2 t9 μ
def p_impl_areFinite (l_lists : List (List Nat)) : Bool := (p_impl_areFinite_l1 l_lists (Int.toNat ((l_lists.length : Int) - (0 : Int)) + 1) false (0 : Int))
def p_impl_areFinite_eq := @p_impl_areFinite.eq_1
def T_impl_areFinite (lists_a : Option Addr) (lists_n : Nat) (lists_e : Nat) (H : AHeap) (K : Bool → AHeap → Prop) : Prop := ∃ (l_lists : List (List Nat)), IsLL fF H lists_a lists_n l_lists ∧ l_lists.length < 1073741824 ∧ (∀ y ∈ l_lists, y.length < 1073741824) ∧ K (p_impl_areFinite l_lists) H
theorem T_impl_areFinite_i {lists_a : Option Addr} {lists_n : Nat} {lists_e : Nat} {H : AHeap} {K : Bool → AHeap → Prop} (h : ∃ (l_lists : List (List Nat)), IsLL fF H lists_a lists_n l_lists ∧ l_lists.length < 1073741824 ∧ (∀ y ∈ l_lists, y.length < 1073741824) ∧ K (p_impl_areFinite l_lists) H) : T_impl_areFinite lists_a lists_n lists_e H K := h

/-! impl_areFinite: function 81 -/
def E_impl_areFinite : Env := envOf [(56, S_impl_IsFinite)]
def F_impl_areFinite : List Value → AHeap → (Value → AHeap → Prop) → Prop
  | [.slice lists_a lists_n lists_e], H, K => T_impl_areFinite lists_a lists_n lists_e H fun (r1 : Bool) (H' : AHeap) => K (.bool r1) H'
  | _, _, _ => False
def S_impl_areFinite : FSpec := { F := F_impl_areFinite, quiet := true, tame := false }
theorem impl_areFinite_vc (lists_a : Option Addr) (lists_n : Nat) (lists_e : Nat) (H : AHeap) (K : Value → AHeap → Prop) : bodyK Try.prog E_impl_areFinite Try.f81 [.slice lists_a lists_n lists_e] H K =
  (loopK (exK Try.prog E_impl_areFinite (cl (cl (cr (cl (cr (bodyC Try.f81))))))) [.slice lists_a lists_n lists_e, undef, .bool false, undef, undef, undef, undef, .slice lists_a lists_n lists_e, .int .i64 (lists_n : Int), .int .i64 0, undef, undef, undef, undef, undef, undef, undef, undef, undef, undef, undef, undef, undef, undef] H (blockQ 0 (seqQ (exK Try.prog E_impl_areFinite (cr (cr (bodyC Try.f81)))) (retK Try.prog Try.f81 K)))) := by kernel_rfl
abbrev impl_areFinite_P1 (lists_a : Option Addr) (lists_e : Nat) (lists_n : Nat) (t2 : Bool) (t9 : Int) (g4 g6 g10 g11 g12 g13 g14 g15 g16 g17 g18 g19 g20 g21 g22 g23 : Value) : List Value := [.slice lists_a lists_n lists_e, undef, .bool t2, undef, g4, undef, g6, .slice lists_a lists_n lists_e, .int .i64 (lists_n : Int), .int .i64 t9, g10, g11, g12, g13, g14, g15, g16, g17, g18, g19, g20, g21, g22, g23]
theorem impl_areFinite_r1 (lists_a : Option Addr) (lists_e : Nat) (lists_n : Nat) (t2 : Bool) (t9 : Int) (g4 g6 g10 g11 g12 g13 g14 g15 g16 g17 g18 g19 g20 g21 g22 g23 : Value) (H : AHeap) (R : Post) : exK Try.prog E_impl_areFinite (cl (cl (cr (cl (cr (bodyC Try.f81)))))) (impl_areFinite_P1 lists_a lists_e lists_n t2 t9 g4 g6 g10 g11 g12 g13 g14 g15 g16 g17 g18 g19 g20 g21 g22 g23) H R =
  (Br (decide ((t9 : Int) < (lists_n : Int))) ((0 : Int) ≤ t9 ∧ t9 < (lists_n : Int) ∧ ∃ b1 f1, (lists_a : Option Addr) = some ⟨b1, f1, none⟩ ∧ ∃ x1_a : Option Addr, ∃ x1_n : Nat, ∃ x1_e : Nat,  rdC H b1 (f1 + (t9 : Int).toNat * 1) = some (.slice x1_a x1_n x1_e) ∧ loopK (exK Try.prog E_impl_areFinite (cl (cl (cr (cr (cl (cl (cr (cr (cl (cl (cr (cl (cr (bodyC Try.f81))))))))))))))) [.slice lists_a lists_n lists_e, undef, .bool t2, undef, .slice x1_a x1_n x1_e, undef, g6, .slice lists_a lists_n lists_e, .int .i64 (lists_n : Int), .int .i64 t9, .bool (decide ((t9 : Int) < (lists_n : Int))), .pointer (some ⟨b1, f1 + (t9 : Int).toNat * 1, none⟩), .slice x1_a x1_n x1_e, .slice x1_a x1_n x1_e, .int .i64 (x1_n : Int), .int .i64 0, g16, g17, g18, g19, g20, g21, g22, g23] H (blockQ 2 (blockQ 1 (seqQ (exK Try.prog E_impl_areFinite (cr (cr (cr (cl (cl (cr (cl (cr (bodyC Try.f81)))))))))) (R))))) (R (.exit 0) [.slice lists_a lists_n lists_e, undef, .bool t2, undef, g4, undef, g6, .slice lists_a lists_n lists_e, .int .i64 (lists_n : Int), .int .i64 t9, .bool (decide ((t9 : Int) < (lists_n : Int))), g11, g12, g13, g14, g15, g16, g17, g18, g19, g20, g21, g22, g23] H)) := by kernel_rfl
def impl_areFinite_I1 (lists_a : Option Addr) (lists_e : Nat) (lists_n : Nat) (Inv : Nat → Bool → Int → AHeap → Prop) : Nat → List Value → AHeap → Prop := fun μ tm H => ∃ (t2 : Bool), ∃ (t9 : Int), ∃ g4 g6 g10 g11 g12 g13 g14 g15 g16 g17 g18 g19 g20 g21 g22 g23, tm = (impl_areFinite_P1 lists_a lists_e lists_n t2 t9 g4 g6 g10 g11 g12 g13 g14 g15 g16 g17 g18 g19 g20 g21 g22 g23) ∧ Inv μ t2 t9 H
theorem impl_areFinite_L1 (lists_a : Option Addr) (lists_e : Nat) (lists_n : Nat) {Q : Post} (Inv : Nat → Bool → Int → AHeap → Prop) (ν : Nat) (t2 : Bool) (t9 : Int) (g4 g6 g10 g11 g12 g13 g14 g15 g16 g17 g18 g19 g20 g21 g22 g23 : Value) (H : AHeap) (h0 : Inv ν t2 t9 H)
    (hs : ∀ (μ : Nat) (t2 : Bool) (t9 : Int) (g4 g6 g10 g11 g12 g13 g14 g15 g16 g17 g18 g19 g20 g21 g22 g23 : Value) (H : AHeap), Inv μ t2 t9 H → exK Try.prog E_impl_areFinite (cl (cl (cr (cl (cr (bodyC Try.f81)))))) (impl_areFinite_P1 lists_a lists_e lists_n t2 t9 g4 g6 g10 g11 g12 g13 g14 g15 g16 g17 g18 g19 g20 g21 g22 g23) H (loopQ (impl_areFinite_I1 lists_a lists_e lists_n Inv) μ Q)) : loopK (exK Try.prog E_impl_areFinite (cl (cl (cr (cl (cr (bodyC Try.f81))))))) (impl_areFinite_P1 lists_a lists_e lists_n t2 t9 g4 g6 g10 g11 g12 g13 g14 g15 g16 g17 g18 g19 g20 g21 g22 g23) H Q :=
  ⟨impl_areFinite_I1 lists_a lists_e lists_n Inv, ν, ⟨t2, t9, g4, g6, g10, g11, g12, g13, g14, g15, g16, g17, g18, g19, g20, g21, g22, g23, rfl, h0⟩, fun μ tm H h => by obtain ⟨t2, t9, g4, g6, g10, g11, g12, g13, g14, g15, g16, g17, g18, g19, g20, g21, g22, g23, rfl, hI⟩ := h; exact hs μ t2 t9 g4 g6 g10 g11 g12 g13 g14 g15 g16 g17 g18 g19 g20 g21 g22 g23 H hI⟩
theorem impl_areFinite_n1 {lists_a : Option Addr} {lists_e : Nat} {lists_n : Nat} {Q : Post} {Inv : Nat → Bool → Int → AHeap → Prop} {μ : Nat} (μ' : Nat) {t2 : Bool} {t9 : Int} {g4 g6 g10 g11 g12 g13 g14 g15 g16 g17 g18 g19 g20 g21 g22 g23 : Value} {H : AHeap} (hm : μ' < μ) (hI : Inv μ' t2 t9 H) : loopQ (impl_areFinite_I1 lists_a lists_e lists_n Inv) μ Q .normal (impl_areFinite_P1 lists_a lists_e lists_n t2 t9 g4 g6 g10 g11 g12 g13 g14 g15 g16 g17 g18 g19 g20 g21 g22 g23) H := ⟨μ', hm, t2, t9, g4, g6, g10, g11, g12, g13, g14, g15, g16, g17, g18, g19, g20, g21, g22, g23, rfl, hI⟩
theorem impl_areFinite_x1_0 (lists_a : Option Addr) (lists_e : Nat) (lists_n : Nat) (t2 : Bool) (t9 : Int) (g4 g6 g10 g11 g12 g13 g14 g15 g16 g17 g18 g19 g20 g21 g22 g23 : Value) (H : AHeap) (K : Value → AHeap → Prop)  {I : Nat → List Value → AHeap → Prop} {μ : Nat} : loopQ I μ (blockQ 0 (seqQ (exK Try.prog E_impl_areFinite (cr (cr (bodyC Try.f81)))) (retK Try.prog Try.f81 K))) (.exit 0) (impl_areFinite_P1 lists_a lists_e lists_n t2 t9 g4 g6 g10 g11 g12 g13 g14 g15 g16 g17 g18 g19 g20 g21 g22 g23) H =
  (K (.bool true) H) := by kernel_rfl
theorem impl_areFinite_x1_ret (lists_a : Option Addr) (lists_e : Nat) (lists_n : Nat) (t2 : Bool) (t9 : Int) (g4 g6 g10 g11 g12 g13 g14 g15 g16 g17 g18 g19 g20 g21 g22 g23 : Value) (H : AHeap) (K : Value → AHeap → Prop)  {I : Nat → List Value → AHeap → Prop} {μ : Nat} : loopQ I μ (blockQ 0 (seqQ (exK Try.prog E_impl_areFinite (cr (cr (bodyC Try.f81)))) (retK Try.prog Try.f81 K))) .ret (impl_areFinite_P1 lists_a lists_e lists_n t2 t9 g4 g6 g10 g11 g12 g13 g14 g15 g16 g17 g18 g19 g20 g21 g22 g23) H =
  (K (.bool t2) H) := by kernel_rfl
abbrev impl_areFinite_P2 (b1 : Nat) (f1 : Nat) (g23 : Value) (lists_a : Option Addr) (lists_e : Nat) (lists_n : Nat) (t9 : Int) (x1_a : Option Addr) (x1_e : Nat) (x1_n : Nat) (t2_2 : Bool) (t15 : Int) (g6 g16 g17 g18 g19 g20 g21 g22 : Value) : List Value := [.slice lists_a lists_n lists_e, undef, .bool t2_2, undef, .slice x1_a x1_n x1_e, undef, g6, .slice lists_a lists_n lists_e, .int .i64 (lists_n : Int), .int .i64 t9, .bool (decide ((t9 : Int) < (lists_n : Int))), .pointer (some ⟨b1, f1 + (t9 : Int).toNat * 1, none⟩), .slice x1_a x1_n x1_e, .slice x1_a x1_n x1_e, .int .i64 (x1_n : Int), .int .i64 t15, g16, g17, g18, g19, g20, g21, g22, g23]
theorem impl_areFinite_r2 (b1 : Nat) (f1 : Nat) (g23 : Value) (lists_a : Option Addr) (lists_e : Nat) (lists_n : Nat) (t9 : Int) (x1_a : Option Addr) (x1_e : Nat) (x1_n : Nat) (t2_2 : Bool) (t15 : Int) (g6 g16 g17 g18 g19 g20 g21 g22 : Value) (H : AHeap) (R : Post) : exK Try.prog E_impl_areFinite (cl (cl (cr (cr (cl (cl (cr (cr (cl (cl (cr (cl (cr (bodyC Try.f81)))))))))))))) (impl_areFinite_P2 b1 f1 g23 lists_a lists_e lists_n t9 x1_a x1_e x1_n t2_2 t15 g6 g16 g17 g18 g19 g20 g21 g22) H R =
  (Br (decide ((t15 : Int) < (x1_n : Int))) ((0 : Int) ≤ t15 ∧ t15 < (x1_n : Int) ∧ ∃ b2 f2, (x1_a : Option Addr) = some ⟨b2, f2, none⟩ ∧ ∃ x2 : Nat,  rdC H b2 (f2 + (t15 : Int).toNat * 1) = some (.float .f32 x2) ∧ T_impl_IsFinite x2 H fun (r1 : Bool) (H1 : AHeap) => Br (!r1) (R .ret [.slice lists_a lists_n lists_e, undef, .bool false, undef, .slice x1_a x1_n x1_e, undef, .float .f32 x2, .slice lists_a lists_n lists_e, .int .i64 (lists_n : Int), .int .i64 t9, .bool (decide ((t9 : Int) < (lists_n : Int))), .pointer (some ⟨b1, f1 + (t9 : Int).toNat * 1, none⟩), .slice x1_a x1_n x1_e, .slice x1_a x1_n x1_e, .int .i64 (x1_n : Int), .int .i64 t15, .bool (decide ((t15 : Int) < (x1_n : Int))), .pointer (some ⟨b2, f2 + (t15 : Int).toNat * 1, none⟩), .float .f32 x2, .float .f32 x2, .bool r1, .bool (!r1), g22, g23] H1) (R .normal [.slice lists_a lists_n lists_e, undef, .bool t2_2, undef, .slice x1_a x1_n x1_e, undef, .float .f32 x2, .slice lists_a lists_n lists_e, .int .i64 (lists_n : Int), .int .i64 t9, .bool (decide ((t9 : Int) < (lists_n : Int))), .pointer (some ⟨b1, f1 + (t9 : Int).toNat * 1, none⟩), .slice x1_a x1_n x1_e, .slice x1_a x1_n x1_e, .int .i64 (x1_n : Int), .int .i64 (IntKind.wrap .i64 (t15 + 1)), .bool (decide ((t15 : Int) < (x1_n : Int))), .pointer (some ⟨b2, f2 + (t15 : Int).toNat * 1, none⟩), .float .f32 x2, .float .f32 x2, .bool r1, .bool (!r1), .int .i64 (IntKind.wrap .i64 (t15 + 1)), g23] H1)) (R (.exit 2) [.slice lists_a lists_n lists_e, undef, .bool t2_2, undef, .slice x1_a x1_n x1_e, undef, g6, .slice lists_a lists_n lists_e, .int .i64 (lists_n : Int), .int .i64 t9, .bool (decide ((t9 : Int) < (lists_n : Int))), .pointer (some ⟨b1, f1 + (t9 : Int).toNat * 1, none⟩), .slice x1_a x1_n x1_e, .slice x1_a x1_n x1_e, .int .i64 (x1_n : Int), .int .i64 t15, .bool (decide ((t15 : Int) < (x1_n : Int))), g17, g18, g19, g20, g21, g22, g23] H)) := by kernel_rfl
def impl_areFinite_I2 (b1 : Nat) (f1 : Nat) (g23 : Value) (lists_a : Option Addr) (lists_e : Nat) (lists_n : Nat) (t9 : Int) (x1_a : Option Addr) (x1_e : Nat) (x1_n : Nat) (Inv : Nat → Bool → Int → AHeap → Prop) : Nat → List Value → AHeap → Prop := fun μ tm H => ∃ (t2_2 : Bool), ∃ (t15 : Int), ∃ g6 g16 g17 g18 g19 g20 g21 g22, tm = (impl_areFinite_P2 b1 f1 g23 lists_a lists_e lists_n t9 x1_a x1_e x1_n t2_2 t15 g6 g16 g17 g18 g19 g20 g21 g22) ∧ Inv μ t2_2 t15 H
theorem impl_areFinite_L2 (b1 : Nat) (f1 : Nat) (g23 : Value) (lists_a : Option Addr) (lists_e : Nat) (lists_n : Nat) (t9 : Int) (x1_a : Option Addr) (x1_e : Nat) (x1_n : Nat) {Q : Post} (Inv : Nat → Bool → Int → AHeap → Prop) (ν : Nat) (t2_2 : Bool) (t15 : Int) (g6 g16 g17 g18 g19 g20 g21 g22 : Value) (H : AHeap) (h0 : Inv ν t2_2 t15 H)
    (hs : ∀ (μ : Nat) (t2_2 : Bool) (t15 : Int) (g6 g16 g17 g18 g19 g20 g21 g22 : Value) (H : AHeap), Inv μ t2_2 t15 H → exK Try.prog E_impl_areFinite (cl (cl (cr (cr (cl (cl (cr (cr (cl (cl (cr (cl (cr (bodyC Try.f81)))))))))))))) (impl_areFinite_P2 b1 f1 g23 lists_a lists_e lists_n t9 x1_a x1_e x1_n t2_2 t15 g6 g16 g17 g18 g19 g20 g21 g22) H (loopQ (impl_areFinite_I2 b1 f1 g23 lists_a lists_e lists_n t9 x1_a x1_e x1_n Inv) μ Q)) : loopK (exK Try.prog E_impl_areFinite (cl (cl (cr (cr (cl (cl (cr (cr (cl (cl (cr (cl (cr (bodyC Try.f81))))))))))))))) (impl_areFinite_P2 b1 f1 g23 lists_a lists_e lists_n t9 x1_a x1_e x1_n t2_2 t15 g6 g16 g17 g18 g19 g20 g21 g22) H Q :=
  ⟨impl_areFinite_I2 b1 f1 g23 lists_a lists_e lists_n t9 x1_a x1_e x1_n Inv, ν, ⟨t2_2, t15, g6, g16, g17, g18, g19, g20, g21, g22, rfl, h0⟩, fun μ tm H h => by obtain ⟨t2_2, t15, g6, g16, g17, g18, g19, g20, g21, g22, rfl, hI⟩ := h; exact hs μ t2_2 t15 g6 g16 g17 g18 g19 g20 g21 g22 H hI⟩
theorem impl_areFinite_n2 {b1 : Nat} {f1 : Nat} {g23 : Value} {lists_a : Option Addr} {lists_e : Nat} {lists_n : Nat} {t9 : Int} {x1_a : Option Addr} {x1_e : Nat} {x1_n : Nat} {Q : Post} {Inv : Nat → Bool → Int → AHeap → Prop} {μ : Nat} (μ' : Nat) {t2_2 : Bool} {t15 : Int} {g6 g16 g17 g18 g19 g20 g21 g22 : Value} {H : AHeap} (hm : μ' < μ) (hI : Inv μ' t2_2 t15 H) : loopQ (impl_areFinite_I2 b1 f1 g23 lists_a lists_e lists_n t9 x1_a x1_e x1_n Inv) μ Q .normal (impl_areFinite_P2 b1 f1 g23 lists_a lists_e lists_n t9 x1_a x1_e x1_n t2_2 t15 g6 g16 g17 g18 g19 g20 g21 g22) H := ⟨μ', hm, t2_2, t15, g6, g16, g17, g18, g19, g20, g21, g22, rfl, hI⟩
theorem impl_areFinite_x2_2 (b1 : Nat) (f1 : Nat) (g23 : Value) (lists_a : Option Addr) (lists_e : Nat) (lists_n : Nat) (t9 : Int) (x1_a : Option Addr) (x1_e : Nat) (x1_n : Nat) (t2_2 : Bool) (t15 : Int) (g6 g16 g17 g18 g19 g20 g21 g22 : Value) (H : AHeap)  (R : Post) {I : Nat → List Value → AHeap → Prop} {μ : Nat} : loopQ I μ (blockQ 2 (blockQ 1 (seqQ (exK Try.prog E_impl_areFinite (cr (cr (cr (cl (cl (cr (cl (cr (bodyC Try.f81)))))))))) (R)))) (.exit 2) (impl_areFinite_P2 b1 f1 g23 lists_a lists_e lists_n t9 x1_a x1_e x1_n t2_2 t15 g6 g16 g17 g18 g19 g20 g21 g22) H =
  (R .normal [.slice lists_a lists_n lists_e, undef, .bool t2_2, undef, .slice x1_a x1_n x1_e, undef, g6, .slice lists_a lists_n lists_e, .int .i64 (lists_n : Int), .int .i64 (IntKind.wrap .i64 (t9 + 1)), .bool (decide ((t9 : Int) < (lists_n : Int))), .pointer (some ⟨b1, f1 + (t9 : Int).toNat * 1, none⟩), .slice x1_a x1_n x1_e, .slice x1_a x1_n x1_e, .int .i64 (x1_n : Int), .int .i64 t15, g16, g17, g18, g19, g20, g21, g22, .int .i64 (IntKind.wrap .i64 (t9 + 1))] H) := by kernel_rfl
theorem impl_areFinite_x2_ret (b1 : Nat) (f1 : Nat) (g23 : Value) (lists_a : Option Addr) (lists_e : Nat) (lists_n : Nat) (t9 : Int) (x1_a : Option Addr) (x1_e : Nat) (x1_n : Nat) (t2_2 : Bool) (t15 : Int) (g6 g16 g17 g18 g19 g20 g21 g22 : Value) (H : AHeap)  (R : Post) {I : Nat → List Value → AHeap → Prop} {μ : Nat} : loopQ I μ (blockQ 2 (blockQ 1 (seqQ (exK Try.prog E_impl_areFinite (cr (cr (cr (cl (cl (cr (cl (cr (bodyC Try.f81)))))))))) (R)))) .ret (impl_areFinite_P2 b1 f1 g23 lists_a lists_e lists_n t9 x1_a x1_e x1_n t2_2 t15 g6 g16 g17 g18 g19 g20 g21 g22) H =
  (R .ret [.slice lists_a lists_n lists_e, undef, .bool t2_2, undef, .slice x1_a x1_n x1_e, undef, g6, .slice lists_a lists_n lists_e, .int .i64 (lists_n : Int), .int .i64 t9, .bool (decide ((t9 : Int) < (lists_n : Int))), .pointer (some ⟨b1, f1 + (t9 : Int).toNat * 1, none⟩), .slice x1_a x1_n x1_e, .slice x1_a x1_n x1_e, .int .i64 (x1_n : Int), .int .i64 t15, g16, g17, g18, g19, g20, g21, g22, g23] H) := by kernel_rfl
theorem E_impl_areFinite_ok : ∀ g, FnOk Try.prog g (E_impl_areFinite g) := FnOk.envOf (by
  intro x hx
  simp only [List.mem_cons, List.not_mem_nil, or_false] at hx
  subst hx; exact impl_IsFinite_ok)
set_option maxHeartbeats 1000000 in
theorem impl_areFinite_main (lists_a : Option Addr) (lists_n : Nat) (lists_e : Nat) (H : AHeap) (K : Value → AHeap → Prop) (h : T_impl_areFinite lists_a lists_n lists_e H fun (r1 : Bool) (H' : AHeap) => K (.bool r1) H') : bodyK Try.prog E_impl_areFinite Try.f81 [.slice lists_a lists_n lists_e] H K := by
  rw [impl_areFinite_vc]
  obtain ⟨l_lists, i_lists, bd_22, bb_l_lists, hk⟩ := h
  obtain rfl := i_lists.eqn
  have e : (p_impl_areFinite l_lists) = _ := rfl
  have e := e.trans (p_impl_areFinite_eq l_lists)
  have g0 := Grow.refl H
  refine impl_areFinite_L1 _ _ _ (fun (μ : Nat) (t2 : Bool) (t9 : Int) (H_1 : AHeap) => H = H_1 ∧ (0 : Int) ≤ t9 ∧ t9 ≤ (l_lists.length : Int) ∧ (l_lists.length : Int) - t9 ≤ (μ : Int) ∧ p_impl_areFinite l_lists = p_impl_areFinite_l1 l_lists (μ + 1) t2 t9) (Int.toNat ((l_lists.length : Int) - (0 : Int))) _ _ _ _ _ _ _ _ _ _ _ _ _ _ _ _ _ _ H ?_ ?_
  · exact ⟨rfl, o5, o5, o4, e⟩
  · intro μ t2 t9 g4 g6 g10 g11 g12 g13 g14 g15 g16 g17 g18 g19 g20 g21 g22 g23 H_1 hI
    obtain ⟨rfl, v_1, v_2, hμ, e⟩ := hI
    rw [impl_areFinite_r1]
    have e := e.trans (p_impl_areFinite_l1_s l_lists μ t2 t9)
    have l_3 := g0.1
    refine Br.intro (fun c_4 => ?_) (fun c_4 => ?_)
    · have e := e.trans (cond_t c_4)
      have c_4' := of_decide_eq_true c_4
      obtain ⟨b_5, f_6, q_7⟩ := ((i_lists.grow g0)).pos o0
      refine ⟨by omega, by omega, b_5, f_6, q_7, ?_⟩
      obtain ⟨a_8, n_9, e_10, r_11, i_12⟩ := (i_lists).rd (i := (t9 : Int).toNat) g0 q_7 o4
      obtain rfl := i_12.eqn
      refine ⟨a_8, _, e_10, r_11, ?_⟩
      have z_13 := getD_len bb_l_lists (t9 : Int).toNat
      refine impl_areFinite_L2 _ _ _ _ _ _ _ _ _ _ (fun (μ2 : Nat) (t2_2 : Bool) (t15 : Int) (H_2 : AHeap) => H = H_2 ∧ (0 : Int) ≤ t15 ∧ t15 ≤ ((((l_lists).getD (t9 : Int).toNat [])).length : Int) ∧ ((((l_lists).getD (t9 : Int).toNat [])).length : Int) - t15 ≤ (μ2 : Int) ∧ p_impl_areFinite l_lists = p_impl_areFinite_l2 l_lists t2 t9 (fun (t2_2 : Bool) (t15 : Int) => (p_impl_areFinite_l1 l_lists μ t2_2 (t9 + 1))) (μ2 + 1) t2_2 t15) (Int.toNat (((((l_lists).getD (t9 : Int).toNat [])).length : Int) - (0 : Int))) _ _ _ _ _ _ _ _ _ _ H ?_ ?_
      · exact ⟨rfl, o5, o5, o4, e⟩
      · intro μ2 t2_2 t15 g6 g16 g17 g18 g19 g20 g21 g22 H_2 hI
        obtain ⟨rfl, v_14, v_15, hμ, e⟩ := hI
        rw [impl_areFinite_r2]
        have e := e.trans (p_impl_areFinite_l2_s l_lists t2 t9 (fun (t2_2 : Bool) (t15 : Int) => (p_impl_areFinite_l1 l_lists μ t2_2 (t9 + 1))) μ2 t2_2 t15)
        have l_16 := g0.1
        refine Br.intro (fun c_17 => ?_) (fun c_17 => ?_)
        · have e := e.trans (cond_t c_17)
          have c_17' := of_decide_eq_true c_17
          obtain ⟨b_18, f_19, q_20⟩ := ((i_12.grow g0)).pos o0
          refine ⟨by omega, by omega, b_18, f_19, q_20, ?_⟩
          refine ⟨((((l_lists).getD (t9 : Int).toNat [])).getD (t15 : Int).toNat 0), (i_12).rd g0 q_20 o4 _, ?_⟩
          refine T_impl_IsFinite_i ?_
          refine Br.intro (fun c_21 => ?_) (fun c_21 => ?_)
          · have e := e.trans (cond_t c_21)
            have c_21n := nf_of_t c_21
            rw [impl_areFinite_x2_ret]
            rw [impl_areFinite_x1_ret]
            rw [e] at hk
            exact hk
          · have e := e.trans (cond_f c_21)
            have c_21n := nt_of_f c_21
            rw [show IntKind.wrap .i64 (t15 + 1) = (t15 + 1) from wrap64 o4 o4]
            refine impl_areFinite_n2 (μ2 - 1) o12 ⟨rfl, o1, o1, o12, (by rw [show μ2 - 1 + 1 = μ2 from by first | omega]; exact e)⟩
        · have e := e.trans (cond_f c_17)
          have c_17' := of_decide_eq_false c_17
          rw [impl_areFinite_x2_2]
          rw [show IntKind.wrap .i64 (t9 + 1) = (t9 + 1) from wrap64 o4 o4]
          refine impl_areFinite_n1 (μ - 1) o12 ⟨rfl, o1, o1, o12, (by rw [show μ - 1 + 1 = μ from by first | omega]; exact e)⟩
    · have e := e.trans (cond_f c_4)
      have c_4' := of_decide_eq_false c_4
      rw [impl_areFinite_x1_0]
      rw [e] at hk
      exact hk
theorem impl_areFinite_ok : FnOk Try.prog 81 S_impl_areFinite := by
  refine FnOk.body mix_ok E_impl_areFinite_ok Try.func81 rfl (by kernel_rfl) (by kernel_rfl) ?_ ?_ ?_ ?_ ?_
  · intro args H K K' h hk
    simp only [S_impl_areFinite] at *
    unfold F_impl_areFinite at *
    split at hk
    · obtain ⟨l_lists, i_lists, bd_22, bb_l_lists, k⟩ := hk
      exact ⟨l_lists, i_lists, bd_22, bb_l_lists, h _ _ k⟩
    · exact hk.elim
  · intro _ args H K hk
    simp only [S_impl_areFinite] at *
    unfold F_impl_areFinite at *
    split at hk
    · obtain ⟨l_lists, i_lists, bd_22, bb_l_lists, k⟩ := hk
      exact ⟨_, k, fun K' k' => ⟨l_lists, i_lists, bd_22, bb_l_lists, k'⟩⟩
    · exact hk.elim
  · intro args H K hk
    simp only [S_impl_areFinite] at *
    unfold F_impl_areFinite at *
    split at hk
    · obtain ⟨l_lists, i_lists, bd_22, bb_l_lists, k⟩ := hk
      exact ⟨_, _, k⟩
    · exact hk.elim
  · intro hq; cases hq
  · have mm := @impl_areFinite_main
    revert mm
    generalize bodyK Try.prog E_impl_areFinite Try.f81 = Q
    intro mm args H K hk
    simp only [S_impl_areFinite] at *
    unfold F_impl_areFinite at *
    split at hk
    · exact mm _ _ _ H K hk
    · exact hk.elim

def p_impl_finiteList (l_list : List Nat) : (List Nat) × Bool := (bif !((p_impl_areFinite ([l_list]))) then ([], false) else (l_list, true))
def p_impl_finiteList_eq := @p_impl_finiteList.eq_1
def T_impl_finiteList (list_a : Option Addr) (list_n : Nat) (list_e : Nat) (H : AHeap) (K : (Option Addr) → Nat → Nat → Bool → AHeap → Prop) : Prop := ∃ (l_list : List Nat), IsL fF H list_a list_n l_list ∧ l_list.length < 1073741824 ∧ ((∀ H' : AHeap, Grow H H' → Br ((p_impl_finiteList l_list).2) (K list_a list_n list_e true H') (K none 0 0 false H')))
theorem T_impl_finiteList_i {list_a : Option Addr} {list_n : Nat} {list_e : Nat} {H : AHeap} {K : (Option Addr) → Nat → Nat → Bool → AHeap → Prop} (h : ∃ (l_list : List Nat), IsL fF H list_a list_n l_list ∧ l_list.length < 1073741824 ∧ ((∀ H' : AHeap, Grow H H' → Br ((p_impl_finiteList l_list).2) (K list_a list_n list_e true H') (K none 0 0 false H')))) : T_impl_finiteList list_a list_n list_e H K := h

/-! impl_finiteList: function 58 -/
def E_impl_finiteList : Env := envOf [(81, S_impl_areFinite)]
def F_impl_finiteList : List Value → AHeap → (Value → AHeap → Prop) → Prop
  | [.slice list_a list_n list_e], H, K => T_impl_finiteList list_a list_n list_e H fun (r1_a : Option Addr) (r1_n : Nat) (r1_e : Nat) (r2 : Bool) (H' : AHeap) => K (.tuple #[.slice r1_a r1_n r1_e, .bool r2]) H'
  | _, _, _ => False
def S_impl_finiteList : FSpec := { F := F_impl_finiteList, quiet := false, tame := true }
theorem impl_finiteList_vc (list_a : Option Addr) (list_n : Nat) (list_e : Nat) (H : AHeap) (K : Value → AHeap → Prop) : bodyK Try.prog E_impl_finiteList Try.f58 [.slice list_a list_n list_e] H K =
  (Al [.slice list_a list_n list_e] H fun b1 H1 => T_impl_areFinite (some ⟨b1, 0, none⟩) 1 1 H1 fun (r1 : Bool) (H2 : AHeap) => Br (!r1) (K (.tuple #[.slice none 0 0, .bool false]) H2) (K (.tuple #[.slice list_a list_n list_e, .bool true]) H2)) := by kernel_rfl
theorem E_impl_finiteList_ok : ∀ g, FnOk Try.prog g (E_impl_finiteList g) := FnOk.envOf (by
  intro x hx
  simp only [List.mem_cons, List.not_mem_nil, or_false] at hx
  subst hx; exact impl_areFinite_ok)
set_option maxHeartbeats 1000000 in
theorem impl_finiteList_main (list_a : Option Addr) (list_n : Nat) (list_e : Nat) (H : AHeap) (K : Value → AHeap → Prop) (h : T_impl_finiteList list_a list_n list_e H fun (r1_a : Option Addr) (r1_n : Nat) (r1_e : Nat) (r2 : Bool) (H' : AHeap) => K (.tuple #[.slice r1_a r1_n r1_e, .bool r2]) H') : bodyK Try.prog E_impl_finiteList Try.f58 [.slice list_a list_n list_e] H K := by
  rw [impl_finiteList_vc]
  obtain ⟨l_list, i_list, bd_12, hk⟩ := h
  obtain rfl := i_list.eqn
  have e : (p_impl_finiteList l_list) = _ := rfl
  have e := e.trans (p_impl_finiteList_eq l_list)
  have g0 := Grow.refl H
  refine Al.intro (fun b_1 H_1 hb_2 hl_3 g_4 o_5 => ?_)
  have l_7 := g_4.1
  have g_8 := g0.trans g_4
  have l_9 := g_8.1
  have w_11 := o_5.lt
  refine T_impl_areFinite_i ⟨[l_list], ⟨_, o_5.rdAll rfl, LLc.cons (i_list.grow g_8) (LLc.nil _ _)⟩, o0, (by first | assumption | (intro y hy; simp only [List.mem_cons, List.not_mem_nil, or_false] at hy; first | omega | (subst hy; omega) | (rcases hy with rfl | rfl <;> omega) | (rcases hy with rfl | rfl | rfl <;> omega))), ?_⟩
  refine Br.intro (fun c_10 => ?_) (fun c_10 => ?_)
  · have e := e.trans (cond_t c_10)
    have c_10n := nf_of_t c_10
    have q := hk H_1 g_8
    rw [e] at q
    exact q
  · have e := e.trans (cond_f c_10)
    have c_10n := nt_of_f c_10
    have q := hk H_1 g_8
    rw [e] at q
    exact q
theorem impl_finiteList_ok : FnOk Try.prog 58 S_impl_finiteList := by
  refine FnOk.body mix_ok E_impl_finiteList_ok Try.func58 rfl (by kernel_rfl) (by kernel_rfl) ?_ ?_ ?_ ?_ ?_
  · intro args H K K' h hk
    simp only [S_impl_finiteList] at *
    unfold F_impl_finiteList at *
    split at hk
    · obtain ⟨l_list, i_list, bd_12, k⟩ := hk
      exact ⟨l_list, i_list, bd_12, (fun H' gg => Br_mono (h _ _) (h _ _) (k H' gg))⟩
    · exact hk.elim
  · intro hq; cases hq
  · intro args H K hk
    simp only [S_impl_finiteList] at *
    unfold F_impl_finiteList at *
    split at hk
    · obtain ⟨l_list, i_list, bd_12, k⟩ := hk
      exact Br_live (k H (Grow.refl H))
    · exact hk.elim
  · intro _ args H K hk
    simp only [S_impl_finiteList] at *
    unfold F_impl_finiteList at *
    split at hk
    · obtain ⟨l_list, i_list, bd_12, k⟩ := hk
      exact ⟨l_list, i_list, bd_12, (fun H' gg => Br_mono (fun q => ⟨gg, q⟩) (fun q => ⟨gg, q⟩) (k H' gg))⟩
    · exact hk.elim
  · have mm := @impl_finiteList_main
    revert mm
    generalize bodyK Try.prog E_impl_finiteList Try.f58 = Q
    intro mm args H K hk
    simp only [S_impl_finiteList] at *
    unfold F_impl_finiteList at *
    split at hk
    · exact mm _ _ _ H K hk
    · exact hk.elim

def p_impl_AtomList (count : Int) (a_Place : Int) (a_Scale : Nat) (a_Size : Nat) : (List Nat) × Bool := (bif !((p_impl_within count (1 : Int) (128 : Int))) then ([], false) else (bif !((p_impl_within a_Place (0 : Int) (count - 1))) then ([], false) else (bif !(p_impl_isScale a_Scale) then ([], false) else (bif !(p_impl_IsFinite a_Size) then ([], false) else (bif (p_impl_finiteList ((p_impl_atomBy ((p_impl_realKernel a_Scale).1) ((p_impl_realKernel a_Scale).2) count a_Place a_Size))).2 then ((p_impl_atomBy ((p_impl_realKernel a_Scale).1) ((p_impl_realKernel a_Scale).2) count a_Place a_Size), true) else ([], false))))))
def p_impl_AtomList_eq := @p_impl_AtomList.eq_1
def T_impl_AtomList (count : Int) (a_Place : Int) (a_Scale : Nat) (a_Size : Nat) (H : AHeap) (K : (Option Addr) → Nat → Nat → Bool → AHeap → Prop) : Prop := ((∀ (r1_a : Option Addr) (r1_n r1_e : Nat), ∀ H' : AHeap, Grow H H' → OwnS fF H' H.length r1_a r1_n r1_e ((p_impl_AtomList count a_Place a_Scale a_Size).1) → K r1_a r1_n r1_e ((p_impl_AtomList count a_Place a_Scale a_Size).2) H'))
theorem T_impl_AtomList_i {count : Int} {a_Place : Int} {a_Scale : Nat} {a_Size : Nat} {H : AHeap} {K : (Option Addr) → Nat → Nat → Bool → AHeap → Prop} (h : ((∀ (r1_a : Option Addr) (r1_n r1_e : Nat), ∀ H' : AHeap, Grow H H' → OwnS fF H' H.length r1_a r1_n r1_e ((p_impl_AtomList count a_Place a_Scale a_Size).1) → K r1_a r1_n r1_e ((p_impl_AtomList count a_Place a_Scale a_Size).2) H'))) : T_impl_AtomList count a_Place a_Scale a_Size H K := h
theorem within_t {n a b : Int} (h : p_impl_within n a b = true) : a ≤ n ∧ n ≤ b := by
  unfold p_impl_within at h
  simp at h; omega
theorem impl_AtomList_len (c p : Int) (s z : Nat) : (p_impl_AtomList c p s z).1.length ≤ 1000 := by
  rw [p_impl_AtomList_eq]
  refine cnb (P := fun r : List Nat × Bool => r.1.length ≤ 1000) (fun h => Nat.zero_le _) (fun hc => ?_)
  have hc := within_t (nt_of_f hc)
  refine cnb (P := fun r : List Nat × Bool => r.1.length ≤ 1000) (fun h => Nat.zero_le _) (fun h => ?_)
  refine cnb (P := fun r : List Nat × Bool => r.1.length ≤ 1000) (fun h => Nat.zero_le _) (fun h => ?_)
  refine cnb (P := fun r : List Nat × Bool => r.1.length ≤ 1000) (fun h => Nat.zero_le _) (fun h => ?_)
  refine cnb (P := fun r : List Nat × Bool => r.1.length ≤ 1000) (fun h => ?_) (fun h => Nat.zero_le _)
  exact Nat.le_trans (impl_atomBy_len _ _ _ _ _) o4
theorem impl_AtomList_full {c p : Int} {s z : Nat} (h : (p_impl_AtomList c p s z).2 = true) : (p_impl_AtomList c p s z).1.length = c.toNat := by
  rw [p_impl_AtomList_eq] at h ⊢
  revert h
  refine cnb (P := fun r : List Nat × Bool => r.2 = true → r.1.length = c.toNat) (fun h => fun h => by cases h) (fun hc => ?_)
  refine cnb (P := fun r : List Nat × Bool => r.2 = true → r.1.length = c.toNat) (fun h => fun h => by cases h) (fun hc => ?_)
  refine cnb (P := fun r : List Nat × Bool => r.2 = true → r.1.length = c.toNat) (fun h => fun h => by cases h) (fun hc => ?_)
  refine cnb (P := fun r : List Nat × Bool => r.2 = true → r.1.length = c.toNat) (fun h => fun h => by cases h) (fun hc => ?_)
  refine cnb (P := fun r : List Nat × Bool => r.2 = true → r.1.length = c.toNat) (fun h => fun _ => impl_atomBy_full _ _ _ _ _) (fun h => fun h => by cases h)
/-! impl_AtomList: function 13 -/
def E_impl_AtomList : Env := envOf [(54, S_impl_within), (55, S_impl_isScale), (56, S_impl_IsFinite), (57, S_impl_realKernel), (59, S_impl_atomBy), (58, S_impl_finiteList)]
def F_impl_AtomList : List Value → AHeap → (Value → AHeap → Prop) → Prop
  | [.int .i64 count, .agg ⟨[.int .i64 a_Place, .float .f32 a_Scale, .float .f32 a_Size]⟩], H, K => T_impl_AtomList count a_Place a_Scale a_Size H fun (r1_a : Option Addr) (r1_n : Nat) (r1_e : Nat) (r2 : Bool) (H' : AHeap) => K (.tuple #[.slice r1_a r1_n r1_e, .bool r2]) H'
  | _, _, _ => False
def S_impl_AtomList : FSpec := { F := F_impl_AtomList, quiet := false, tame := true }
theorem impl_AtomList_vc (count : Int) (a_Place : Int) (a_Scale : Nat) (a_Size : Nat) (H : AHeap) (K : Value → AHeap → Prop) : bodyK Try.prog E_impl_AtomList Try.f13 [.int .i64 count, .agg #[.int .i64 a_Place, .float .f32 a_Scale, .float .f32 a_Size]] H K =
  (Al [.int .i64 a_Place, .float .f32 a_Scale, .float .f32 a_Size] H fun b1 H1 => T_impl_within count 1 128 H1 fun (r1 : Bool) (H2 : AHeap) => Br (!r1) (K (.tuple #[.slice none 0 0, .bool false]) H2) (∃ x1 : Int,  rdC H2 b1 0 = some (.int .i64 x1) ∧ T_impl_within x1 0 (IntKind.wrap .i64 (count - 1)) H2 fun (r2 : Bool) (H3 : AHeap) => Br (!r2) (K (.tuple #[.slice none 0 0, .bool false]) H3) (∃ x2 : Nat,  rdC H3 b1 1 = some (.float .f32 x2) ∧ T_impl_isScale x2 H3 fun (r3 : Bool) (H4 : AHeap) => Br (!r3) (K (.tuple #[.slice none 0 0, .bool false]) H4) (∃ x3 : Nat,  rdC H4 b1 2 = some (.float .f32 x3) ∧ T_impl_IsFinite x3 H4 fun (r4 : Bool) (H5 : AHeap) => Br (!r4) (K (.tuple #[.slice none 0 0, .bool false]) H5) (∃ x4 : Nat,  rdC H5 b1 1 = some (.float .f32 x4) ∧ T_impl_realKernel x4 H5 fun (a1 : Option Addr) (r5 : Nat) (r6 : Nat) (r7 : Int) (H6 : AHeap) => ∃ x5 : Int,  rdC H6 b1 0 = some (.int .i64 x5) ∧ ∃ x6 : Nat,  rdC H6 b1 2 = some (.float .f32 x6) ∧ T_impl_atomBy a1 r5 r6 r7 count x5 x6 H6 fun (a2 : Option Addr) (r8 : Nat) (r9 : Nat) (H7 : AHeap) => T_impl_finiteList a2 r8 r9 H7 fun (a3 : Option Addr) (r10 : Nat) (r11 : Nat) (r12 : Bool) (H8 : AHeap) => K (.tuple #[.slice a3 r10 r11, .bool r12]) H8))))) := by kernel_rfl
theorem E_impl_AtomList_ok : ∀ g, FnOk Try.prog g (E_impl_AtomList g) := FnOk.envOf (by
  intro x hx
  simp only [List.mem_cons, List.not_mem_nil, or_false] at hx
  rcases hx with rfl | rfl | rfl | rfl | rfl | rfl
  · exact impl_within_ok
  · exact impl_isScale_ok
  · exact impl_IsFinite_ok
  · exact impl_realKernel_ok
  · exact impl_atomBy_ok
  · exact impl_finiteList_ok)
set_option maxHeartbeats 1000000 in
theorem impl_AtomList_main (count : Int) (a_Place : Int) (a_Scale : Nat) (a_Size : Nat) (H : AHeap) (K : Value → AHeap → Prop) (h : T_impl_AtomList count a_Place a_Scale a_Size H fun (r1_a : Option Addr) (r1_n : Nat) (r1_e : Nat) (r2 : Bool) (H' : AHeap) => K (.tuple #[.slice r1_a r1_n r1_e, .bool r2]) H') : bodyK Try.prog E_impl_AtomList Try.f13 [.int .i64 count, .agg #[.int .i64 a_Place, .float .f32 a_Scale, .float .f32 a_Size]] H K := by
  rw [impl_AtomList_vc]
  have hk := h
  unfold T_impl_AtomList at hk
  have e : (p_impl_AtomList count a_Place a_Scale a_Size) = _ := rfl
  have e := e.trans (p_impl_AtomList_eq count a_Place a_Scale a_Size)
  have g0 := Grow.refl H
  refine Al.intro (fun b_1 H_1 hb_2 hl_3 g_4 o_5 => ?_)
  have l_7 := g_4.1
  have g_8 := g0.trans g_4
  have l_9 := g_8.1
  have w_56 := o_5.lt
  refine T_impl_within_i ?_
  refine Br.intro (fun c_10 => ?_) (fun c_10 => ?_)
  · have e := e.trans (cond_t c_10)
    have c_10n := nf_of_t c_10
    rw [e] at hk
    exact hk _ _ _ H_1 g_8 o14
  · have e := e.trans (cond_f c_10)
    have c_10n := nt_of_f c_10
    have c_10n' := impl_within_t c_10n
    refine ⟨a_Place, (o_5.rdC _).trans rfl, ?_⟩
    rw [show IntKind.wrap .i64 (count - 1) = (count - 1) from wrap64 o4 o4]
    refine T_impl_within_i ?_
    refine Br.intro (fun c_11 => ?_) (fun c_11 => ?_)
    · have e := e.trans (cond_t c_11)
      have c_11n := nf_of_t c_11
      rw [e] at hk
      exact hk _ _ _ H_1 g_8 o14
    · have e := e.trans (cond_f c_11)
      have c_11n := nt_of_f c_11
      have c_11n' := impl_within_t c_11n
      refine ⟨a_Scale, (o_5.rdC _).trans rfl, ?_⟩
      refine T_impl_isScale_i ?_
      refine Br.intro (fun c_12 => ?_) (fun c_12 => ?_)
      · have e := e.trans (cond_t c_12)
        have c_12n := nf_of_t c_12
        rw [e] at hk
        exact hk _ _ _ H_1 g_8 o14
      · have e := e.trans (cond_f c_12)
        have c_12n := nt_of_f c_12
        refine ⟨a_Size, (o_5.rdC _).trans rfl, ?_⟩
        refine T_impl_IsFinite_i ?_
        refine Br.intro (fun c_13 => ?_) (fun c_13 => ?_)
        · have e := e.trans (cond_t c_13)
          have c_13n := nf_of_t c_13
          rw [e] at hk
          exact hk _ _ _ H_1 g_8 o14
        · have e := e.trans (cond_f c_13)
          have c_13n := nt_of_f c_13
          refine ⟨a_Scale, (o_5.rdC _).trans rfl, ?_⟩
          refine T_impl_realKernel_i ⟨o18, fun a_14 n_15 e_16 H_2 g_19 r_17 => ?_⟩
          have z_18 := impl_realKernel_len a_Scale o29
          have l_20 := g_19.1
          have g_21 := g_8.trans g_19
          have l_22 := g_21.1
          have o_23 := o_5.grow g_19
          have w_24 := o_23.lt
          obtain rfl := r_17.isL.eqn
          have u_25 := r_17.up
          have u_26 := r_17.lo
          refine ⟨a_Place, (o_23.rdC _).trans rfl, ?_⟩
          refine ⟨a_Size, (o_23.rdC _).trans rfl, ?_⟩
          refine T_impl_atomBy_i ⟨_, r_17.isL, o0, o18, o18, o18, o18, o18, o18, fun a_28 n_29 e_30 H_3 g_33 r_31 => ?_⟩
          have z_32 := impl_atomBy_full ((p_impl_realKernel a_Scale).1) ((p_impl_realKernel a_Scale).2) count a_Place a_Size
          have l_34 := g_33.1
          have g_35 := g_21.trans g_33
          have l_36 := g_35.1
          have o_37 := o_23.grow g_33
          have w_38 := o_37.lt
          have r_39 := r_17.grow g_33
          obtain rfl := r_31.isL.eqn
          have u_40 := r_31.up
          have u_41 := r_31.lo
          refine T_impl_finiteList_i ⟨_, r_31.isL, o0, (fun H_4 g_47 => ?_)⟩
          have l_49 := g_47.1
          have g_50 := g_35.trans g_47
          have l_51 := g_50.1
          have o_52 := o_37.grow g_47
          have w_53 := o_52.lt
          have r_54 := r_39.grow g_47
          have r_55 := r_31.grow g_47
          refine Br.intro (fun c_48 => ?_) (fun c_48 => ?_)
          · have e := e.trans (cond_t c_48)
            rw [e] at hk
            exact hk _ _ _ H_4 g_50 (r_55.weak o4)
          · have e := e.trans (cond_f c_48)
            rw [e] at hk
            exact hk _ _ _ H_4 g_50 o14
theorem impl_AtomList_ok : FnOk Try.prog 13 S_impl_AtomList := by
  refine FnOk.body mix_ok E_impl_AtomList_ok Try.func13 rfl (by kernel_rfl) (by kernel_rfl) ?_ ?_ ?_ ?_ ?_
  · intro args H K K' h hk
    simp only [S_impl_AtomList] at *
    unfold F_impl_AtomList at *
    split at hk
    · have k := hk
      exact fun r1_a r1_n r1_e H' gg ow0 => h _ _ (k r1_a r1_n r1_e H' gg ow0)
    · exact hk.elim
  · intro hq; cases hq
  · intro args H K hk
    simp only [S_impl_AtomList] at *
    unfold F_impl_AtomList at *
    split at hk
    · have k := hk
      exact liveS fun a n e H1 g o => ⟨_, _, k a n e H1 g o⟩
    · exact hk.elim
  · intro _ args H K hk
    simp only [S_impl_AtomList] at *
    unfold F_impl_AtomList at *
    split at hk
    · have k := hk
      exact fun r1_a r1_n r1_e H' gg ow0 => ⟨gg, k r1_a r1_n r1_e H' gg ow0⟩
    · exact hk.elim
  · have mm := @impl_AtomList_main
    revert mm
    generalize bodyK Try.prog E_impl_AtomList Try.f13 = Q
    intro mm args H K hk
    simp only [S_impl_AtomList] at *
    unfold F_impl_AtomList at *
    split at hk
    · exact mm _ _ _ _ H K hk
    · exact hk.elim

def p_impl_FromAtoms_l2 (count : Int) (l_atoms : List (Int × Nat × Nat)) (t5 : Bool) (t25 : Int) (y1_1 : List Nat) (k2_2 : Int → (List Nat) → ((List Nat) × Bool)) : Nat → Int → (List Nat) → (List Nat) × Bool
  | 0, _, _ => ([], false)
  | μ2 + 1, t39, y2_1 => (bif decide ((t39 : Int) < (((p_impl_AtomList count ((((l_atoms).getD (t25 : Int).toNat (0, 0, 0))).1) ((((l_atoms).getD (t25 : Int).toNat (0, 0, 0))).2.1) ((((l_atoms).getD (t25 : Int).toNat (0, 0, 0))).2.2)).1).length : Int)) then (p_impl_FromAtoms_l2 count l_atoms t5 t25 y1_1 k2_2 μ2 (t39 + 1) (((y2_1).set (t39 : Int).toNat ((fadd .f32 (((y2_1).getD (t39 : Int).toNat 0)) ((((p_impl_AtomList count ((((l_atoms).getD (t25 : Int).toNat (0, 0, 0))).1) ((((l_atoms).getD (t25 : Int).toNat (0, 0, 0))).2.1) ((((l_atoms).getD (t25 : Int).toNat (0, 0, 0))).2.2)).1).getD (t39 : Int).toNat 0))))))) else (k2_2 t39 y2_1))
def p_impl_FromAtoms_l2_s := fun count l_atoms t5 t25 y1_1 k2_2 μ2 t39 y2_1 => @p_impl_FromAtoms_l2.eq_2 count l_atoms t5 t25 y1_1 k2_2 t39 y2_1 μ2
def p_impl_FromAtoms_l1 (count : Int) (l_atoms : List (Int × Nat × Nat)) : Nat → Bool → Int → (List Nat) → (List Nat) × Bool
  | 0, _, _, _ => ([], false)
  | μ + 1, t5, t25, y1_1 => (bif decide ((t25 : Int) < (l_atoms.length : Int)) then (bif !((p_impl_AtomList count ((((l_atoms).getD (t25 : Int).toNat (0, 0, 0))).1) ((((l_atoms).getD (t25 : Int).toNat (0, 0, 0))).2.1) ((((l_atoms).getD (t25 : Int).toNat (0, 0, 0))).2.2)).2) then ([], false) else (p_impl_FromAtoms_l2 count l_atoms t5 t25 y1_1 (fun (t39 : Int) (y2_1 : List Nat) => (p_impl_FromAtoms_l1 count l_atoms μ t5 (t25 + 1) y2_1)) (Int.toNat ((((p_impl_AtomList count ((((l_atoms).getD (t25 : Int).toNat (0, 0, 0))).1) ((((l_atoms).getD (t25 : Int).toNat (0, 0, 0))).2.1) ((((l_atoms).getD (t25 : Int).toNat (0, 0, 0))).2.2)).1).length : Int) - (0 : Int)) + 1) (0 : Int) y1_1)) else (bif (p_impl_finiteList y1_1).2 then (y1_1, true) else ([], false)))
def p_impl_FromAtoms_l1_s := fun count l_atoms μ t5 t25 y1_1 => @p_impl_FromAtoms_l1.eq_2 count l_atoms t5 t25 y1_1 μ
def p_impl_FromAtoms (count : Int) (l_atoms : List (Int × Nat × Nat)) : (List Nat) × Bool := (bif !((p_impl_within count (1 : Int) (128 : Int))) then ([], false) else (bif decide ((16 : Int) < (l_atoms.length : Int)) then ([], false) else (p_impl_FromAtoms_l1 count l_atoms (Int.toNat ((l_atoms.length : Int) - (0 : Int)) + 1) false (0 : Int) (List.replicate ((count).toNat) 0))))
def p_impl_FromAtoms_eq := @p_impl_FromAtoms.eq_1
def T_impl_FromAtoms (count : Int) (atoms_a : Option Addr) (atoms_n : Nat) (atoms_e : Nat) (H : AHeap) (K : (Option Addr) → Nat → Nat → Bool → AHeap → Prop) : Prop := ∃ (l_atoms : List (Int × Nat × Nat)), IsT fA H atoms_a atoms_n l_atoms ∧ l_atoms.length < 1073741824 ∧ ((∀ (r1_a : Option Addr) (r1_n r1_e : Nat), ∀ H' : AHeap, Grow H H' → OwnS fF H' H.length r1_a r1_n r1_e ((p_impl_FromAtoms count l_atoms).1) → K r1_a r1_n r1_e ((p_impl_FromAtoms count l_atoms).2) H'))
theorem T_impl_FromAtoms_i {count : Int} {atoms_a : Option Addr} {atoms_n : Nat} {atoms_e : Nat} {H : AHeap} {K : (Option Addr) → Nat → Nat → Bool → AHeap → Prop} (h : ∃ (l_atoms : List (Int × Nat × Nat)), IsT fA H atoms_a atoms_n l_atoms ∧ l_atoms.length < 1073741824 ∧ ((∀ (r1_a : Option Addr) (r1_n r1_e : Nat), ∀ H' : AHeap, Grow H H' → OwnS fF H' H.length r1_a r1_n r1_e ((p_impl_FromAtoms count l_atoms).1) → K r1_a r1_n r1_e ((p_impl_FromAtoms count l_atoms).2) H'))) : T_impl_FromAtoms count atoms_a atoms_n atoms_e H K := h
theorem impl_FromAtoms_l2_len (c : Int) (l : List (Int × Nat × Nat)) (N : Nat) (t : Bool) (i : Int) (y : List Nat) (K : Int → List Nat → (List Nat × Bool)) (hK : ∀ j z, z.length ≤ N → (K j z).1.length ≤ N) : ∀ (μ : Nat) (j : Int) (z : List Nat), z.length ≤ N → (p_impl_FromAtoms_l2 c l t i y K μ j z).1.length ≤ N := by
  intro μ
  induction μ with
  | zero => intro j z h; exact Nat.zero_le _
  | succ μ ih =>
    intro j z h
    rw [p_impl_FromAtoms_l2_s]
    exact cnb (P := fun r : List Nat × Bool => r.1.length ≤ N) (fun _ => ih _ _ (by rw [List.length_set]; exact h)) (fun _ => hK _ _ h)
theorem impl_FromAtoms_l1_len (c : Int) (l : List (Int × Nat × Nat)) (N : Nat) : ∀ (μ : Nat) (t : Bool) (i : Int) (y : List Nat), y.length ≤ N → (p_impl_FromAtoms_l1 c l μ t i y).1.length ≤ N := by
  intro μ
  induction μ with
  | zero => intro t i y h; exact Nat.zero_le _
  | succ μ ih =>
    intro t i y h
    rw [p_impl_FromAtoms_l1_s]
    refine cnb (P := fun r : List Nat × Bool => r.1.length ≤ N) (fun _ => ?_) (fun _ => ?_)
    · refine cnb (P := fun r : List Nat × Bool => r.1.length ≤ N) (fun _ => Nat.zero_le _) (fun _ => ?_)
      exact impl_FromAtoms_l2_len c l N _ _ _ _ (fun j z hz => ih _ _ _ hz) _ _ _ h
    · exact cnb (P := fun r : List Nat × Bool => r.1.length ≤ N) (fun _ => h) (fun _ => Nat.zero_le _)
theorem impl_FromAtoms_len (c : Int) (l : List (Int × Nat × Nat)) : (p_impl_FromAtoms c l).1.length ≤ 1000 := by
  rw [p_impl_FromAtoms_eq]
  refine cnb (P := fun r : List Nat × Bool => r.1.length ≤ 1000) (fun _ => Nat.zero_le _) (fun hc => ?_)
  have hc := within_t (nt_of_f hc)
  refine cnb (P := fun r : List Nat × Bool => r.1.length ≤ 1000) (fun _ => Nat.zero_le _) (fun _ => ?_)
  exact impl_FromAtoms_l1_len c l 1000 _ _ _ _ (by rw [List.length_replicate]; omega)
/-! impl_FromAtoms: function 41 -/
def E_impl_FromAtoms : Env := envOf [(54, S_impl_within), (13, S_impl_AtomList), (58, S_impl_finiteList)]
def F_impl_FromAtoms : List Value → AHeap → (Value → AHeap → Prop) → Prop
  | [.int .i64 count, .slice atoms_a atoms_n atoms_e], H, K => T_impl_FromAtoms count atoms_a atoms_n atoms_e H fun (r1_a : Option Addr) (r1_n : Nat) (r1_e : Nat) (r2 : Bool) (H' : AHeap) => K (.tuple #[.slice r1_a r1_n r1_e, .bool r2]) H'
  | _, _, _ => False
def S_impl_FromAtoms : FSpec := { F := F_impl_FromAtoms, quiet := false, tame := true }
theorem impl_FromAtoms_vc (count : Int) (atoms_a : Option Addr) (atoms_n : Nat) (atoms_e : Nat) (H : AHeap) (K : Value → AHeap → Prop) : bodyK Try.prog E_impl_FromAtoms Try.f41 [.int .i64 count, .slice atoms_a atoms_n atoms_e] H K =
  (T_impl_within count 1 128 H fun (r1 : Bool) (H1 : AHeap) => Br (!r1) (K (.tuple #[.slice none 0 0, .bool false]) H1) (Br (decide ((16 : Int) < (atoms_n : Int))) (K (.tuple #[.slice none 0 0, .bool false]) H1) ((0 : Int) ≤ count ∧ count = count ∧ count < (most : Int) ∧ Al (zerosOf (.float .f32 0) (count).toNat) H1 fun b1 H2 => loopK (exK Try.prog E_impl_FromAtoms (cl (cl (cr (cl (cr (cr (cr (bodyC Try.f41))))))))) [.int .i64 count, .slice atoms_a atoms_n atoms_e, undef, undef, .slice none 0 0, .bool false, .slice (some ⟨b1, 0, none⟩) ((count).toNat) 1, undef, undef, undef, undef, undef, undef, .int .i64 count, .bool r1, .bool (!r1), .bool false, .slice atoms_a atoms_n atoms_e, .int .i64 (atoms_n : Int), .bool (decide ((16 : Int) < (atoms_n : Int))), .bool (decide ((16 : Int) < (atoms_n : Int))), .int .i64 count, .slice (some ⟨b1, 0, none⟩) ((count).toNat) 1, .slice atoms_a atoms_n atoms_e, .int .i64 (atoms_n : Int), .int .i64 0, undef, undef, undef, undef, undef, undef, undef, undef, undef, undef, undef, undef, undef, undef, undef, undef, undef, undef, undef, undef, undef, undef, undef, undef, undef, undef, undef, undef, undef, undef, undef] H2 (blockQ 0 (seqQ (exK Try.prog E_impl_FromAtoms (cr (cr (cr (cr (bodyC Try.f41)))))) (retK Try.prog Try.f41 K)))))) := by kernel_rfl
abbrev impl_FromAtoms_P1 (atoms_a : Option Addr) (atoms_e : Nat) (atoms_n : Nat) (b1 : Nat) (count : Int) (r1 : Bool) (t4_a : Option Addr) (t4_n : Nat) (t4_e : Nat) (t5 : Bool) (t25 : Int) (g8 g9 g10 g11 g12 g26 g27 g28 g29 g30 g31 g32 g33 g34 g35 g36 g37 g38 g39 g40 g41 g42 g43 g44 g45 g46 g47 g48 g49 g50 g51 g52 : Value) : List Value := [.int .i64 count, .slice atoms_a atoms_n atoms_e, undef, undef, .slice t4_a t4_n t4_e, .bool t5, .slice (some ⟨b1, 0, none⟩) ((count).toNat) 1, undef, g8, g9, g10, g11, g12, .int .i64 count, .bool r1, .bool (!r1), .bool false, .slice atoms_a atoms_n atoms_e, .int .i64 (atoms_n : Int), .bool (decide ((16 : Int) < (atoms_n : Int))), .bool (decide ((16 : Int) < (atoms_n : Int))), .int .i64 count, .slice (some ⟨b1, 0, none⟩) ((count).toNat) 1, .slice atoms_a atoms_n atoms_e, .int .i64 (atoms_n : Int), .int .i64 t25, g26, g27, g28, g29, g30, g31, g32, g33, g34, g35, g36, g37, g38, g39, g40, g41, g42, g43, g44, g45, g46, g47, g48, g49, g50, g51, g52, undef, undef, undef, undef]
theorem impl_FromAtoms_r1 (atoms_a : Option Addr) (atoms_e : Nat) (atoms_n : Nat) (b1 : Nat) (count : Int) (r1 : Bool) (t4_a : Option Addr) (t4_n : Nat) (t4_e : Nat) (t5 : Bool) (t25 : Int) (g8 g9 g10 g11 g12 g26 g27 g28 g29 g30 g31 g32 g33 g34 g35 g36 g37 g38 g39 g40 g41 g42 g43 g44 g45 g46 g47 g48 g49 g50 g51 g52 : Value) (H : AHeap) (R : Post) : exK Try.prog E_impl_FromAtoms (cl (cl (cr (cl (cr (cr (cr (bodyC Try.f41)))))))) (impl_FromAtoms_P1 atoms_a atoms_e atoms_n b1 count r1 t4_a t4_n t4_e t5 t25 g8 g9 g10 g11 g12 g26 g27 g28 g29 g30 g31 g32 g33 g34 g35 g36 g37 g38 g39 g40 g41 g42 g43 g44 g45 g46 g47 g48 g49 g50 g51 g52) H R =
  (Br (decide ((t25 : Int) < (atoms_n : Int))) ((0 : Int) ≤ t25 ∧ t25 < (atoms_n : Int) ∧ ∃ b2 f1, (atoms_a : Option Addr) = some ⟨b2, f1, none⟩ ∧ ∃ c1 : Int, ∃ c2 : Nat, ∃ c3 : Nat,  rdN H b2 (f1 + (t25 : Int).toNat * 3) 3 = some [.int .i64 c1, .float .f32 c2, .float .f32 c3] ∧ Al [.int .i64 0, .float .f32 0, .float .f32 0] H fun b3 H3 => isOwn H3 b3 ∧ (∃ l, rdN H3 b3 0 3 = some l) ∧ Lt (setN H3 b3 0 [.int .i64 c1, .float .f32 c2, .float .f32 c3]) fun H4 => ∃ c4 : Int, ∃ c5 : Nat, ∃ c6 : Nat,  rdN H4 b3 0 3 = some [.int .i64 c4, .float .f32 c5, .float .f32 c6] ∧ T_impl_AtomList count c4 c5 c6 H4 fun (a1 : Option Addr) (r2 : Nat) (r3 : Nat) (r4 : Bool) (H5 : AHeap) => Br (!r4) (R .ret [.int .i64 count, .slice atoms_a atoms_n atoms_e, undef, undef, .slice none 0 0, .bool false, .slice (some ⟨b1, 0, none⟩) ((count).toNat) 1, undef, .pointer (some ⟨b3, 0, none⟩), .slice a1 r2 r3, .bool r4, g11, g12, .int .i64 count, .bool r1, .bool (!r1), .bool false, .slice atoms_a atoms_n atoms_e, .int .i64 (atoms_n : Int), .bool (decide ((16 : Int) < (atoms_n : Int))), .bool (decide ((16 : Int) < (atoms_n : Int))), .int .i64 count, .slice (some ⟨b1, 0, none⟩) ((count).toNat) 1, .slice atoms_a atoms_n atoms_e, .int .i64 (atoms_n : Int), .int .i64 t25, .bool (decide ((t25 : Int) < (atoms_n : Int))), .pointer (some ⟨b2, f1 + (t25 : Int).toNat * 3, none⟩), .agg #[.int .i64 c1, .float .f32 c2, .float .f32 c3], .tuple #[.slice a1 r2 r3, .bool r4], .int .i64 count, .agg #[.int .i64 c4, .float .f32 c5, .float .f32 c6], .tuple #[.slice a1 r2 r3, .bool r4], .slice a1 r2 r3, .bool r4, .bool r4, .bool (!r4), g37, g38, g39, g40, g41, g42, g43, g44, g45, g46, g47, g48, g49, g50, g51, g52, undef, undef, undef, undef] H5) (loopK (exK Try.prog E_impl_FromAtoms (cl (cl (cr (cr (cr (cr (cl (cl (cr (cr (cl (cl (cr (cl (cr (cr (cr (bodyC Try.f41))))))))))))))))))) [.int .i64 count, .slice atoms_a atoms_n atoms_e, undef, undef, .slice t4_a t4_n t4_e, .bool t5, .slice (some ⟨b1, 0, none⟩) ((count).toNat) 1, undef, .pointer (some ⟨b3, 0, none⟩), .slice a1 r2 r3, .bool r4, g11, g12, .int .i64 count, .bool r1, .bool (!r1), .bool false, .slice atoms_a atoms_n atoms_e, .int .i64 (atoms_n : Int), .bool (decide ((16 : Int) < (atoms_n : Int))), .bool (decide ((16 : Int) < (atoms_n : Int))), .int .i64 count, .slice (some ⟨b1, 0, none⟩) ((count).toNat) 1, .slice atoms_a atoms_n atoms_e, .int .i64 (atoms_n : Int), .int .i64 t25, .bool (decide ((t25 : Int) < (atoms_n : Int))), .pointer (some ⟨b2, f1 + (t25 : Int).toNat * 3, none⟩), .agg #[.int .i64 c1, .float .f32 c2, .float .f32 c3], .tuple #[.slice a1 r2 r3, .bool r4], .int .i64 count, .agg #[.int .i64 c4, .float .f32 c5, .float .f32 c6], .tuple #[.slice a1 r2 r3, .bool r4], .slice a1 r2 r3, .bool r4, .bool r4, .bool (!r4), .slice a1 r2 r3, .int .i64 (r2 : Int), .int .i64 0, g40, g41, g42, g43, g44, g45, g46, g47, g48, g49, g50, g51, g52, undef, undef, undef, undef] H5 (blockQ 2 (blockQ 1 (seqQ (exK Try.prog E_impl_FromAtoms (cr (cr (cr (cl (cl (cr (cl (cr (cr (cr (bodyC Try.f41)))))))))))) (R)))))) (R (.exit 0) [.int .i64 count, .slice atoms_a atoms_n atoms_e, undef, undef, .slice t4_a t4_n t4_e, .bool t5, .slice (some ⟨b1, 0, none⟩) ((count).toNat) 1, undef, g8, g9, g10, g11, g12, .int .i64 count, .bool r1, .bool (!r1), .bool false, .slice atoms_a atoms_n atoms_e, .int .i64 (atoms_n : Int), .bool (decide ((16 : Int) < (atoms_n : Int))), .bool (decide ((16 : Int) < (atoms_n : Int))), .int .i64 count, .slice (some ⟨b1, 0, none⟩) ((count).toNat) 1, .slice atoms_a atoms_n atoms_e, .int .i64 (atoms_n : Int), .int .i64 t25, .bool (decide ((t25 : Int) < (atoms_n : Int))), g27, g28, g29, g30, g31, g32, g33, g34, g35, g36, g37, g38, g39, g40, g41, g42, g43, g44, g45, g46, g47, g48, g49, g50, g51, g52, undef, undef, undef, undef] H)) := by kernel_rfl
def impl_FromAtoms_I1 (atoms_a : Option Addr) (atoms_e : Nat) (atoms_n : Nat) (b1 : Nat) (count : Int) (r1 : Bool) (Inv : Nat → (Option Addr) → Nat → Nat → Bool → Int → AHeap → Prop) : Nat → List Value → AHeap → Prop := fun μ tm H => ∃ (t4_a : Option Addr), ∃ (t4_n : Nat), ∃ (t4_e : Nat), ∃ (t5 : Bool), ∃ (t25 : Int), ∃ g8 g9 g10 g11 g12 g26 g27 g28 g29 g30 g31 g32 g33 g34 g35 g36 g37 g38 g39 g40 g41 g42 g43 g44 g45 g46 g47 g48 g49 g50 g51 g52, tm = (impl_FromAtoms_P1 atoms_a atoms_e atoms_n b1 count r1 t4_a t4_n t4_e t5 t25 g8 g9 g10 g11 g12 g26 g27 g28 g29 g30 g31 g32 g33 g34 g35 g36 g37 g38 g39 g40 g41 g42 g43 g44 g45 g46 g47 g48 g49 g50 g51 g52) ∧ Inv μ t4_a t4_n t4_e t5 t25 H
theorem impl_FromAtoms_L1 (atoms_a : Option Addr) (atoms_e : Nat) (atoms_n : Nat) (b1 : Nat) (count : Int) (r1 : Bool) {Q : Post} (Inv : Nat → (Option Addr) → Nat → Nat → Bool → Int → AHeap → Prop) (ν : Nat) (t4_a : Option Addr) (t4_n : Nat) (t4_e : Nat) (t5 : Bool) (t25 : Int) (g8 g9 g10 g11 g12 g26 g27 g28 g29 g30 g31 g32 g33 g34 g35 g36 g37 g38 g39 g40 g41 g42 g43 g44 g45 g46 g47 g48 g49 g50 g51 g52 : Value) (H : AHeap) (h0 : Inv ν t4_a t4_n t4_e t5 t25 H)
    (hs : ∀ (μ : Nat) (t4_a : Option Addr) (t4_n : Nat) (t4_e : Nat) (t5 : Bool) (t25 : Int) (g8 g9 g10 g11 g12 g26 g27 g28 g29 g30 g31 g32 g33 g34 g35 g36 g37 g38 g39 g40 g41 g42 g43 g44 g45 g46 g47 g48 g49 g50 g51 g52 : Value) (H : AHeap), Inv μ t4_a t4_n t4_e t5 t25 H → exK Try.prog E_impl_FromAtoms (cl (cl (cr (cl (cr (cr (cr (bodyC Try.f41)))))))) (impl_FromAtoms_P1 atoms_a atoms_e atoms_n b1 count r1 t4_a t4_n t4_e t5 t25 g8 g9 g10 g11 g12 g26 g27 g28 g29 g30 g31 g32 g33 g34 g35 g36 g37 g38 g39 g40 g41 g42 g43 g44 g45 g46 g47 g48 g49 g50 g51 g52) H (loopQ (impl_FromAtoms_I1 atoms_a atoms_e atoms_n b1 count r1 Inv) μ Q)) : loopK (exK Try.prog E_impl_FromAtoms (cl (cl (cr (cl (cr (cr (cr (bodyC Try.f41))))))))) (impl_FromAtoms_P1 atoms_a atoms_e atoms_n b1 count r1 t4_a t4_n t4_e t5 t25 g8 g9 g10 g11 g12 g26 g27 g28 g29 g30 g31 g32 g33 g34 g35 g36 g37 g38 g39 g40 g41 g42 g43 g44 g45 g46 g47 g48 g49 g50 g51 g52) H Q :=
  ⟨impl_FromAtoms_I1 atoms_a atoms_e atoms_n b1 count r1 Inv, ν, ⟨t4_a, t4_n, t4_e, t5, t25, g8, g9, g10, g11, g12, g26, g27, g28, g29, g30, g31, g32, g33, g34, g35, g36, g37, g38, g39, g40, g41, g42, g43, g44, g45, g46, g47, g48, g49, g50, g51, g52, rfl, h0⟩, fun μ tm H h => by obtain ⟨t4_a, t4_n, t4_e, t5, t25, g8, g9, g10, g11, g12, g26, g27, g28, g29, g30, g31, g32, g33, g34, g35, g36, g37, g38, g39, g40, g41, g42, g43, g44, g45, g46, g47, g48, g49, g50, g51, g52, rfl, hI⟩ := h; exact hs μ t4_a t4_n t4_e t5 t25 g8 g9 g10 g11 g12 g26 g27 g28 g29 g30 g31 g32 g33 g34 g35 g36 g37 g38 g39 g40 g41 g42 g43 g44 g45 g46 g47 g48 g49 g50 g51 g52 H hI⟩
theorem impl_FromAtoms_n1 {atoms_a : Option Addr} {atoms_e : Nat} {atoms_n : Nat} {b1 : Nat} {count : Int} {r1 : Bool} {Q : Post} {Inv : Nat → (Option Addr) → Nat → Nat → Bool → Int → AHeap → Prop} {μ : Nat} (μ' : Nat) {t4_a : Option Addr} {t4_n : Nat} {t4_e : Nat} {t5 : Bool} {t25 : Int} {g8 g9 g10 g11 g12 g26 g27 g28 g29 g30 g31 g32 g33 g34 g35 g36 g37 g38 g39 g40 g41 g42 g43 g44 g45 g46 g47 g48 g49 g50 g51 g52 : Value} {H : AHeap} (hm : μ' < μ) (hI : Inv μ' t4_a t4_n t4_e t5 t25 H) : loopQ (impl_FromAtoms_I1 atoms_a atoms_e atoms_n b1 count r1 Inv) μ Q .normal (impl_FromAtoms_P1 atoms_a atoms_e atoms_n b1 count r1 t4_a t4_n t4_e t5 t25 g8 g9 g10 g11 g12 g26 g27 g28 g29 g30 g31 g32 g33 g34 g35 g36 g37 g38 g39 g40 g41 g42 g43 g44 g45 g46 g47 g48 g49 g50 g51 g52) H := ⟨μ', hm, t4_a, t4_n, t4_e, t5, t25, g8, g9, g10, g11, g12, g26, g27, g28, g29, g30, g31, g32, g33, g34, g35, g36, g37, g38, g39, g40, g41, g42, g43, g44, g45, g46, g47, g48, g49, g50, g51, g52, rfl, hI⟩
theorem impl_FromAtoms_x1_0 (atoms_a : Option Addr) (atoms_e : Nat) (atoms_n : Nat) (b1 : Nat) (count : Int) (r1 : Bool) (t4_a : Option Addr) (t4_n : Nat) (t4_e : Nat) (t5 : Bool) (t25 : Int) (g8 g9 g10 g11 g12 g26 g27 g28 g29 g30 g31 g32 g33 g34 g35 g36 g37 g38 g39 g40 g41 g42 g43 g44 g45 g46 g47 g48 g49 g50 g51 g52 : Value) (H : AHeap) (K : Value → AHeap → Prop)  {I : Nat → List Value → AHeap → Prop} {μ : Nat} : loopQ I μ (blockQ 0 (seqQ (exK Try.prog E_impl_FromAtoms (cr (cr (cr (cr (bodyC Try.f41)))))) (retK Try.prog Try.f41 K))) (.exit 0) (impl_FromAtoms_P1 atoms_a atoms_e atoms_n b1 count r1 t4_a t4_n t4_e t5 t25 g8 g9 g10 g11 g12 g26 g27 g28 g29 g30 g31 g32 g33 g34 g35 g36 g37 g38 g39 g40 g41 g42 g43 g44 g45 g46 g47 g48 g49 g50 g51 g52) H =
  (T_impl_finiteList (some ⟨b1, 0, none⟩) ((count).toNat) 1 H fun (a2 : Option Addr) (r5 : Nat) (r6 : Nat) (r7 : Bool) (H7 : AHeap) => K (.tuple #[.slice a2 r5 r6, .bool r7]) H7) := by kernel_rfl
theorem impl_FromAtoms_x1_ret (atoms_a : Option Addr) (atoms_e : Nat) (atoms_n : Nat) (b1 : Nat) (count : Int) (r1 : Bool) (t4_a : Option Addr) (t4_n : Nat) (t4_e : Nat) (t5 : Bool) (t25 : Int) (g8 g9 g10 g11 g12 g26 g27 g28 g29 g30 g31 g32 g33 g34 g35 g36 g37 g38 g39 g40 g41 g42 g43 g44 g45 g46 g47 g48 g49 g50 g51 g52 : Value) (H : AHeap) (K : Value → AHeap → Prop)  {I : Nat → List Value → AHeap → Prop} {μ : Nat} : loopQ I μ (blockQ 0 (seqQ (exK Try.prog E_impl_FromAtoms (cr (cr (cr (cr (bodyC Try.f41)))))) (retK Try.prog Try.f41 K))) .ret (impl_FromAtoms_P1 atoms_a atoms_e atoms_n b1 count r1 t4_a t4_n t4_e t5 t25 g8 g9 g10 g11 g12 g26 g27 g28 g29 g30 g31 g32 g33 g34 g35 g36 g37 g38 g39 g40 g41 g42 g43 g44 g45 g46 g47 g48 g49 g50 g51 g52) H =
  (K (.tuple #[.slice t4_a t4_n t4_e, .bool t5]) H) := by kernel_rfl
abbrev impl_FromAtoms_P2 (a1 : Option Addr) (atoms_a : Option Addr) (atoms_e : Nat) (atoms_n : Nat) (b1 : Nat) (b2 : Nat) (b3 : Nat) (c1 : Int) (c2 : Nat) (c3 : Nat) (c4 : Int) (c5 : Nat) (c6 : Nat) (count : Int) (f1 : Nat) (g52 : Value) (r1 : Bool) (r2 : Nat) (r3 : Nat) (r4 : Bool) (t25 : Int) (t4_a : Option Addr) (t4_e : Nat) (t4_n : Nat) (t5 : Bool) (t39 : Int) (g11 g12 g40 g41 g42 g43 g44 g45 g46 g47 g48 g49 g50 g51 : Value) : List Value := [.int .i64 count, .slice atoms_a atoms_n atoms_e, undef, undef, .slice t4_a t4_n t4_e, .bool t5, .slice (some ⟨b1, 0, none⟩) ((count).toNat) 1, undef, .pointer (some ⟨b3, 0, none⟩), .slice a1 r2 r3, .bool r4, g11, g12, .int .i64 count, .bool r1, .bool (!r1), .bool false, .slice atoms_a atoms_n atoms_e, .int .i64 (atoms_n : Int), .bool (decide ((16 : Int) < (atoms_n : Int))), .bool (decide ((16 : Int) < (atoms_n : Int))), .int .i64 count, .slice (some ⟨b1, 0, none⟩) ((count).toNat) 1, .slice atoms_a atoms_n atoms_e, .int .i64 (atoms_n : Int), .int .i64 t25, .bool (decide ((t25 : Int) < (atoms_n : Int))), .pointer (some ⟨b2, f1 + (t25 : Int).toNat * 3, none⟩), .agg #[.int .i64 c1, .float .f32 c2, .float .f32 c3], .tuple #[.slice a1 r2 r3, .bool r4], .int .i64 count, .agg #[.int .i64 c4, .float .f32 c5, .float .f32 c6], .tuple #[.slice a1 r2 r3, .bool r4], .slice a1 r2 r3, .bool r4, .bool r4, .bool (!r4), .slice a1 r2 r3, .int .i64 (r2 : Int), .int .i64 t39, g40, g41, g42, g43, g44, g45, g46, g47, g48, g49, g50, g51, g52, undef, undef, undef, undef]
theorem impl_FromAtoms_r2 (a1 : Option Addr) (atoms_a : Option Addr) (atoms_e : Nat) (atoms_n : Nat) (b1 : Nat) (b2 : Nat) (b3 : Nat) (c1 : Int) (c2 : Nat) (c3 : Nat) (c4 : Int) (c5 : Nat) (c6 : Nat) (count : Int) (f1 : Nat) (g52 : Value) (r1 : Bool) (r2 : Nat) (r3 : Nat) (r4 : Bool) (t25 : Int) (t4_a : Option Addr) (t4_e : Nat) (t4_n : Nat) (t5 : Bool) (t39 : Int) (g11 g12 g40 g41 g42 g43 g44 g45 g46 g47 g48 g49 g50 g51 : Value) (H : AHeap) (R : Post) : exK Try.prog E_impl_FromAtoms (cl (cl (cr (cr (cr (cr (cl (cl (cr (cr (cl (cl (cr (cl (cr (cr (cr (bodyC Try.f41)))))))))))))))))) (impl_FromAtoms_P2 a1 atoms_a atoms_e atoms_n b1 b2 b3 c1 c2 c3 c4 c5 c6 count f1 g52 r1 r2 r3 r4 t25 t4_a t4_e t4_n t5 t39 g11 g12 g40 g41 g42 g43 g44 g45 g46 g47 g48 g49 g50 g51) H R =
  (Br (decide ((t39 : Int) < (r2 : Int))) ((0 : Int) ≤ t39 ∧ t39 < (r2 : Int) ∧ ∃ b4 f2, (a1 : Option Addr) = some ⟨b4, f2, none⟩ ∧ ∃ x1 : Nat,  rdC H b4 (f2 + (t39 : Int).toNat * 1) = some (.float .f32 x1) ∧ (0 : Int) ≤ t39 ∧ t39 < ((count).toNat : Int) ∧ ∃ b5 f3, (some ⟨b1, 0, none⟩ : Option Addr) = some ⟨b5, f3, none⟩ ∧ ∃ x2 : Nat,  rdC H b5 (f3 + (t39 : Int).toNat * 1) = some (.float .f32 x2) ∧ (0 : Int) ≤ t39 ∧ t39 < ((count).toNat : Int) ∧ ∃ b6 f4, (some ⟨b1, 0, none⟩ : Option Addr) = some ⟨b6, f4, none⟩ ∧ isOwn H b6 ∧ (∃ l, rdN H b6 (f4 + (t39 : Int).toNat * 1) 1 = some l) ∧ Lt (setC H b6 (f4 + (t39 : Int).toNat * 1) (.float .f32 (fadd .f32 x2 x1))) fun H6 => R .normal [.int .i64 count, .slice atoms_a atoms_n atoms_e, undef, undef, .slice t4_a t4_n t4_e, .bool t5, .slice (some ⟨b1, 0, none⟩) ((count).toNat) 1, undef, .pointer (some ⟨b3, 0, none⟩), .slice a1 r2 r3, .bool r4, .int .i64 t39, .float .f32 x1, .int .i64 count, .bool r1, .bool (!r1), .bool false, .slice atoms_a atoms_n atoms_e, .int .i64 (atoms_n : Int), .bool (decide ((16 : Int) < (atoms_n : Int))), .bool (decide ((16 : Int) < (atoms_n : Int))), .int .i64 count, .slice (some ⟨b1, 0, none⟩) ((count).toNat) 1, .slice atoms_a atoms_n atoms_e, .int .i64 (atoms_n : Int), .int .i64 t25, .bool (decide ((t25 : Int) < (atoms_n : Int))), .pointer (some ⟨b2, f1 + (t25 : Int).toNat * 3, none⟩), .agg #[.int .i64 c1, .float .f32 c2, .float .f32 c3], .tuple #[.slice a1 r2 r3, .bool r4], .int .i64 count, .agg #[.int .i64 c4, .float .f32 c5, .float .f32 c6], .tuple #[.slice a1 r2 r3, .bool r4], .slice a1 r2 r3, .bool r4, .bool r4, .bool (!r4), .slice a1 r2 r3, .int .i64 (r2 : Int), .int .i64 (IntKind.wrap .i64 (t39 + 1)), .bool (decide ((t39 : Int) < (r2 : Int))), .int .i64 t39, .pointer (some ⟨b4, f2 + (t39 : Int).toNat * 1, none⟩), .float .f32 x1, .slice (some ⟨b1, 0, none⟩) ((count).toNat) 1, .int .i64 t39, .pointer (some ⟨b5, f3 + (t39 : Int).toNat * 1, none⟩), .float .f32 x2, .float .f32 x1, .float .f32 (fadd .f32 x2 x1), .pointer (some ⟨b6, f4 + (t39 : Int).toNat * 1, none⟩), .int .i64 (IntKind.wrap .i64 (t39 + 1)), g52, undef, undef, undef, undef] H6) (R (.exit 2) [.int .i64 count, .slice atoms_a atoms_n atoms_e, undef, undef, .slice t4_a t4_n t4_e, .bool t5, .slice (some ⟨b1, 0, none⟩) ((count).toNat) 1, undef, .pointer (some ⟨b3, 0, none⟩), .slice a1 r2 r3, .bool r4, g11, g12, .int .i64 count, .bool r1, .bool (!r1), .bool false, .slice atoms_a atoms_n atoms_e, .int .i64 (atoms_n : Int), .bool (decide ((16 : Int) < (atoms_n : Int))), .bool (decide ((16 : Int) < (atoms_n : Int))), .int .i64 count, .slice (some ⟨b1, 0, none⟩) ((count).toNat) 1, .slice atoms_a atoms_n atoms_e, .int .i64 (atoms_n : Int), .int .i64 t25, .bool (decide ((t25 : Int) < (atoms_n : Int))), .pointer (some ⟨b2, f1 + (t25 : Int).toNat * 3, none⟩), .agg #[.int .i64 c1, .float .f32 c2, .float .f32 c3], .tuple #[.slice a1 r2 r3, .bool r4], .int .i64 count, .agg #[.int .i64 c4, .float .f32 c5, .float .f32 c6], .tuple #[.slice a1 r2 r3, .bool r4], .slice a1 r2 r3, .bool r4, .bool r4, .bool (!r4), .slice a1 r2 r3, .int .i64 (r2 : Int), .int .i64 t39, .bool (decide ((t39 : Int) < (r2 : Int))), g41, g42, g43, g44, g45, g46, g47, g48, g49, g50, g51, g52, undef, undef, undef, undef] H)) := by kernel_rfl
def impl_FromAtoms_I2 (a1 : Option Addr) (atoms_a : Option Addr) (atoms_e : Nat) (atoms_n : Nat) (b1 : Nat) (b2 : Nat) (b3 : Nat) (c1 : Int) (c2 : Nat) (c3 : Nat) (c4 : Int) (c5 : Nat) (c6 : Nat) (count : Int) (f1 : Nat) (g52 : Value) (r1 : Bool) (r2 : Nat) (r3 : Nat) (r4 : Bool) (t25 : Int) (t4_a : Option Addr) (t4_e : Nat) (t4_n : Nat) (t5 : Bool) (Inv : Nat → Int → AHeap → Prop) : Nat → List Value → AHeap → Prop := fun μ tm H => ∃ (t39 : Int), ∃ g11 g12 g40 g41 g42 g43 g44 g45 g46 g47 g48 g49 g50 g51, tm = (impl_FromAtoms_P2 a1 atoms_a atoms_e atoms_n b1 b2 b3 c1 c2 c3 c4 c5 c6 count f1 g52 r1 r2 r3 r4 t25 t4_a t4_e t4_n t5 t39 g11 g12 g40 g41 g42 g43 g44 g45 g46 g47 g48 g49 g50 g51) ∧ Inv μ t39 H
theorem impl_FromAtoms_L2 (a1 : Option Addr) (atoms_a : Option Addr) (atoms_e : Nat) (atoms_n : Nat) (b1 : Nat) (b2 : Nat) (b3 : Nat) (c1 : Int) (c2 : Nat) (c3 : Nat) (c4 : Int) (c5 : Nat) (c6 : Nat) (count : Int) (f1 : Nat) (g52 : Value) (r1 : Bool) (r2 : Nat) (r3 : Nat) (r4 : Bool) (t25 : Int) (t4_a : Option Addr) (t4_e : Nat) (t4_n : Nat) (t5 : Bool) {Q : Post} (Inv : Nat → Int → AHeap → Prop) (ν : Nat) (t39 : Int) (g11 g12 g40 g41 g42 g43 g44 g45 g46 g47 g48 g49 g50 g51 : Value) (H : AHeap) (h0 : Inv ν t39 H)
    (hs : ∀ (μ : Nat) (t39 : Int) (g11 g12 g40 g41 g42 g43 g44 g45 g46 g47 g48 g49 g50 g51 : Value) (H : AHeap), Inv μ t39 H → exK Try.prog E_impl_FromAtoms (cl (cl (cr (cr (cr (cr (cl (cl (cr (cr (cl (cl (cr (cl (cr (cr (cr (bodyC Try.f41)))))))))))))))))) (impl_FromAtoms_P2 a1 atoms_a atoms_e atoms_n b1 b2 b3 c1 c2 c3 c4 c5 c6 count f1 g52 r1 r2 r3 r4 t25 t4_a t4_e t4_n t5 t39 g11 g12 g40 g41 g42 g43 g44 g45 g46 g47 g48 g49 g50 g51) H (loopQ (impl_FromAtoms_I2 a1 atoms_a atoms_e atoms_n b1 b2 b3 c1 c2 c3 c4 c5 c6 count f1 g52 r1 r2 r3 r4 t25 t4_a t4_e t4_n t5 Inv) μ Q)) : loopK (exK Try.prog E_impl_FromAtoms (cl (cl (cr (cr (cr (cr (cl (cl (cr (cr (cl (cl (cr (cl (cr (cr (cr (bodyC Try.f41))))))))))))))))))) (impl_FromAtoms_P2 a1 atoms_a atoms_e atoms_n b1 b2 b3 c1 c2 c3 c4 c5 c6 count f1 g52 r1 r2 r3 r4 t25 t4_a t4_e t4_n t5 t39 g11 g12 g40 g41 g42 g43 g44 g45 g46 g47 g48 g49 g50 g51) H Q :=
  ⟨impl_FromAtoms_I2 a1 atoms_a atoms_e atoms_n b1 b2 b3 c1 c2 c3 c4 c5 c6 count f1 g52 r1 r2 r3 r4 t25 t4_a t4_e t4_n t5 Inv, ν, ⟨t39, g11, g12, g40, g41, g42, g43, g44, g45, g46, g47, g48, g49, g50, g51, rfl, h0⟩, fun μ tm H h => by obtain ⟨t39, g11, g12, g40, g41, g42, g43, g44, g45, g46, g47, g48, g49, g50, g51, rfl, hI⟩ := h; exact hs μ t39 g11 g12 g40 g41 g42 g43 g44 g45 g46 g47 g48 g49 g50 g51 H hI⟩
theorem impl_FromAtoms_n2 {a1 : Option Addr} {atoms_a : Option Addr} {atoms_e : Nat} {atoms_n : Nat} {b1 : Nat} {b2 : Nat} {b3 : Nat} {c1 : Int} {c2 : Nat} {c3 : Nat} {c4 : Int} {c5 : Nat} {c6 : Nat} {count : Int} {f1 : Nat} {g52 : Value} {r1 : Bool} {r2 : Nat} {r3 : Nat} {r4 : Bool} {t25 : Int} {t4_a : Option Addr} {t4_e : Nat} {t4_n : Nat} {t5 : Bool} {Q : Post} {Inv : Nat → Int → AHeap → Prop} {μ : Nat} (μ' : Nat) {t39 : Int} {g11 g12 g40 g41 g42 g43 g44 g45 g46 g47 g48 g49 g50 g51 : Value} {H : AHeap} (hm : μ' < μ) (hI : Inv μ' t39 H) : loopQ (impl_FromAtoms_I2 a1 atoms_a atoms_e atoms_n b1 b2 b3 c1 c2 c3 c4 c5 c6 count f1 g52 r1 r2 r3 r4 t25 t4_a t4_e t4_n t5 Inv) μ Q .normal (impl_FromAtoms_P2 a1 atoms_a atoms_e atoms_n b1 b2 b3 c1 c2 c3 c4 c5 c6 count f1 g52 r1 r2 r3 r4 t25 t4_a t4_e t4_n t5 t39 g11 g12 g40 g41 g42 g43 g44 g45 g46 g47 g48 g49 g50 g51) H := ⟨μ', hm, t39, g11, g12, g40, g41, g42, g43, g44, g45, g46, g47, g48, g49, g50, g51, rfl, hI⟩
theorem impl_FromAtoms_x2_2 (a1 : Option Addr) (atoms_a : Option Addr) (atoms_e : Nat) (atoms_n : Nat) (b1 : Nat) (b2 : Nat) (b3 : Nat) (c1 : Int) (c2 : Nat) (c3 : Nat) (c4 : Int) (c5 : Nat) (c6 : Nat) (count : Int) (f1 : Nat) (g52 : Value) (r1 : Bool) (r2 : Nat) (r3 : Nat) (r4 : Bool) (t25 : Int) (t4_a : Option Addr) (t4_e : Nat) (t4_n : Nat) (t5 : Bool) (t39 : Int) (g11 g12 g40 g41 g42 g43 g44 g45 g46 g47 g48 g49 g50 g51 : Value) (H : AHeap)  (R : Post) {I : Nat → List Value → AHeap → Prop} {μ : Nat} : loopQ I μ (blockQ 2 (blockQ 1 (seqQ (exK Try.prog E_impl_FromAtoms (cr (cr (cr (cl (cl (cr (cl (cr (cr (cr (bodyC Try.f41)))))))))))) (R)))) (.exit 2) (impl_FromAtoms_P2 a1 atoms_a atoms_e atoms_n b1 b2 b3 c1 c2 c3 c4 c5 c6 count f1 g52 r1 r2 r3 r4 t25 t4_a t4_e t4_n t5 t39 g11 g12 g40 g41 g42 g43 g44 g45 g46 g47 g48 g49 g50 g51) H =
  (R .normal [.int .i64 count, .slice atoms_a atoms_n atoms_e, undef, undef, .slice t4_a t4_n t4_e, .bool t5, .slice (some ⟨b1, 0, none⟩) ((count).toNat) 1, undef, .pointer (some ⟨b3, 0, none⟩), .slice a1 r2 r3, .bool r4, g11, g12, .int .i64 count, .bool r1, .bool (!r1), .bool false, .slice atoms_a atoms_n atoms_e, .int .i64 (atoms_n : Int), .bool (decide ((16 : Int) < (atoms_n : Int))), .bool (decide ((16 : Int) < (atoms_n : Int))), .int .i64 count, .slice (some ⟨b1, 0, none⟩) ((count).toNat) 1, .slice atoms_a atoms_n atoms_e, .int .i64 (atoms_n : Int), .int .i64 (IntKind.wrap .i64 (t25 + 1)), .bool (decide ((t25 : Int) < (atoms_n : Int))), .pointer (some ⟨b2, f1 + (t25 : Int).toNat * 3, none⟩), .agg #[.int .i64 c1, .float .f32 c2, .float .f32 c3], .tuple #[.slice a1 r2 r3, .bool r4], .int .i64 count, .agg #[.int .i64 c4, .float .f32 c5, .float .f32 c6], .tuple #[.slice a1 r2 r3, .bool r4], .slice a1 r2 r3, .bool r4, .bool r4, .bool (!r4), .slice a1 r2 r3, .int .i64 (r2 : Int), .int .i64 t39, g40, g41, g42, g43, g44, g45, g46, g47, g48, g49, g50, g51, .int .i64 (IntKind.wrap .i64 (t25 + 1)), undef, undef, undef, undef] H) := by kernel_rfl
theorem E_impl_FromAtoms_ok : ∀ g, FnOk Try.prog g (E_impl_FromAtoms g) := FnOk.envOf (by
  intro x hx
  simp only [List.mem_cons, List.not_mem_nil, or_false] at hx
  rcases hx with rfl | rfl | rfl
  · exact impl_within_ok
  · exact impl_AtomList_ok
  · exact impl_finiteList_ok)
set_option maxHeartbeats 1000000 in
theorem impl_FromAtoms_main (count : Int) (atoms_a : Option Addr) (atoms_n : Nat) (atoms_e : Nat) (H : AHeap) (K : Value → AHeap → Prop) (h : T_impl_FromAtoms count atoms_a atoms_n atoms_e H fun (r1_a : Option Addr) (r1_n : Nat) (r1_e : Nat) (r2 : Bool) (H' : AHeap) => K (.tuple #[.slice r1_a r1_n r1_e, .bool r2]) H') : bodyK Try.prog E_impl_FromAtoms Try.f41 [.int .i64 count, .slice atoms_a atoms_n atoms_e] H K := by
  rw [impl_FromAtoms_vc]
  obtain ⟨l_atoms, i_atoms, bd_99, hk⟩ := h
  obtain rfl := i_atoms.eqn
  have e : (p_impl_FromAtoms count l_atoms) = _ := rfl
  have e := e.trans (p_impl_FromAtoms_eq count l_atoms)
  have g0 := Grow.refl H
  refine T_impl_within_i ?_
  refine Br.intro (fun c_1 => ?_) (fun c_1 => ?_)
  · have e := e.trans (cond_t c_1)
    have c_1n := nf_of_t c_1
    rw [e] at hk
    exact hk _ _ _ H g0 o14
  · have e := e.trans (cond_f c_1)
    have c_1n := nt_of_f c_1
    have c_1n' := impl_within_t c_1n
    refine Br.intro (fun c_2 => ?_) (fun c_2 => ?_)
    · have e := e.trans (cond_t c_2)
      have c_2' := of_decide_eq_true c_2
      rw [e] at hk
      exact hk _ _ _ H g0 o14
    · have e := e.trans (cond_f c_2)
      have c_2' := of_decide_eq_false c_2
      refine ⟨by omega, rfl, o24, ?_⟩
      refine Al.intro (fun b_3 H_1 hb_4 hl_5 g_6 o_7 => ?_)
      rw [zeros_map fF 0 _ rfl] at o_7
      have l_9 := g_6.1
      have g_10 := g0.trans g_6
      have l_11 := g_10.1
      have w_98 := o_7.lt
      refine impl_FromAtoms_L1 _ _ _ _ _ _ (fun (μ : Nat) (t4_a : Option Addr) (t4_n : Nat) (t4_e : Nat) (t5 : Bool) (t25 : Int) (H_2 : AHeap) => ∃ (y1_1 : List Nat), t4_a = none ∧ t4_n = 0 ∧ t4_e = 0 ∧ Own H_2 b_3 (y1_1.map fF) ∧ y1_1.length = (count).toNat ∧ Grow H H_2 ∧ (0 : Int) ≤ t25 ∧ t25 ≤ (l_atoms.length : Int) ∧ (l_atoms.length : Int) - t25 ≤ (μ : Int) ∧ p_impl_FromAtoms count l_atoms = p_impl_FromAtoms_l1 count l_atoms (μ + 1) t5 t25 y1_1) (Int.toNat ((l_atoms.length : Int) - (0 : Int))) _ _ _ _ _ _ _ _ _ _ _ _ _ _ _ _ _ _ _ _ _ _ _ _ _ _ _ _ _ _ _ _ _ _ _ _ _ H_1 ?_ ?_
      · exact ⟨_, rfl, rfl, rfl, o_7, o20, g_10, o5, o5, o4, e⟩
      · intro μ t4_a t4_n t4_e t5 t25 g8 g9 g10 g11 g12 g26 g27 g28 g29 g30 g31 g32 g33 g34 g35 g36 g37 g38 g39 g40 g41 g42 g43 g44 g45 g46 g47 g48 g49 g50 g51 g52 H_2 hI
        obtain ⟨y1_1, rfl, rfl, rfl, o_12, y_13, g_14, v_15, v_16, hμ, e⟩ := hI
        rw [impl_FromAtoms_r1]
        have e := e.trans (p_impl_FromAtoms_l1_s count l_atoms μ t5 t25 y1_1)
        have w_17 := o_12.lt
        have l_18 := g_14.1
        refine Br.intro (fun c_19 => ?_) (fun c_19 => ?_)
        · have e := e.trans (cond_t c_19)
          have c_19' := of_decide_eq_true c_19
          obtain ⟨b_20, f_21, q_22⟩ := ((i_atoms.grow g_14)).pos o0
          refine ⟨by omega, by omega, b_20, f_21, q_22, ?_⟩
          refine ⟨(((l_atoms).getD (t25 : Int).toNat (0, 0, 0))).1, (((l_atoms).getD (t25 : Int).toNat (0, 0, 0))).2.1, (((l_atoms).getD (t25 : Int).toNat (0, 0, 0))).2.2, (i_atoms).rdN g_14 q_22 o4 _, ?_⟩
          refine Al.intro (fun b_23 H_3 hb_24 hl_25 g_26 o_27 => ?_)
          have l_29 := g_26.1
          have g_30 := g_14.trans g_26
          have l_31 := g_30.1
          have o_32 := o_12.grow g_26
          have w_33 := o_32.lt
          have w_86 := o_27.lt
          refine Lt.setN (n := 3) o_27 (Nat.le_of_ble_eq_true rfl) rfl (fun H_4 hl_34 o_36 k_35 => ?_)
          have o_36 : Own H_4 b_23 [.int .i64 ((((l_atoms).getD (t25 : Int).toNat (0, 0, 0))).1), .float .f32 ((((l_atoms).getD (t25 : Int).toNat (0, 0, 0))).2.1), .float .f32 ((((l_atoms).getD (t25 : Int).toNat (0, 0, 0))).2.2)] := o_36
          have l_37 := k_35.1
          have g_38 := g_30.keep (b := b_23) o4 k_35
          have l_39 := g_38.1
          have o_40 := o_32.keep o4 k_35
          have w_41 := o_40.lt
          have w_85 := o_36.lt
          refine ⟨(((l_atoms).getD (t25 : Int).toNat (0, 0, 0))).1, (((l_atoms).getD (t25 : Int).toNat (0, 0, 0))).2.1, (((l_atoms).getD (t25 : Int).toNat (0, 0, 0))).2.2, (o_36.rdN (Nat.le_of_ble_eq_true rfl)).trans rfl, ?_⟩
          refine T_impl_AtomList_i (fun a_42 n_43 e_44 H_5 g_47 r_45 => ?_)
          have z_46 := impl_AtomList_len count ((((l_atoms).getD (t25 : Int).toNat (0, 0, 0))).1) ((((l_atoms).getD (t25 : Int).toNat (0, 0, 0))).2.1) ((((l_atoms).getD (t25 : Int).toNat (0, 0, 0))).2.2)
          have l_48 := g_47.1
          have g_49 := g_38.trans g_47
          have l_50 := g_49.1
          have o_51 := o_40.grow g_47
          have w_52 := o_51.lt
          have o_53 := o_36.grow g_47
          have w_54 := o_53.lt
          obtain rfl := r_45.isL.eqn
          have u_55 := r_45.up
          have u_56 := r_45.lo
          refine Br.intro (fun c_58 => ?_) (fun c_58 => ?_)
          · have e := e.trans (cond_t c_58)
            have c_58n := nf_of_t c_58
            rw [impl_FromAtoms_x1_ret]
            rw [e] at hk
            exact hk _ _ _ H_5 g_49 o14
          · have e := e.trans (cond_f c_58)
            have c_58n := nt_of_f c_58
            refine impl_FromAtoms_L2 _ _ _ _ _ _ _ _ _ _ _ _ _ _ _ _ _ _ _ _ _ _ _ _ _ (fun (μ2 : Nat) (t39 : Int) (H_6 : AHeap) => ∃ (y2_1 : List Nat), Own H_6 b_3 (y2_1.map fF) ∧ y2_1.length = (count).toNat ∧ Own H_6 b_23 ([.int .i64 ((((l_atoms).getD (t25 : Int).toNat (0, 0, 0))).1), .float .f32 ((((l_atoms).getD (t25 : Int).toNat (0, 0, 0))).2.1), .float .f32 ((((l_atoms).getD (t25 : Int).toNat (0, 0, 0))).2.2)]) ∧ OwnS fF H_6 H_4.length a_42 (((p_impl_AtomList count ((((l_atoms).getD (t25 : Int).toNat (0, 0, 0))).1) ((((l_atoms).getD (t25 : Int).toNat (0, 0, 0))).2.1) ((((l_atoms).getD (t25 : Int).toNat (0, 0, 0))).2.2)).1).length) e_44 ((p_impl_AtomList count ((((l_atoms).getD (t25 : Int).toNat (0, 0, 0))).1) ((((l_atoms).getD (t25 : Int).toNat (0, 0, 0))).2.1) ((((l_atoms).getD (t25 : Int).toNat (0, 0, 0))).2.2)).1) ∧ (b_23 ≠ b_3) ∧ H_5.length ≤ H_6.length ∧ Grow H H_6 ∧ (0 : Int) ≤ t39 ∧ t39 ≤ (((p_impl_AtomList count ((((l_atoms).getD (t25 : Int).toNat (0, 0, 0))).1) ((((l_atoms).getD (t25 : Int).toNat (0, 0, 0))).2.1) ((((l_atoms).getD (t25 : Int).toNat (0, 0, 0))).2.2)).1).length : Int) ∧ (((p_impl_AtomList count ((((l_atoms).getD (t25 : Int).toNat (0, 0, 0))).1) ((((l_atoms).getD (t25 : Int).toNat (0, 0, 0))).2.1) ((((l_atoms).getD (t25 : Int).toNat (0, 0, 0))).2.2)).1).length : Int) - t39 ≤ (μ2 : Int) ∧ p_impl_FromAtoms count l_atoms = p_impl_FromAtoms_l2 count l_atoms t5 t25 y1_1 (fun (t39 : Int) (y2_1 : List Nat) => (p_impl_FromAtoms_l1 count l_atoms μ t5 (t25 + 1) y2_1)) (μ2 + 1) t39 y2_1) (Int.toNat ((((p_impl_AtomList count ((((l_atoms).getD (t25 : Int).toNat (0, 0, 0))).1) ((((l_atoms).getD (t25 : Int).toNat (0, 0, 0))).2.1) ((((l_atoms).getD (t25 : Int).toNat (0, 0, 0))).2.2)).1).length : Int) - (0 : Int))) _ _ _ _ _ _ _ _ _ _ _ _ _ _ _ H_5 ?_ ?_
            · exact ⟨_, o_51, o20, o_53, r_45, o4, o4, g_49, o5, o5, o4, e⟩
            · intro μ2 t39 g11 g12 g40 g41 g42 g43 g44 g45 g46 g47 g48 g49 g50 g51 H_6 hI
              obtain ⟨y2_1, o_59, y_60, o_61, r_62, n_63, n_64, g_65, v_66, v_67, hμ, e⟩ := hI
              rw [impl_FromAtoms_r2]
              have e := e.trans (p_impl_FromAtoms_l2_s count l_atoms t5 t25 y1_1 (fun (t39 : Int) (y2_1 : List Nat) => (p_impl_FromAtoms_l1 count l_atoms μ t5 (t25 + 1) y2_1)) μ2 t39 y2_1)
              have hz := impl_AtomList_full (by assumption)
              have w_68 := o_59.lt
              have w_69 := o_61.lt
              have l_70 := g_65.1
              refine Br.intro (fun c_71 => ?_) (fun c_71 => ?_)
              · have e := e.trans (cond_t c_71)
                have c_71' := of_decide_eq_true c_71
                obtain ⟨b_72, f_73, q_74⟩ := (r_62.isL).pos o0
                refine ⟨by omega, by omega, b_72, f_73, q_74, ?_⟩
                refine ⟨(((p_impl_AtomList count ((((l_atoms).getD (t25 : Int).toNat (0, 0, 0))).1) ((((l_atoms).getD (t25 : Int).toNat (0, 0, 0))).2.1) ((((l_atoms).getD (t25 : Int).toNat (0, 0, 0))).2.2)).1).getD (t39 : Int).toNat 0), (r_62.isL).rd (Grow.refl _) q_74 o4 _, ?_⟩
                refine ⟨by omega, o4, _, _, rfl, ?_⟩
                refine ⟨((y2_1).getD (t39 : Int).toNat 0), o_59.rd o0 _, ?_⟩
                refine ⟨by omega, o4, _, _, rfl, ?_⟩
                refine Lt.set o_59 o7 (fun H_7 hl_75 o_77 k_76 => ?_)
                have o_77 := map_set o_77
                have l_78 := k_76.1
                have g_79 := g_65.keep (b := b_3) o4 k_76
                have l_80 := g_79.1
                have o_81 := o_61.keep o4 k_76
                have w_82 := o_81.lt
                have r_83 := r_62.keep u_55 o4 k_76
                have w_84 := o_77.lt
                rw [show IntKind.wrap .i64 (t39 + 1) = (t39 + 1) from wrap64 o4 o4]
                refine impl_FromAtoms_n2 (μ2 - 1) o12 ⟨_, o_77, o13, o_81, r_83, o4, o4, g_79, o1, o1, o12, (by rw [show μ2 - 1 + 1 = μ2 from by first | omega]; exact e)⟩
              · have e := e.trans (cond_f c_71)
                have c_71' := of_decide_eq_false c_71
                rw [impl_FromAtoms_x2_2]
                rw [show IntKind.wrap .i64 (t25 + 1) = (t25 + 1) from wrap64 o4 o4]
                refine impl_FromAtoms_n1 (μ - 1) o12 ⟨_, rfl, rfl, rfl, o_59, o13, g_65, o1, o1, o12, (by rw [show μ - 1 + 1 = μ from by first | omega]; exact e)⟩
        · have e := e.trans (cond_f c_19)
          have c_19' := of_decide_eq_false c_19
          rw [impl_FromAtoms_x1_0]
          refine T_impl_finiteList_i ⟨_, (o_12.isL o19), o0, (fun H_8 g_91 => ?_)⟩
          have l_93 := g_91.1
          have g_94 := g_14.trans g_91
          have l_95 := g_94.1
          have o_96 := o_12.grow g_91
          have w_97 := o_96.lt
          refine Br.intro (fun c_92 => ?_) (fun c_92 => ?_)
          · have e := e.trans (cond_t c_92)
            rw [e] at hk
            exact hk _ _ _ H_8 g_94 (o_96.ownS o19 o4)
          · have e := e.trans (cond_f c_92)
            rw [e] at hk
            exact hk _ _ _ H_8 g_94 o14
theorem impl_FromAtoms_ok : FnOk Try.prog 41 S_impl_FromAtoms := by
  refine FnOk.body mix_ok E_impl_FromAtoms_ok Try.func41 rfl (by kernel_rfl) (by kernel_rfl) ?_ ?_ ?_ ?_ ?_
  · intro args H K K' h hk
    simp only [S_impl_FromAtoms] at *
    unfold F_impl_FromAtoms at *
    split at hk
    · obtain ⟨l_atoms, i_atoms, bd_99, k⟩ := hk
      exact ⟨l_atoms, i_atoms, bd_99, (fun r1_a r1_n r1_e H' gg ow0 => h _ _ (k r1_a r1_n r1_e H' gg ow0))⟩
    · exact hk.elim
  · intro hq; cases hq
  · intro args H K hk
    simp only [S_impl_FromAtoms] at *
    unfold F_impl_FromAtoms at *
    split at hk
    · obtain ⟨l_atoms, i_atoms, bd_99, k⟩ := hk
      exact liveS fun a n e H1 g o => ⟨_, _, k a n e H1 g o⟩
    · exact hk.elim
  · intro _ args H K hk
    simp only [S_impl_FromAtoms] at *
    unfold F_impl_FromAtoms at *
    split at hk
    · obtain ⟨l_atoms, i_atoms, bd_99, k⟩ := hk
      exact ⟨l_atoms, i_atoms, bd_99, (fun r1_a r1_n r1_e H' gg ow0 => ⟨gg, k r1_a r1_n r1_e H' gg ow0⟩)⟩
    · exact hk.elim
  · have mm := @impl_FromAtoms_main
    revert mm
    generalize bodyK Try.prog E_impl_FromAtoms Try.f41 = Q
    intro mm args H K hk
    simp only [S_impl_FromAtoms] at *
    unfold F_impl_FromAtoms at *
    split at hk
    · exact mm _ _ _ _ H K hk
    · exact hk.elim
def p_laws_sameFloat (a : Nat) (b : Nat) : Bool := ((bif !(feq .f64 a a) then (bif !(feq .f64 a a) then !(feq .f64 b b) else false) else (bif !(feq .f64 b b) then (bif !(feq .f64 a a) then !(feq .f64 b b) else false) else (bif feq .f64 a 0 then (bif feq .f64 b 0 then (flt .f64 0 (fdiv .f64 4607182418800017408 a)) == (flt .f64 0 (fdiv .f64 4607182418800017408 b)) else feq .f64 a b) else feq .f64 a b))))
def p_laws_sameFloat_eq := @p_laws_sameFloat.eq_1
def T_laws_sameFloat (a : Nat) (b : Nat) (H : AHeap) (K : Bool → AHeap → Prop) : Prop := K (p_laws_sameFloat a b) H

theorem T_laws_sameFloat_i {a : Nat} {b : Nat} {H : AHeap} {K : Bool → AHeap → Prop} (h : K (p_laws_sameFloat a b) H) : T_laws_sameFloat a b H K := h
/-! laws_sameFloat: function 60 -/
def E_laws_sameFloat : Env := envOf []
def F_laws_sameFloat : List Value → AHeap → (Value → AHeap → Prop) → Prop
  | [.float .f64 a, .float .f64 b], H, K => T_laws_sameFloat a b H fun (r1 : Bool) (H' : AHeap) => K (.bool r1) H'
  | _, _, _ => False
def S_laws_sameFloat : FSpec := { F := F_laws_sameFloat, quiet := true, tame := false }
theorem laws_sameFloat_vc (a : Nat) (b : Nat) (H : AHeap) (K : Value → AHeap → Prop) : bodyK Try.prog E_laws_sameFloat Try.f60 [.float .f64 a, .float .f64 b] H K =
  (Br (!(feq .f64 a a)) (Br (!(feq .f64 a a)) (K (.bool (!(feq .f64 b b))) H) (K (.bool false) H)) (Br (!(feq .f64 b b)) (Br (!(feq .f64 a a)) (K (.bool (!(feq .f64 b b))) H) (K (.bool false) H)) (Br (feq .f64 a 0) (Br (feq .f64 b 0) (K (.bool ((flt .f64 0 (fdiv .f64 4607182418800017408 a)) == (flt .f64 0 (fdiv .f64 4607182418800017408 b)))) H) (K (.bool (feq .f64 a b)) H)) (K (.bool (feq .f64 a b)) H)))) := by kernel_rfl
theorem E_laws_sameFloat_ok : ∀ g, FnOk Try.prog g (E_laws_sameFloat g) := FnOk.envOf (by
  intro x hx; cases hx)
set_option maxHeartbeats 1000000 in
theorem laws_sameFloat_main (a : Nat) (b : Nat) (H : AHeap) (K : Value → AHeap → Prop) (h : T_laws_sameFloat a b H fun (r1 : Bool) (H' : AHeap) => K (.bool r1) H') : bodyK Try.prog E_laws_sameFloat Try.f60 [.float .f64 a, .float .f64 b] H K := by
  rw [laws_sameFloat_vc]
  unfold T_laws_sameFloat p_laws_sameFloat at h
  repeat' (first | exact h | (exfalso; simp_all; done) | (refine ⟨by decide, ?_⟩) | (refine Br.intro (fun hb => ?_) (fun hb => ?_) <;> (try simp only [hb, cond_true, cond_false, Bool.not_true, Bool.not_false] at h)))
theorem laws_sameFloat_ok : FnOk Try.prog 60 S_laws_sameFloat := by
  refine FnOk.body mix_ok E_laws_sameFloat_ok Try.func60 rfl (by kernel_rfl) (by kernel_rfl) ?_ ?_ ?_ ?_ ?_
  · intro args H K K' h hk
    simp only [S_laws_sameFloat] at *
    unfold F_laws_sameFloat at *
    split at hk
    · have k := hk
      exact h _ _ k
    · exact hk.elim
  · intro _ args H K hk
    simp only [S_laws_sameFloat] at *
    unfold F_laws_sameFloat at *
    split at hk
    · have k := hk
      exact ⟨_, k, fun K' k' => k'⟩
    · exact hk.elim
  · intro args H K hk
    simp only [S_laws_sameFloat] at *
    unfold F_laws_sameFloat at *
    split at hk
    · have k := hk
      exact ⟨_, _, k⟩
    · exact hk.elim
  · intro hq; cases hq
  · have mm := @laws_sameFloat_main
    revert mm
    generalize bodyK Try.prog E_laws_sameFloat Try.f60 = Q
    intro mm args H K hk
    simp only [S_laws_sameFloat] at *
    unfold F_laws_sameFloat at *
    split at hk
    · exact mm _ _ H K hk
    · exact hk.elim

def p_laws_eqFloat32S_l1 (l_a : List Nat) (l_b : List Nat) : Nat → Bool → Int → Bool
  | 0, _, _ => false
  | μ + 1, t4, i => (bif decide ((i : Int) < (l_a.length : Int)) then (bif !((p_laws_sameFloat (fwide (((l_a).getD (i : Int).toNat 0))) (fwide (((l_b).getD (i : Int).toNat 0))))) then false else (p_laws_eqFloat32S_l1 l_a l_b μ t4 (i + 1))) else true)
def p_laws_eqFloat32S_l1_s := fun l_a l_b μ t4 i => @p_laws_eqFloat32S_l1.eq_2 l_a l_b t4 i μ
def p_laws_eqFloat32S (l_a : List Nat) (l_b : List Nat) : Bool := ((bif ((l_a.length : Int) : Int) != (l_b.length : Int) then false else (p_laws_eqFloat32S_l1 l_a l_b (Int.toNat ((l_a.length : Int) - (0 : Int)) + 1) false (0 : Int))))
def p_laws_eqFloat32S_eq := @p_laws_eqFloat32S.eq_1
def T_laws_eqFloat32S (a_a : Option Addr) (a_n : Nat) (a_e : Nat) (b_a : Option Addr) (b_n : Nat) (b_e : Nat) (H : AHeap) (K : Bool → AHeap → Prop) : Prop := ∃ (l_a : List Nat), ∃ (l_b : List Nat), IsL fF H a_a a_n l_a ∧ IsL fF H b_a b_n l_b ∧ l_a.length < 1073741824 ∧ l_b.length < 1073741824 ∧ K (p_laws_eqFloat32S l_a l_b) H
theorem T_laws_eqFloat32S_i {a_a : Option Addr} {a_n : Nat} {a_e : Nat} {b_a : Option Addr} {b_n : Nat} {b_e : Nat} {H : AHeap} {K : Bool → AHeap → Prop} (h : ∃ (l_a : List Nat), ∃ (l_b : List Nat), IsL fF H a_a a_n l_a ∧ IsL fF H b_a b_n l_b ∧ l_a.length < 1073741824 ∧ l_b.length < 1073741824 ∧ K (p_laws_eqFloat32S l_a l_b) H) : T_laws_eqFloat32S a_a a_n a_e b_a b_n b_e H K := h
theorem laws_sameFloat_self (y : Nat) : p_laws_sameFloat y y = true := by
  rw [p_laws_sameFloat_eq]
  cases feq .f64 y y <;> simp
theorem laws_eqFloat32S_go (l : List Nat) : ∀ (μ : Nat) (t : Bool) (i : Nat), l.length - i < μ → p_laws_eqFloat32S_l1 l l μ t (i : Int) = true := by
  intro μ
  induction μ with
  | zero => intro t i h; omega
  | succ μ ih =>
    intro t i hm
    rw [p_laws_eqFloat32S_l1_s]
    by_cases h : i < l.length
    · rw [decide_eq_true (show (i : Int) < (l.length : Int) by omega), cond_true, laws_sameFloat_self]
      simp only [Bool.not_true, cond_false]
      exact ih t (i + 1) o4
    · rw [decide_eq_false (show ¬ (i : Int) < (l.length : Int) by omega), cond_false]
theorem laws_eqFloat32S_self (l : List Nat) : p_laws_eqFloat32S l l = true := by
  rw [p_laws_eqFloat32S_eq]
  have h0 : ((l.length : Int) != (l.length : Int)) = false := by simp
  rw [h0, cond_false]
  exact laws_eqFloat32S_go l _ false 0 o4
/-! laws_eqFloat32S: function 14 -/
def E_laws_eqFloat32S : Env := envOf [(60, S_laws_sameFloat)]
def F_laws_eqFloat32S : List Value → AHeap → (Value → AHeap → Prop) → Prop
  | [.slice a_a a_n a_e, .slice b_a b_n b_e], H, K => T_laws_eqFloat32S a_a a_n a_e b_a b_n b_e H fun (r1 : Bool) (H' : AHeap) => K (.bool r1) H'
  | _, _, _ => False
def S_laws_eqFloat32S : FSpec := { F := F_laws_eqFloat32S, quiet := true, tame := false }
theorem laws_eqFloat32S_vc (a_a : Option Addr) (a_n : Nat) (a_e : Nat) (b_a : Option Addr) (b_n : Nat) (b_e : Nat) (H : AHeap) (K : Value → AHeap → Prop) : bodyK Try.prog E_laws_eqFloat32S Try.f14 [.slice a_a a_n a_e, .slice b_a b_n b_e] H K =
  (Br (((a_n : Int) : Int) != (b_n : Int)) (K (.bool false) H) (loopK (exK Try.prog E_laws_eqFloat32S (cl (cl (cr (cl (cr (cr (bodyC Try.f14)))))))) [.slice a_a a_n a_e, .slice b_a b_n b_e, undef, undef, .bool false, .int .i64 0, .slice a_a a_n a_e, .int .i64 (a_n : Int), .slice b_a b_n b_e, .int .i64 (b_n : Int), .bool (((a_n : Int) : Int) != (b_n : Int)), undef, undef, undef, undef, undef, undef, undef, undef, undef, undef, undef, undef, undef, undef, undef, undef, undef, undef] H (blockQ 0 (seqQ (exK Try.prog E_laws_eqFloat32S (cr (cr (cr (bodyC Try.f14))))) (retK Try.prog Try.f14 K))))) := by kernel_rfl
abbrev laws_eqFloat32S_P1 (a_a : Option Addr) (a_e : Nat) (a_n : Nat) (b_a : Option Addr) (b_e : Nat) (b_n : Nat) (t4 : Bool) (i : Int) (g11 g12 g13 g14 g15 g16 g17 g18 g19 g20 g21 g22 g23 g24 g25 g26 g27 g28 : Value) : List Value := [.slice a_a a_n a_e, .slice b_a b_n b_e, undef, undef, .bool t4, .int .i64 i, .slice a_a a_n a_e, .int .i64 (a_n : Int), .slice b_a b_n b_e, .int .i64 (b_n : Int), .bool (((a_n : Int) : Int) != (b_n : Int)), g11, g12, g13, g14, g15, g16, g17, g18, g19, g20, g21, g22, g23, g24, g25, g26, g27, g28]
theorem laws_eqFloat32S_r1 (a_a : Option Addr) (a_e : Nat) (a_n : Nat) (b_a : Option Addr) (b_e : Nat) (b_n : Nat) (t4 : Bool) (i : Int) (g11 g12 g13 g14 g15 g16 g17 g18 g19 g20 g21 g22 g23 g24 g25 g26 g27 g28 : Value) (H : AHeap) (R : Post) : exK Try.prog E_laws_eqFloat32S (cl (cl (cr (cl (cr (cr (bodyC Try.f14))))))) (laws_eqFloat32S_P1 a_a a_e a_n b_a b_e b_n t4 i g11 g12 g13 g14 g15 g16 g17 g18 g19 g20 g21 g22 g23 g24 g25 g26 g27 g28) H R =
  (Br (decide ((i : Int) < (a_n : Int))) ((0 : Int) ≤ i ∧ i < (a_n : Int) ∧ ∃ b1 f1, (a_a : Option Addr) = some ⟨b1, f1, none⟩ ∧ ∃ x1 : Nat,  rdC H b1 (f1 + (i : Int).toNat * 1) = some (.float .f32 x1) ∧ (0 : Int) ≤ i ∧ i < (b_n : Int) ∧ ∃ b2 f2, (b_a : Option Addr) = some ⟨b2, f2, none⟩ ∧ ∃ x2 : Nat,  rdC H b2 (f2 + (i : Int).toNat * 1) = some (.float .f32 x2) ∧ T_laws_sameFloat (fwide x1) (fwide x2) H fun (r1 : Bool) (H1 : AHeap) => Br (!r1) (R .ret [.slice a_a a_n a_e, .slice b_a b_n b_e, undef, undef, .bool false, .int .i64 i, .slice a_a a_n a_e, .int .i64 (a_n : Int), .slice b_a b_n b_e, .int .i64 (b_n : Int), .bool (((a_n : Int) : Int) != (b_n : Int)), .int .i64 i, .slice a_a a_n a_e, .int .i64 (a_n : Int), .bool (decide ((i : Int) < (a_n : Int))), g15, g16, .slice a_a a_n a_e, .int .i64 i, .pointer (some ⟨b1, f1 + (i : Int).toNat * 1, none⟩), .float .f32 x1, .float .f64 (fwide x1), .slice b_a b_n b_e, .int .i64 i, .pointer (some ⟨b2, f2 + (i : Int).toNat * 1, none⟩), .float .f32 x2, .float .f64 (fwide x2), .bool r1, .bool (!r1)] H1) (R .normal [.slice a_a a_n a_e, .slice b_a b_n b_e, undef, undef, .bool t4, .int .i64 (IntKind.wrap .i64 (i + 1)), .slice a_a a_n a_e, .int .i64 (a_n : Int), .slice b_a b_n b_e, .int .i64 (b_n : Int), .bool (((a_n : Int) : Int) != (b_n : Int)), .int .i64 i, .slice a_a a_n a_e, .int .i64 (a_n : Int), .bool (decide ((i : Int) < (a_n : Int))), .int .i64 i, .int .i64 (IntKind.wrap .i64 (i + 1)), .slice a_a a_n a_e, .int .i64 i, .pointer (some ⟨b1, f1 + (i : Int).toNat * 1, none⟩), .float .f32 x1, .float .f64 (fwide x1), .slice b_a b_n b_e, .int .i64 i, .pointer (some ⟨b2, f2 + (i : Int).toNat * 1, none⟩), .float .f32 x2, .float .f64 (fwide x2), .bool r1, .bool (!r1)] H1)) (R (.exit 0) [.slice a_a a_n a_e, .slice b_a b_n b_e, undef, undef, .bool t4, .int .i64 i, .slice a_a a_n a_e, .int .i64 (a_n : Int), .slice b_a b_n b_e, .int .i64 (b_n : Int), .bool (((a_n : Int) : Int) != (b_n : Int)), .int .i64 i, .slice a_a a_n a_e, .int .i64 (a_n : Int), .bool (decide ((i : Int) < (a_n : Int))), g15, g16, g17, g18, g19, g20, g21, g22, g23, g24, g25, g26, g27, g28] H)) := by kernel_rfl
def laws_eqFloat32S_I1 (a_a : Option Addr) (a_e : Nat) (a_n : Nat) (b_a : Option Addr) (b_e : Nat) (b_n : Nat) (Inv : Nat → Bool → Int → AHeap → Prop) : Nat → List Value → AHeap → Prop := fun μ tm H => ∃ (t4 : Bool), ∃ (i : Int), ∃ g11 g12 g13 g14 g15 g16 g17 g18 g19 g20 g21 g22 g23 g24 g25 g26 g27 g28, tm = (laws_eqFloat32S_P1 a_a a_e a_n b_a b_e b_n t4 i g11 g12 g13 g14 g15 g16 g17 g18 g19 g20 g21 g22 g23 g24 g25 g26 g27 g28) ∧ Inv μ t4 i H
theorem laws_eqFloat32S_L1 (a_a : Option Addr) (a_e : Nat) (a_n : Nat) (b_a : Option Addr) (b_e : Nat) (b_n : Nat) {Q : Post} (Inv : Nat → Bool → Int → AHeap → Prop) (ν : Nat) (t4 : Bool) (i : Int) (g11 g12 g13 g14 g15 g16 g17 g18 g19 g20 g21 g22 g23 g24 g25 g26 g27 g28 : Value) (H : AHeap) (h0 : Inv ν t4 i H)
    (hs : ∀ (μ : Nat) (t4 : Bool) (i : Int) (g11 g12 g13 g14 g15 g16 g17 g18 g19 g20 g21 g22 g23 g24 g25 g26 g27 g28 : Value) (H : AHeap), Inv μ t4 i H → exK Try.prog E_laws_eqFloat32S (cl (cl (cr (cl (cr (cr (bodyC Try.f14))))))) (laws_eqFloat32S_P1 a_a a_e a_n b_a b_e b_n t4 i g11 g12 g13 g14 g15 g16 g17 g18 g19 g20 g21 g22 g23 g24 g25 g26 g27 g28) H (loopQ (laws_eqFloat32S_I1 a_a a_e a_n b_a b_e b_n Inv) μ Q)) : loopK (exK Try.prog E_laws_eqFloat32S (cl (cl (cr (cl (cr (cr (bodyC Try.f14)))))))) (laws_eqFloat32S_P1 a_a a_e a_n b_a b_e b_n t4 i g11 g12 g13 g14 g15 g16 g17 g18 g19 g20 g21 g22 g23 g24 g25 g26 g27 g28) H Q :=
  ⟨laws_eqFloat32S_I1 a_a a_e a_n b_a b_e b_n Inv, ν, ⟨t4, i, g11, g12, g13, g14, g15, g16, g17, g18, g19, g20, g21, g22, g23, g24, g25, g26, g27, g28, rfl, h0⟩, fun μ tm H h => by obtain ⟨t4, i, g11, g12, g13, g14, g15, g16, g17, g18, g19, g20, g21, g22, g23, g24, g25, g26, g27, g28, rfl, hI⟩ := h; exact hs μ t4 i g11 g12 g13 g14 g15 g16 g17 g18 g19 g20 g21 g22 g23 g24 g25 g26 g27 g28 H hI⟩
theorem laws_eqFloat32S_n1 {a_a : Option Addr} {a_e : Nat} {a_n : Nat} {b_a : Option Addr} {b_e : Nat} {b_n : Nat} {Q : Post} {Inv : Nat → Bool → Int → AHeap → Prop} {μ : Nat} (μ' : Nat) {t4 : Bool} {i : Int} {g11 g12 g13 g14 g15 g16 g17 g18 g19 g20 g21 g22 g23 g24 g25 g26 g27 g28 : Value} {H : AHeap} (hm : μ' < μ) (hI : Inv μ' t4 i H) : loopQ (laws_eqFloat32S_I1 a_a a_e a_n b_a b_e b_n Inv) μ Q .normal (laws_eqFloat32S_P1 a_a a_e a_n b_a b_e b_n t4 i g11 g12 g13 g14 g15 g16 g17 g18 g19 g20 g21 g22 g23 g24 g25 g26 g27 g28) H := ⟨μ', hm, t4, i, g11, g12, g13, g14, g15, g16, g17, g18, g19, g20, g21, g22, g23, g24, g25, g26, g27, g28, rfl, hI⟩
theorem laws_eqFloat32S_x1_0 (a_a : Option Addr) (a_e : Nat) (a_n : Nat) (b_a : Option Addr) (b_e : Nat) (b_n : Nat) (t4 : Bool) (i : Int) (g11 g12 g13 g14 g15 g16 g17 g18 g19 g20 g21 g22 g23 g24 g25 g26 g27 g28 : Value) (H : AHeap) (K : Value → AHeap → Prop)  {I : Nat → List Value → AHeap → Prop} {μ : Nat} : loopQ I μ (blockQ 0 (seqQ (exK Try.prog E_laws_eqFloat32S (cr (cr (cr (bodyC Try.f14))))) (retK Try.prog Try.f14 K))) (.exit 0) (laws_eqFloat32S_P1 a_a a_e a_n b_a b_e b_n t4 i g11 g12 g13 g14 g15 g16 g17 g18 g19 g20 g21 g22 g23 g24 g25 g26 g27 g28) H =
  (K (.bool true) H) := by kernel_rfl
theorem laws_eqFloat32S_x1_ret (a_a : Option Addr) (a_e : Nat) (a_n : Nat) (b_a : Option Addr) (b_e : Nat) (b_n : Nat) (t4 : Bool) (i : Int) (g11 g12 g13 g14 g15 g16 g17 g18 g19 g20 g21 g22 g23 g24 g25 g26 g27 g28 : Value) (H : AHeap) (K : Value → AHeap → Prop)  {I : Nat → List Value → AHeap → Prop} {μ : Nat} : loopQ I μ (blockQ 0 (seqQ (exK Try.prog E_laws_eqFloat32S (cr (cr (cr (bodyC Try.f14))))) (retK Try.prog Try.f14 K))) .ret (laws_eqFloat32S_P1 a_a a_e a_n b_a b_e b_n t4 i g11 g12 g13 g14 g15 g16 g17 g18 g19 g20 g21 g22 g23 g24 g25 g26 g27 g28) H =
  (K (.bool t4) H) := by kernel_rfl
theorem E_laws_eqFloat32S_ok : ∀ g, FnOk Try.prog g (E_laws_eqFloat32S g) := FnOk.envOf (by
  intro x hx
  simp only [List.mem_cons, List.not_mem_nil, or_false] at hx
  subst hx; exact laws_sameFloat_ok)
set_option maxHeartbeats 1000000 in
theorem laws_eqFloat32S_main (a_a : Option Addr) (a_n : Nat) (a_e : Nat) (b_a : Option Addr) (b_n : Nat) (b_e : Nat) (H : AHeap) (K : Value → AHeap → Prop) (h : T_laws_eqFloat32S a_a a_n a_e b_a b_n b_e H fun (r1 : Bool) (H' : AHeap) => K (.bool r1) H') : bodyK Try.prog E_laws_eqFloat32S Try.f14 [.slice a_a a_n a_e, .slice b_a b_n b_e] H K := by
  rw [laws_eqFloat32S_vc]
  obtain ⟨l_a, l_b, i_a, i_b, bd_13, bd_14, hk⟩ := h
  obtain rfl := i_a.eqn
  obtain rfl := i_b.eqn
  have e : (p_laws_eqFloat32S l_a l_b) = _ := rfl
  have e := e.trans (p_laws_eqFloat32S_eq l_a l_b)
  have g0 := Grow.refl H
  refine Br.intro (fun c_1 => ?_) (fun c_1 => ?_)
  · have e := e.trans (cond_t c_1)
    have c_1' := ine_t c_1
    rw [e] at hk
    exact hk
  · have e := e.trans (cond_f c_1)
    have c_1' := ine_f c_1
    refine laws_eqFloat32S_L1 _ _ _ _ _ _ (fun (μ : Nat) (t4 : Bool) (i : Int) (H_1 : AHeap) => H = H_1 ∧ (0 : Int) ≤ i ∧ i ≤ (l_a.length : Int) ∧ (l_a.length : Int) - i ≤ (μ : Int) ∧ p_laws_eqFloat32S l_a l_b = p_laws_eqFloat32S_l1 l_a l_b (μ + 1) t4 i) (Int.toNat ((l_a.length : Int) - (0 : Int))) _ _ _ _ _ _ _ _ _ _ _ _ _ _ _ _ _ _ _ _ H ?_ ?_
    · exact ⟨rfl, o5, o5, o4, e⟩
    · intro μ t4 i g11 g12 g13 g14 g15 g16 g17 g18 g19 g20 g21 g22 g23 g24 g25 g26 g27 g28 H_1 hI
      obtain ⟨rfl, v_2, v_3, hμ, e⟩ := hI
      rw [laws_eqFloat32S_r1]
      have e := e.trans (p_laws_eqFloat32S_l1_s l_a l_b μ t4 i)
      have l_4 := g0.1
      refine Br.intro (fun c_5 => ?_) (fun c_5 => ?_)
      · have e := e.trans (cond_t c_5)
        have c_5' := of_decide_eq_true c_5
        obtain ⟨b_6, f_7, q_8⟩ := ((i_a.grow g0)).pos o0
        refine ⟨by omega, by omega, b_6, f_7, q_8, ?_⟩
        refine ⟨((l_a).getD (i : Int).toNat 0), (i_a).rd g0 q_8 o4 _, ?_⟩
        obtain ⟨b_9, f_10, q_11⟩ := ((i_b.grow g0)).pos o0
        refine ⟨by omega, by omega, b_9, f_10, q_11, ?_⟩
        refine ⟨((l_b).getD (i : Int).toNat 0), (i_b).rd g0 q_11 o4 _, ?_⟩
        refine T_laws_sameFloat_i ?_
        refine Br.intro (fun c_12 => ?_) (fun c_12 => ?_)
        · have e := e.trans (cond_t c_12)
          have c_12n := nf_of_t c_12
          rw [laws_eqFloat32S_x1_ret]
          rw [e] at hk
          exact hk
        · have e := e.trans (cond_f c_12)
          have c_12n := nt_of_f c_12
          rw [show IntKind.wrap .i64 (i + 1) = (i + 1) from wrap64 o4 o4]
          refine laws_eqFloat32S_n1 (μ - 1) o12 ⟨rfl, o1, o1, o12, (by rw [show μ - 1 + 1 = μ from by first | omega]; exact e)⟩
      · have e := e.trans (cond_f c_5)
        have c_5' := of_decide_eq_false c_5
        rw [laws_eqFloat32S_x1_0]
        rw [e] at hk
        exact hk
theorem laws_eqFloat32S_ok : FnOk Try.prog 14 S_laws_eqFloat32S := by
  refine FnOk.body mix_ok E_laws_eqFloat32S_ok Try.func14 rfl (by kernel_rfl) (by kernel_rfl) ?_ ?_ ?_ ?_ ?_
  · intro args H K K' h hk
    simp only [S_laws_eqFloat32S] at *
    unfold F_laws_eqFloat32S at *
    split at hk
    · obtain ⟨l_a, l_b, i_a, i_b, bd_13, bd_14, k⟩ := hk
      exact ⟨l_a, l_b, i_a, i_b, bd_13, bd_14, h _ _ k⟩
    · exact hk.elim
  · intro _ args H K hk
    simp only [S_laws_eqFloat32S] at *
    unfold F_laws_eqFloat32S at *
    split at hk
    · obtain ⟨l_a, l_b, i_a, i_b, bd_13, bd_14, k⟩ := hk
      exact ⟨_, k, fun K' k' => ⟨l_a, l_b, i_a, i_b, bd_13, bd_14, k'⟩⟩
    · exact hk.elim
  · intro args H K hk
    simp only [S_laws_eqFloat32S] at *
    unfold F_laws_eqFloat32S at *
    split at hk
    · obtain ⟨l_a, l_b, i_a, i_b, bd_13, bd_14, k⟩ := hk
      exact ⟨_, _, k⟩
    · exact hk.elim
  · intro hq; cases hq
  · have mm := @laws_eqFloat32S_main
    revert mm
    generalize bodyK Try.prog E_laws_eqFloat32S Try.f14 = Q
    intro mm args H K hk
    simp only [S_laws_eqFloat32S] at *
    unfold F_laws_eqFloat32S at *
    split at hk
    · exact mm _ _ _ _ _ _ H K hk
    · exact hk.elim

def p_laws_eqAtom (a_Place : Int) (a_Scale : Nat) (a_Size : Nat) (b_Place : Int) (b_Scale : Nat) (b_Size : Nat) : Bool := ((bif (a_Place : Int) != b_Place then false else (bif !((p_laws_sameFloat (fwide a_Scale) (fwide b_Scale))) then false else (bif !((p_laws_sameFloat (fwide a_Size) (fwide b_Size))) then false else true))))
def p_laws_eqAtom_eq := @p_laws_eqAtom.eq_1
def T_laws_eqAtom (a_Place : Int) (a_Scale : Nat) (a_Size : Nat) (b_Place : Int) (b_Scale : Nat) (b_Size : Nat) (H : AHeap) (K : Bool → AHeap → Prop) : Prop := ((∀ H' : AHeap, Grow H H' → K (p_laws_eqAtom a_Place a_Scale a_Size b_Place b_Scale b_Size) H'))
theorem T_laws_eqAtom_i {a_Place : Int} {a_Scale : Nat} {a_Size : Nat} {b_Place : Int} {b_Scale : Nat} {b_Size : Nat} {H : AHeap} {K : Bool → AHeap → Prop} (h : ((∀ H' : AHeap, Grow H H' → K (p_laws_eqAtom a_Place a_Scale a_Size b_Place b_Scale b_Size) H'))) : T_laws_eqAtom a_Place a_Scale a_Size b_Place b_Scale b_Size H K := h

/-! laws_eqAtom: function 46 -/
def E_laws_eqAtom : Env := envOf [(60, S_laws_sameFloat)]
def F_laws_eqAtom : List Value → AHeap → (Value → AHeap → Prop) → Prop
  | [.agg ⟨[.int .i64 a_Place, .float .f32 a_Scale, .float .f32 a_Size]⟩, .agg ⟨[.int .i64 b_Place, .float .f32 b_Scale, .float .f32 b_Size]⟩], H, K => T_laws_eqAtom a_Place a_Scale a_Size b_Place b_Scale b_Size H fun (r1 : Bool) (H' : AHeap) => K (.bool r1) H'
  | _, _, _ => False
def S_laws_eqAtom : FSpec := { F := F_laws_eqAtom, quiet := false, tame := true }
theorem laws_eqAtom_vc (a_Place : Int) (a_Scale : Nat) (a_Size : Nat) (b_Place : Int) (b_Scale : Nat) (b_Size : Nat) (H : AHeap) (K : Value → AHeap → Prop) : bodyK Try.prog E_laws_eqAtom Try.f46 [.agg #[.int .i64 a_Place, .float .f32 a_Scale, .float .f32 a_Size], .agg #[.int .i64 b_Place, .float .f32 b_Scale, .float .f32 b_Size]] H K =
  (Al [.int .i64 a_Place, .float .f32 a_Scale, .float .f32 a_Size] H fun b1 H1 => Al [.int .i64 b_Place, .float .f32 b_Scale, .float .f32 b_Size] H1 fun b2 H2 => ∃ x1 : Int,  rdC H2 b1 0 = some (.int .i64 x1) ∧ ∃ x2 : Int,  rdC H2 b2 0 = some (.int .i64 x2) ∧ Br ((x1 : Int) != x2) (K (.bool false) H2) (∃ x3 : Nat,  rdC H2 b1 1 = some (.float .f32 x3) ∧ ∃ x4 : Nat,  rdC H2 b2 1 = some (.float .f32 x4) ∧ T_laws_sameFloat (fwide x3) (fwide x4) H2 fun (r1 : Bool) (H3 : AHeap) => Br (!r1) (K (.bool false) H3) (∃ x5 : Nat,  rdC H3 b1 2 = some (.float .f32 x5) ∧ ∃ x6 : Nat,  rdC H3 b2 2 = some (.float .f32 x6) ∧ T_laws_sameFloat (fwide x5) (fwide x6) H3 fun (r2 : Bool) (H4 : AHeap) => Br (!r2) (K (.bool false) H4) (K (.bool true) H4)))) := by kernel_rfl
theorem E_laws_eqAtom_ok : ∀ g, FnOk Try.prog g (E_laws_eqAtom g) := FnOk.envOf (by
  intro x hx
  simp only [List.mem_cons, List.not_mem_nil, or_false] at hx
  subst hx; exact laws_sameFloat_ok)
set_option maxHeartbeats 1000000 in
theorem laws_eqAtom_main (a_Place : Int) (a_Scale : Nat) (a_Size : Nat) (b_Place : Int) (b_Scale : Nat) (b_Size : Nat) (H : AHeap) (K : Value → AHeap → Prop) (h : T_laws_eqAtom a_Place a_Scale a_Size b_Place b_Scale b_Size H fun (r1 : Bool) (H' : AHeap) => K (.bool r1) H') : bodyK Try.prog E_laws_eqAtom Try.f46 [.agg #[.int .i64 a_Place, .float .f32 a_Scale, .float .f32 a_Size], .agg #[.int .i64 b_Place, .float .f32 b_Scale, .float .f32 b_Size]] H K := by
  rw [laws_eqAtom_vc]
  have hk := h
  unfold T_laws_eqAtom at hk
  have e : (p_laws_eqAtom a_Place a_Scale a_Size b_Place b_Scale b_Size) = _ := rfl
  have e := e.trans (p_laws_eqAtom_eq a_Place a_Scale a_Size b_Place b_Scale b_Size)
  have g0 := Grow.refl H
  refine Al.intro (fun b_1 H_1 hb_2 hl_3 g_4 o_5 => ?_)
  have l_7 := g_4.1
  have g_8 := g0.trans g_4
  have l_9 := g_8.1
  have w_25 := o_5.lt
  refine Al.intro (fun b_10 H_2 hb_11 hl_12 g_13 o_14 => ?_)
  have l_16 := g_13.1
  have g_17 := g_8.trans g_13
  have l_18 := g_17.1
  have o_19 := o_5.grow g_13
  have w_20 := o_19.lt
  have w_24 := o_14.lt
  refine ⟨a_Place, (o_19.rdC _).trans rfl, ?_⟩
  refine ⟨b_Place, (o_14.rdC _).trans rfl, ?_⟩
  refine Br.intro (fun c_21 => ?_) (fun c_21 => ?_)
  · have e := e.trans (cond_t c_21)
    have c_21' := ine_t c_21
    rw [e] at hk
    exact hk  H_2 g_17 
  · have e := e.trans (cond_f c_21)
    have c_21' := ine_f c_21
    refine ⟨a_Scale, (o_19.rdC _).trans rfl, ?_⟩
    refine ⟨b_Scale, (o_14.rdC _).trans rfl, ?_⟩
    refine T_laws_sameFloat_i ?_
    refine Br.intro (fun c_22 => ?_) (fun c_22 => ?_)
    · have e := e.trans (cond_t c_22)
      have c_22n := nf_of_t c_22
      rw [e] at hk
      exact hk  H_2 g_17 
    · have e := e.trans (cond_f c_22)
      have c_22n := nt_of_f c_22
      refine ⟨a_Size, (o_19.rdC _).trans rfl, ?_⟩
      refine ⟨b_Size, (o_14.rdC _).trans rfl, ?_⟩
      refine T_laws_sameFloat_i ?_
      refine Br.intro (fun c_23 => ?_) (fun c_23 => ?_)
      · have e := e.trans (cond_t c_23)
        have c_23n := nf_of_t c_23
        rw [e] at hk
        exact hk  H_2 g_17 
      · have e := e.trans (cond_f c_23)
        have c_23n := nt_of_f c_23
        rw [e] at hk
        exact hk  H_2 g_17 
theorem laws_eqAtom_ok : FnOk Try.prog 46 S_laws_eqAtom := by
  refine FnOk.body mix_ok E_laws_eqAtom_ok Try.func46 rfl (by kernel_rfl) (by kernel_rfl) ?_ ?_ ?_ ?_ ?_
  · intro args H K K' h hk
    simp only [S_laws_eqAtom] at *
    unfold F_laws_eqAtom at *
    split at hk
    · have k := hk
      exact fun  H' gg  => h _ _ (k  H' gg )
    · exact hk.elim
  · intro hq; cases hq
  · intro args H K hk
    simp only [S_laws_eqAtom] at *
    unfold F_laws_eqAtom at *
    split at hk
    · have k := hk
      exact ⟨_, _, k H (Grow.refl H)⟩
    · exact hk.elim
  · intro _ args H K hk
    simp only [S_laws_eqAtom] at *
    unfold F_laws_eqAtom at *
    split at hk
    · have k := hk
      exact fun  H' gg  => ⟨gg, k  H' gg ⟩
    · exact hk.elim
  · have mm := @laws_eqAtom_main
    revert mm
    generalize bodyK Try.prog E_laws_eqAtom Try.f46 = Q
    intro mm args H K hk
    simp only [S_laws_eqAtom] at *
    unfold F_laws_eqAtom at *
    split at hk
    · exact mm _ _ _ _ _ _ H K hk
    · exact hk.elim

def p_laws_eqAtomS_l1 (l_a : List (Int × Nat × Nat)) (l_b : List (Int × Nat × Nat)) : Nat → Bool → Int → Bool
  | 0, _, _ => false
  | μ + 1, t4, i => (bif decide ((i : Int) < (l_a.length : Int)) then (bif !((p_laws_eqAtom ((((l_a).getD (i : Int).toNat (0, 0, 0))).1) ((((l_a).getD (i : Int).toNat (0, 0, 0))).2.1) ((((l_a).getD (i : Int).toNat (0, 0, 0))).2.2) ((((l_b).getD (i : Int).toNat (0, 0, 0))).1) ((((l_b).getD (i : Int).toNat (0, 0, 0))).2.1) ((((l_b).getD (i : Int).toNat (0, 0, 0))).2.2))) then false else (p_laws_eqAtomS_l1 l_a l_b μ t4 (i + 1))) else true)
def p_laws_eqAtomS_l1_s := fun l_a l_b μ t4 i => @p_laws_eqAtomS_l1.eq_2 l_a l_b t4 i μ
def p_laws_eqAtomS (l_a : List (Int × Nat × Nat)) (l_b : List (Int × Nat × Nat)) : Bool := ((bif ((l_a.length : Int) : Int) != (l_b.length : Int) then false else (p_laws_eqAtomS_l1 l_a l_b (Int.toNat ((l_a.length : Int) - (0 : Int)) + 1) false (0 : Int))))
def p_laws_eqAtomS_eq := @p_laws_eqAtomS.eq_1
def T_laws_eqAtomS (a_a : Option Addr) (a_n : Nat) (a_e : Nat) (b_a : Option Addr) (b_n : Nat) (b_e : Nat) (H : AHeap) (K : Bool → AHeap → Prop) : Prop := ∃ (l_a : List (Int × Nat × Nat)), ∃ (l_b : List (Int × Nat × Nat)), IsT fA H a_a a_n l_a ∧ IsT fA H b_a b_n l_b ∧ l_a.length < 1073741824 ∧ l_b.length < 1073741824 ∧ ((∀ H' : AHeap, Grow H H' → K (p_laws_eqAtomS l_a l_b) H'))
theorem T_laws_eqAtomS_i {a_a : Option Addr} {a_n : Nat} {a_e : Nat} {b_a : Option Addr} {b_n : Nat} {b_e : Nat} {H : AHeap} {K : Bool → AHeap → Prop} (h : ∃ (l_a : List (Int × Nat × Nat)), ∃ (l_b : List (Int × Nat × Nat)), IsT fA H a_a a_n l_a ∧ IsT fA H b_a b_n l_b ∧ l_a.length < 1073741824 ∧ l_b.length < 1073741824 ∧ ((∀ H' : AHeap, Grow H H' → K (p_laws_eqAtomS l_a l_b) H'))) : T_laws_eqAtomS a_a a_n a_e b_a b_n b_e H K := h
theorem eqAtom_self (a : Int) (b c : Nat) : p_laws_eqAtom a b c a b c = true := by
  rw [p_laws_eqAtom_eq, laws_sameFloat_self, laws_sameFloat_self]
  simp
theorem laws_eqAtomS_go (l : List (Int × Nat × Nat)) : ∀ (μ : Nat) (t : Bool) (i : Nat), l.length - i < μ → p_laws_eqAtomS_l1 l l μ t (i : Int) = true := by
  intro μ
  induction μ with
  | zero => intro t i h; omega
  | succ μ ih =>
    intro t i hm
    rw [p_laws_eqAtomS_l1_s]
    by_cases h : i < l.length
    · rw [decide_eq_true (show (i : Int) < (l.length : Int) by omega), cond_true, eqAtom_self]
      simp only [Bool.not_true, cond_false]
      exact ih t (i + 1) o4
    · rw [decide_eq_false (show ¬ (i : Int) < (l.length : Int) by omega), cond_false]
theorem laws_eqAtomS_self (l : List (Int × Nat × Nat)) : p_laws_eqAtomS l l = true := by
  rw [p_laws_eqAtomS_eq]
  have h0 : ((l.length : Int) != (l.length : Int)) = false := by simp
  rw [h0, cond_false]
  exact laws_eqAtomS_go l _ false 0 o4
/-! laws_eqAtomS: function 42 -/
def E_laws_eqAtomS : Env := envOf [(46, S_laws_eqAtom)]
def F_laws_eqAtomS : List Value → AHeap → (Value → AHeap → Prop) → Prop
  | [.slice a_a a_n a_e, .slice b_a b_n b_e], H, K => T_laws_eqAtomS a_a a_n a_e b_a b_n b_e H fun (r1 : Bool) (H' : AHeap) => K (.bool r1) H'
  | _, _, _ => False
def S_laws_eqAtomS : FSpec := { F := F_laws_eqAtomS, quiet := false, tame := true }
theorem laws_eqAtomS_vc (a_a : Option Addr) (a_n : Nat) (a_e : Nat) (b_a : Option Addr) (b_n : Nat) (b_e : Nat) (H : AHeap) (K : Value → AHeap → Prop) : bodyK Try.prog E_laws_eqAtomS Try.f42 [.slice a_a a_n a_e, .slice b_a b_n b_e] H K =
  (Br (((a_n : Int) : Int) != (b_n : Int)) (K (.bool false) H) (loopK (exK Try.prog E_laws_eqAtomS (cl (cl (cr (cl (cr (cr (bodyC Try.f42)))))))) [.slice a_a a_n a_e, .slice b_a b_n b_e, undef, undef, .bool false, .int .i64 0, .slice a_a a_n a_e, .int .i64 (a_n : Int), .slice b_a b_n b_e, .int .i64 (b_n : Int), .bool (((a_n : Int) : Int) != (b_n : Int)), undef, undef, undef, undef, undef, undef, undef, undef, undef, undef, undef, undef, undef, undef, undef, undef] H (blockQ 0 (seqQ (exK Try.prog E_laws_eqAtomS (cr (cr (cr (bodyC Try.f42))))) (retK Try.prog Try.f42 K))))) := by kernel_rfl
abbrev laws_eqAtomS_P1 (a_a : Option Addr) (a_e : Nat) (a_n : Nat) (b_a : Option Addr) (b_e : Nat) (b_n : Nat) (t4 : Bool) (i : Int) (g11 g12 g13 g14 g15 g16 g17 g18 g19 g20 g21 g22 g23 g24 g25 g26 : Value) : List Value := [.slice a_a a_n a_e, .slice b_a b_n b_e, undef, undef, .bool t4, .int .i64 i, .slice a_a a_n a_e, .int .i64 (a_n : Int), .slice b_a b_n b_e, .int .i64 (b_n : Int), .bool (((a_n : Int) : Int) != (b_n : Int)), g11, g12, g13, g14, g15, g16, g17, g18, g19, g20, g21, g22, g23, g24, g25, g26]
theorem laws_eqAtomS_r1 (a_a : Option Addr) (a_e : Nat) (a_n : Nat) (b_a : Option Addr) (b_e : Nat) (b_n : Nat) (t4 : Bool) (i : Int) (g11 g12 g13 g14 g15 g16 g17 g18 g19 g20 g21 g22 g23 g24 g25 g26 : Value) (H : AHeap) (R : Post) : exK Try.prog E_laws_eqAtomS (cl (cl (cr (cl (cr (cr (bodyC Try.f42))))))) (laws_eqAtomS_P1 a_a a_e a_n b_a b_e b_n t4 i g11 g12 g13 g14 g15 g16 g17 g18 g19 g20 g21 g22 g23 g24 g25 g26) H R =
  (Br (decide ((i : Int) < (a_n : Int))) ((0 : Int) ≤ i ∧ i < (a_n : Int) ∧ ∃ b1 f1, (a_a : Option Addr) = some ⟨b1, f1, none⟩ ∧ ∃ c1 : Int, ∃ c2 : Nat, ∃ c3 : Nat,  rdN H b1 (f1 + (i : Int).toNat * 3) 3 = some [.int .i64 c1, .float .f32 c2, .float .f32 c3] ∧ (0 : Int) ≤ i ∧ i < (b_n : Int) ∧ ∃ b2 f2, (b_a : Option Addr) = some ⟨b2, f2, none⟩ ∧ ∃ c4 : Int, ∃ c5 : Nat, ∃ c6 : Nat,  rdN H b2 (f2 + (i : Int).toNat * 3) 3 = some [.int .i64 c4, .float .f32 c5, .float .f32 c6] ∧ T_laws_eqAtom c1 c2 c3 c4 c5 c6 H fun (r1 : Bool) (H1 : AHeap) => Br (!r1) (R .ret [.slice a_a a_n a_e, .slice b_a b_n b_e, undef, undef, .bool false, .int .i64 i, .slice a_a a_n a_e, .int .i64 (a_n : Int), .slice b_a b_n b_e, .int .i64 (b_n : Int), .bool (((a_n : Int) : Int) != (b_n : Int)), .int .i64 i, .slice a_a a_n a_e, .int .i64 (a_n : Int), .bool (decide ((i : Int) < (a_n : Int))), g15, g16, .slice a_a a_n a_e, .int .i64 i, .pointer (some ⟨b1, f1 + (i : Int).toNat * 3, none⟩), .agg #[.int .i64 c1, .float .f32 c2, .float .f32 c3], .slice b_a b_n b_e, .int .i64 i, .pointer (some ⟨b2, f2 + (i : Int).toNat * 3, none⟩), .agg #[.int .i64 c4, .float .f32 c5, .float .f32 c6], .bool r1, .bool (!r1)] H1) (R .normal [.slice a_a a_n a_e, .slice b_a b_n b_e, undef, undef, .bool t4, .int .i64 (IntKind.wrap .i64 (i + 1)), .slice a_a a_n a_e, .int .i64 (a_n : Int), .slice b_a b_n b_e, .int .i64 (b_n : Int), .bool (((a_n : Int) : Int) != (b_n : Int)), .int .i64 i, .slice a_a a_n a_e, .int .i64 (a_n : Int), .bool (decide ((i : Int) < (a_n : Int))), .int .i64 i, .int .i64 (IntKind.wrap .i64 (i + 1)), .slice a_a a_n a_e, .int .i64 i, .pointer (some ⟨b1, f1 + (i : Int).toNat * 3, none⟩), .agg #[.int .i64 c1, .float .f32 c2, .float .f32 c3], .slice b_a b_n b_e, .int .i64 i, .pointer (some ⟨b2, f2 + (i : Int).toNat * 3, none⟩), .agg #[.int .i64 c4, .float .f32 c5, .float .f32 c6], .bool r1, .bool (!r1)] H1)) (R (.exit 0) [.slice a_a a_n a_e, .slice b_a b_n b_e, undef, undef, .bool t4, .int .i64 i, .slice a_a a_n a_e, .int .i64 (a_n : Int), .slice b_a b_n b_e, .int .i64 (b_n : Int), .bool (((a_n : Int) : Int) != (b_n : Int)), .int .i64 i, .slice a_a a_n a_e, .int .i64 (a_n : Int), .bool (decide ((i : Int) < (a_n : Int))), g15, g16, g17, g18, g19, g20, g21, g22, g23, g24, g25, g26] H)) := by kernel_rfl
def laws_eqAtomS_I1 (a_a : Option Addr) (a_e : Nat) (a_n : Nat) (b_a : Option Addr) (b_e : Nat) (b_n : Nat) (Inv : Nat → Bool → Int → AHeap → Prop) : Nat → List Value → AHeap → Prop := fun μ tm H => ∃ (t4 : Bool), ∃ (i : Int), ∃ g11 g12 g13 g14 g15 g16 g17 g18 g19 g20 g21 g22 g23 g24 g25 g26, tm = (laws_eqAtomS_P1 a_a a_e a_n b_a b_e b_n t4 i g11 g12 g13 g14 g15 g16 g17 g18 g19 g20 g21 g22 g23 g24 g25 g26) ∧ Inv μ t4 i H
theorem laws_eqAtomS_L1 (a_a : Option Addr) (a_e : Nat) (a_n : Nat) (b_a : Option Addr) (b_e : Nat) (b_n : Nat) {Q : Post} (Inv : Nat → Bool → Int → AHeap → Prop) (ν : Nat) (t4 : Bool) (i : Int) (g11 g12 g13 g14 g15 g16 g17 g18 g19 g20 g21 g22 g23 g24 g25 g26 : Value) (H : AHeap) (h0 : Inv ν t4 i H)
    (hs : ∀ (μ : Nat) (t4 : Bool) (i : Int) (g11 g12 g13 g14 g15 g16 g17 g18 g19 g20 g21 g22 g23 g24 g25 g26 : Value) (H : AHeap), Inv μ t4 i H → exK Try.prog E_laws_eqAtomS (cl (cl (cr (cl (cr (cr (bodyC Try.f42))))))) (laws_eqAtomS_P1 a_a a_e a_n b_a b_e b_n t4 i g11 g12 g13 g14 g15 g16 g17 g18 g19 g20 g21 g22 g23 g24 g25 g26) H (loopQ (laws_eqAtomS_I1 a_a a_e a_n b_a b_e b_n Inv) μ Q)) : loopK (exK Try.prog E_laws_eqAtomS (cl (cl (cr (cl (cr (cr (bodyC Try.f42)))))))) (laws_eqAtomS_P1 a_a a_e a_n b_a b_e b_n t4 i g11 g12 g13 g14 g15 g16 g17 g18 g19 g20 g21 g22 g23 g24 g25 g26) H Q :=
  ⟨laws_eqAtomS_I1 a_a a_e a_n b_a b_e b_n Inv, ν, ⟨t4, i, g11, g12, g13, g14, g15, g16, g17, g18, g19, g20, g21, g22, g23, g24, g25, g26, rfl, h0⟩, fun μ tm H h => by obtain ⟨t4, i, g11, g12, g13, g14, g15, g16, g17, g18, g19, g20, g21, g22, g23, g24, g25, g26, rfl, hI⟩ := h; exact hs μ t4 i g11 g12 g13 g14 g15 g16 g17 g18 g19 g20 g21 g22 g23 g24 g25 g26 H hI⟩
theorem laws_eqAtomS_n1 {a_a : Option Addr} {a_e : Nat} {a_n : Nat} {b_a : Option Addr} {b_e : Nat} {b_n : Nat} {Q : Post} {Inv : Nat → Bool → Int → AHeap → Prop} {μ : Nat} (μ' : Nat) {t4 : Bool} {i : Int} {g11 g12 g13 g14 g15 g16 g17 g18 g19 g20 g21 g22 g23 g24 g25 g26 : Value} {H : AHeap} (hm : μ' < μ) (hI : Inv μ' t4 i H) : loopQ (laws_eqAtomS_I1 a_a a_e a_n b_a b_e b_n Inv) μ Q .normal (laws_eqAtomS_P1 a_a a_e a_n b_a b_e b_n t4 i g11 g12 g13 g14 g15 g16 g17 g18 g19 g20 g21 g22 g23 g24 g25 g26) H := ⟨μ', hm, t4, i, g11, g12, g13, g14, g15, g16, g17, g18, g19, g20, g21, g22, g23, g24, g25, g26, rfl, hI⟩
theorem laws_eqAtomS_x1_0 (a_a : Option Addr) (a_e : Nat) (a_n : Nat) (b_a : Option Addr) (b_e : Nat) (b_n : Nat) (t4 : Bool) (i : Int) (g11 g12 g13 g14 g15 g16 g17 g18 g19 g20 g21 g22 g23 g24 g25 g26 : Value) (H : AHeap) (K : Value → AHeap → Prop)  {I : Nat → List Value → AHeap → Prop} {μ : Nat} : loopQ I μ (blockQ 0 (seqQ (exK Try.prog E_laws_eqAtomS (cr (cr (cr (bodyC Try.f42))))) (retK Try.prog Try.f42 K))) (.exit 0) (laws_eqAtomS_P1 a_a a_e a_n b_a b_e b_n t4 i g11 g12 g13 g14 g15 g16 g17 g18 g19 g20 g21 g22 g23 g24 g25 g26) H =
  (K (.bool true) H) := by kernel_rfl
theorem laws_eqAtomS_x1_ret (a_a : Option Addr) (a_e : Nat) (a_n : Nat) (b_a : Option Addr) (b_e : Nat) (b_n : Nat) (t4 : Bool) (i : Int) (g11 g12 g13 g14 g15 g16 g17 g18 g19 g20 g21 g22 g23 g24 g25 g26 : Value) (H : AHeap) (K : Value → AHeap → Prop)  {I : Nat → List Value → AHeap → Prop} {μ : Nat} : loopQ I μ (blockQ 0 (seqQ (exK Try.prog E_laws_eqAtomS (cr (cr (cr (bodyC Try.f42))))) (retK Try.prog Try.f42 K))) .ret (laws_eqAtomS_P1 a_a a_e a_n b_a b_e b_n t4 i g11 g12 g13 g14 g15 g16 g17 g18 g19 g20 g21 g22 g23 g24 g25 g26) H =
  (K (.bool t4) H) := by kernel_rfl
theorem E_laws_eqAtomS_ok : ∀ g, FnOk Try.prog g (E_laws_eqAtomS g) := FnOk.envOf (by
  intro x hx
  simp only [List.mem_cons, List.not_mem_nil, or_false] at hx
  subst hx; exact laws_eqAtom_ok)
set_option maxHeartbeats 1000000 in
theorem laws_eqAtomS_main (a_a : Option Addr) (a_n : Nat) (a_e : Nat) (b_a : Option Addr) (b_n : Nat) (b_e : Nat) (H : AHeap) (K : Value → AHeap → Prop) (h : T_laws_eqAtomS a_a a_n a_e b_a b_n b_e H fun (r1 : Bool) (H' : AHeap) => K (.bool r1) H') : bodyK Try.prog E_laws_eqAtomS Try.f42 [.slice a_a a_n a_e, .slice b_a b_n b_e] H K := by
  rw [laws_eqAtomS_vc]
  obtain ⟨l_a, l_b, i_a, i_b, bd_18, bd_19, hk⟩ := h
  obtain rfl := i_a.eqn
  obtain rfl := i_b.eqn
  have e : (p_laws_eqAtomS l_a l_b) = _ := rfl
  have e := e.trans (p_laws_eqAtomS_eq l_a l_b)
  have g0 := Grow.refl H
  refine Br.intro (fun c_1 => ?_) (fun c_1 => ?_)
  · have e := e.trans (cond_t c_1)
    have c_1' := ine_t c_1
    rw [e] at hk
    exact hk  H g0 
  · have e := e.trans (cond_f c_1)
    have c_1' := ine_f c_1
    refine laws_eqAtomS_L1 _ _ _ _ _ _ (fun (μ : Nat) (t4 : Bool) (i : Int) (H_1 : AHeap) => Grow H H_1 ∧ (0 : Int) ≤ i ∧ i ≤ (l_a.length : Int) ∧ (l_a.length : Int) - i ≤ (μ : Int) ∧ p_laws_eqAtomS l_a l_b = p_laws_eqAtomS_l1 l_a l_b (μ + 1) t4 i) (Int.toNat ((l_a.length : Int) - (0 : Int))) _ _ _ _ _ _ _ _ _ _ _ _ _ _ _ _ _ _ H ?_ ?_
    · exact ⟨g0, o5, o5, o4, e⟩
    · intro μ t4 i g11 g12 g13 g14 g15 g16 g17 g18 g19 g20 g21 g22 g23 g24 g25 g26 H_1 hI
      obtain ⟨g_2, v_3, v_4, hμ, e⟩ := hI
      rw [laws_eqAtomS_r1]
      have e := e.trans (p_laws_eqAtomS_l1_s l_a l_b μ t4 i)
      have l_5 := g_2.1
      refine Br.intro (fun c_6 => ?_) (fun c_6 => ?_)
      · have e := e.trans (cond_t c_6)
        have c_6' := of_decide_eq_true c_6
        obtain ⟨b_7, f_8, q_9⟩ := ((i_a.grow g_2)).pos o0
        refine ⟨by omega, by omega, b_7, f_8, q_9, ?_⟩
        refine ⟨(((l_a).getD (i : Int).toNat (0, 0, 0))).1, (((l_a).getD (i : Int).toNat (0, 0, 0))).2.1, (((l_a).getD (i : Int).toNat (0, 0, 0))).2.2, (i_a).rdN g_2 q_9 o4 _, ?_⟩
        obtain ⟨b_10, f_11, q_12⟩ := ((i_b.grow g_2)).pos o0
        refine ⟨by omega, by omega, b_10, f_11, q_12, ?_⟩
        refine ⟨(((l_b).getD (i : Int).toNat (0, 0, 0))).1, (((l_b).getD (i : Int).toNat (0, 0, 0))).2.1, (((l_b).getD (i : Int).toNat (0, 0, 0))).2.2, (i_b).rdN g_2 q_12 o4 _, ?_⟩
        refine T_laws_eqAtom_i (fun  H_2 g_13  => ?_)
        have l_14 := g_13.1
        have g_15 := g_2.trans g_13
        have l_16 := g_15.1
        refine Br.intro (fun c_17 => ?_) (fun c_17 => ?_)
        · have e := e.trans (cond_t c_17)
          have c_17n := nf_of_t c_17
          rw [laws_eqAtomS_x1_ret]
          rw [e] at hk
          exact hk  H_2 g_15 
        · have e := e.trans (cond_f c_17)
          have c_17n := nt_of_f c_17
          rw [show IntKind.wrap .i64 (i + 1) = (i + 1) from wrap64 o4 o4]
          refine laws_eqAtomS_n1 (μ - 1) o12 ⟨g_15, o1, o1, o12, (by rw [show μ - 1 + 1 = μ from by first | omega]; exact e)⟩
      · have e := e.trans (cond_f c_6)
        have c_6' := of_decide_eq_false c_6
        rw [laws_eqAtomS_x1_0]
        rw [e] at hk
        exact hk  H_1 g_2 
theorem laws_eqAtomS_ok : FnOk Try.prog 42 S_laws_eqAtomS := by
  refine FnOk.body mix_ok E_laws_eqAtomS_ok Try.func42 rfl (by kernel_rfl) (by kernel_rfl) ?_ ?_ ?_ ?_ ?_
  · intro args H K K' h hk
    simp only [S_laws_eqAtomS] at *
    unfold F_laws_eqAtomS at *
    split at hk
    · obtain ⟨l_a, l_b, i_a, i_b, bd_18, bd_19, k⟩ := hk
      exact ⟨l_a, l_b, i_a, i_b, bd_18, bd_19, (fun  H' gg  => h _ _ (k  H' gg ))⟩
    · exact hk.elim
  · intro hq; cases hq
  · intro args H K hk
    simp only [S_laws_eqAtomS] at *
    unfold F_laws_eqAtomS at *
    split at hk
    · obtain ⟨l_a, l_b, i_a, i_b, bd_18, bd_19, k⟩ := hk
      exact ⟨_, _, k H (Grow.refl H)⟩
    · exact hk.elim
  · intro _ args H K hk
    simp only [S_laws_eqAtomS] at *
    unfold F_laws_eqAtomS at *
    split at hk
    · obtain ⟨l_a, l_b, i_a, i_b, bd_18, bd_19, k⟩ := hk
      exact ⟨l_a, l_b, i_a, i_b, bd_18, bd_19, (fun  H' gg  => ⟨gg, k  H' gg ⟩)⟩
    · exact hk.elim
  · have mm := @laws_eqAtomS_main
    revert mm
    generalize bodyK Try.prog E_laws_eqAtomS Try.f42 = Q
    intro mm args H K hk
    simp only [S_laws_eqAtomS] at *
    unfold F_laws_eqAtomS at *
    split at hk
    · exact mm _ _ _ _ _ _ H K hk
    · exact hk.elim

def p_laws_markAtomS_l1 (l_a : List (Int × Nat × Nat)) (k : Int) : Nat → Int → Int → (List (Int × Nat × Nat)) → Int × (List (Int × Nat × Nat))
  | 0, _, _, _ => (0, [])
  | μ + 1, k_1, i, y1_1 => (bif decide ((i : Int) < (l_a.length : Int)) then (p_laws_markAtomS_l1 l_a k μ (IntKind.wrap .i64 ((IntKind.wrap .i64 ((IntKind.wrap .i64 (k_1 + 1)) + 1)) + 1)) (i + 1) (((((((y1_1).set (i : Int).toNat ((k_1 : Int), (((y1_1).getD (i : Int).toNat (0, 0, 0))).2.1, (((y1_1).getD (i : Int).toNat (0, 0, 0))).2.2))).set (i : Int).toNat ((((((y1_1).set (i : Int).toNat ((k_1 : Int), (((y1_1).getD (i : Int).toNat (0, 0, 0))).2.1, (((y1_1).getD (i : Int).toNat (0, 0, 0))).2.2))).getD (i : Int).toNat (0, 0, 0))).1, (FloatKind.nearest .f32 (IntKind.wrap .i64 (k_1 + 1))), (((((y1_1).set (i : Int).toNat ((k_1 : Int), (((y1_1).getD (i : Int).toNat (0, 0, 0))).2.1, (((y1_1).getD (i : Int).toNat (0, 0, 0))).2.2))).getD (i : Int).toNat (0, 0, 0))).2.2))).set (i : Int).toNat ((((((((y1_1).set (i : Int).toNat ((k_1 : Int), (((y1_1).getD (i : Int).toNat (0, 0, 0))).2.1, (((y1_1).getD (i : Int).toNat (0, 0, 0))).2.2))).set (i : Int).toNat ((((((y1_1).set (i : Int).toNat ((k_1 : Int), (((y1_1).getD (i : Int).toNat (0, 0, 0))).2.1, (((y1_1).getD (i : Int).toNat (0, 0, 0))).2.2))).getD (i : Int).toNat (0, 0, 0))).1, (FloatKind.nearest .f32 (IntKind.wrap .i64 (k_1 + 1))), (((((y1_1).set (i : Int).toNat ((k_1 : Int), (((y1_1).getD (i : Int).toNat (0, 0, 0))).2.1, (((y1_1).getD (i : Int).toNat (0, 0, 0))).2.2))).getD (i : Int).toNat (0, 0, 0))).2.2))).getD (i : Int).toNat (0, 0, 0))).1, (((((((y1_1).set (i : Int).toNat ((k_1 : Int), (((y1_1).getD (i : Int).toNat (0, 0, 0))).2.1, (((y1_1).getD (i : Int).toNat (0, 0, 0))).2.2))).set (i : Int).toNat ((((((y1_1).set (i : Int).toNat ((k_1 : Int), (((y1_1).getD (i : Int).toNat (0, 0, 0))).2.1, (((y1_1).getD (i : Int).toNat (0, 0, 0))).2.2))).getD (i : Int).toNat (0, 0, 0))).1, (FloatKind.nearest .f32 (IntKind.wrap .i64 (k_1 + 1))), (((((y1_1).set (i : Int).toNat ((k_1 : Int), (((y1_1).getD (i : Int).toNat (0, 0, 0))).2.1, (((y1_1).getD (i : Int).toNat (0, 0, 0))).2.2))).getD (i : Int).toNat (0, 0, 0))).2.2))).getD (i : Int).toNat (0, 0, 0))).2.1, (FloatKind.nearest .f32 (IntKind.wrap .i64 ((IntKind.wrap .i64 (k_1 + 1)) + 1))))))) else (k_1, y1_1))
def p_laws_markAtomS_l1_s := fun l_a k μ k_1 i y1_1 => @p_laws_markAtomS_l1.eq_2 l_a k k_1 i y1_1 μ
def p_laws_markAtomS (l_a : List (Int × Nat × Nat)) (k : Int) : Int × (List (Int × Nat × Nat)) := (p_laws_markAtomS_l1 l_a k (Int.toNat ((l_a.length : Int) - (0 : Int)) + 1) k (0 : Int) l_a)
def p_laws_markAtomS_eq := @p_laws_markAtomS.eq_1
def T_laws_markAtomS (a_a : Option Addr) (a_n : Nat) (a_e : Nat) (k : Int) (H : AHeap) (K : Int → AHeap → Prop) : Prop := ∃ lo : Nat, ∃ (l_a : List (Int × Nat × Nat)), OwnT fA H lo a_a a_n a_e l_a ∧ l_a.length < 1073741824 ∧ ((∀ H' : AHeap, KeepA a_a H H' → OwnT fA H' lo a_a a_n a_e (marksA k l_a.length) → K (wkA k l_a.length) H'))
theorem T_laws_markAtomS_i {a_a : Option Addr} {a_n : Nat} {a_e : Nat} {k : Int} {H : AHeap} {K : Int → AHeap → Prop} (h : ∃ lo : Nat, ∃ (l_a : List (Int × Nat × Nat)), OwnT fA H lo a_a a_n a_e l_a ∧ l_a.length < 1073741824 ∧ ((∀ H' : AHeap, KeepA a_a H H' → OwnT fA H' lo a_a a_n a_e (marksA k l_a.length) → K (wkA k l_a.length) H'))) : T_laws_markAtomS a_a a_n a_e k H K := h
theorem laws_markAtomS_go (l : List (Int × Nat × Nat)) (k0 : Int) : ∀ (μ : Nat) (k : Int) (i : Nat) (ys : List (Int × Nat × Nat)), ys.length = l.length → i ≤ l.length → l.length - i < μ →
    p_laws_markAtomS_l1 l k0 μ k (i : Int) ys = (wkA k (l.length - i), ys.take i ++ marksA k (l.length - i)) := by
  intro μ
  induction μ with
  | zero => intro k i ys _ _ h; omega
  | succ μ ih =>
    intro k i ys hy hi hm
    rw [p_laws_markAtomS_l1_s]
    by_cases h : i < l.length
    · rw [decide_eq_true (show (i : Int) < (l.length : Int) by omega), cond_true, Int.toNat_natCast]
      have hset : ∀ (zs : List (Int × Nat × Nat)) (x : Int × Nat × Nat), i < zs.length → (zs.set i x).getD i (0, 0, 0) = x := by
        intro zs x hz
        rw [List.getD_eq_getElem?_getD, List.getElem?_set_self hz]; rfl
      simp only [List.set_set]
      rw [hset ys _ o4]
      simp only [hset ys _ (by omega : i < ys.length)]
      have := ih (w3 k) (i + 1) (ys.set i (k, FloatKind.nearest .f32 (IntKind.wrap .i64 (k + 1)), FloatKind.nearest .f32 (IntKind.wrap .i64 ((IntKind.wrap .i64 (k + 1)) + 1)))) (by simp [hy]) o4 o4
      obtain ⟨d, hd⟩ : ∃ d, l.length - i = d + 1 := ⟨l.length - i - 1, by omega⟩
      rw [show l.length - (i + 1) = d by omega] at this
      rw [hd, wkA, marksA]
      refine Eq.trans this ?_
      rw [List.take_add_one, List.getElem?_set_self o4, List.take_set_of_le (Nat.le_refl i)]
      simp
    · rw [decide_eq_false (show ¬ (i : Int) < (l.length : Int) by omega), cond_false]
      rw [show l.length - i = 0 by omega, wkA, marksA, List.append_nil, List.take_of_length_le o4]
theorem laws_markAtomS_val (l : List (Int × Nat × Nat)) (k : Int) : p_laws_markAtomS l k = (wkA k l.length, marksA k l.length) := by
  rw [p_laws_markAtomS_eq]
  have := laws_markAtomS_go l k (Int.toNat ((l.length : Int) - 0) + 1) k 0 l rfl o4 o4
  simpa using this
/-! laws_markAtomS: function 43 -/
def E_laws_markAtomS : Env := envOf []
def F_laws_markAtomS : List Value → AHeap → (Value → AHeap → Prop) → Prop
  | [.slice a_a a_n a_e, .int .i64 k], H, K => T_laws_markAtomS a_a a_n a_e k H fun (r1 : Int) (H' : AHeap) => K (.int .i64 r1) H'
  | _, _, _ => False
def S_laws_markAtomS : FSpec := { F := F_laws_markAtomS, quiet := false, tame := false }
theorem laws_markAtomS_vc (a_a : Option Addr) (a_n : Nat) (a_e : Nat) (k : Int) (H : AHeap) (K : Value → AHeap → Prop) : bodyK Try.prog E_laws_markAtomS Try.f43 [.slice a_a a_n a_e, .int .i64 k] H K =
  (loopK (exK Try.prog E_laws_markAtomS (cl (cl (cr (cl (cr (bodyC Try.f43))))))) [.slice a_a a_n a_e, .int .i64 k, undef, undef, .int .i64 0, .int .i64 0, undef, undef, undef, undef, undef, undef, undef, undef, undef, undef, undef, undef, undef, undef, undef, undef, undef, undef, undef, undef, undef, undef, undef, undef, undef, undef, undef, undef, undef, undef] H (blockQ 0 (seqQ (exK Try.prog E_laws_markAtomS (cr (cr (bodyC Try.f43)))) (retK Try.prog Try.f43 K)))) := by kernel_rfl
abbrev laws_markAtomS_P1 (a_a : Option Addr) (a_e : Nat) (a_n : Nat) (k_1 : Int) (i : Int) (g6 g7 g8 g9 g10 g11 g12 g13 g14 g15 g16 g17 g18 g19 g20 g21 g22 g23 g24 g25 g26 g27 g28 g29 g30 g31 g32 g33 g34 : Value) : List Value := [.slice a_a a_n a_e, .int .i64 k_1, undef, undef, .int .i64 0, .int .i64 i, g6, g7, g8, g9, g10, g11, g12, g13, g14, g15, g16, g17, g18, g19, g20, g21, g22, g23, g24, g25, g26, g27, g28, g29, g30, g31, g32, g33, g34, undef]
theorem laws_markAtomS_r1 (a_a : Option Addr) (a_e : Nat) (a_n : Nat) (k_1 : Int) (i : Int) (g6 g7 g8 g9 g10 g11 g12 g13 g14 g15 g16 g17 g18 g19 g20 g21 g22 g23 g24 g25 g26 g27 g28 g29 g30 g31 g32 g33 g34 : Value) (H : AHeap) (R : Post) : exK Try.prog E_laws_markAtomS (cl (cl (cr (cl (cr (bodyC Try.f43)))))) (laws_markAtomS_P1 a_a a_e a_n k_1 i g6 g7 g8 g9 g10 g11 g12 g13 g14 g15 g16 g17 g18 g19 g20 g21 g22 g23 g24 g25 g26 g27 g28 g29 g30 g31 g32 g33 g34) H R =
  (Br (decide ((i : Int) < (a_n : Int))) ((0 : Int) ≤ i ∧ i < (a_n : Int) ∧ ∃ b1 f1, (a_a : Option Addr) = some ⟨b1, f1, none⟩ ∧ isOwn H b1 ∧ (∃ l, rdN H b1 ((f1 + (i : Int).toNat * 3 + 0)) 1 = some l) ∧ Lt (setC H b1 ((f1 + (i : Int).toNat * 3 + 0)) (.int .i64 k_1)) fun H1 => (0 : Int) ≤ i ∧ i < (a_n : Int) ∧ ∃ b2 f2, (a_a : Option Addr) = some ⟨b2, f2, none⟩ ∧ isOwn H1 b2 ∧ (∃ l, rdN H1 b2 ((f2 + (i : Int).toNat * 3 + 1)) 1 = some l) ∧ Lt (setC H1 b2 ((f2 + (i : Int).toNat * 3 + 1)) (.float .f32 (FloatKind.nearest .f32 (IntKind.wrap .i64 (k_1 + 1))))) fun H2 => (0 : Int) ≤ i ∧ i < (a_n : Int) ∧ ∃ b3 f3, (a_a : Option Addr) = some ⟨b3, f3, none⟩ ∧ isOwn H2 b3 ∧ (∃ l, rdN H2 b3 ((f3 + (i : Int).toNat * 3 + 2)) 1 = some l) ∧ Lt (setC H2 b3 ((f3 + (i : Int).toNat * 3 + 2)) (.float .f32 (FloatKind.nearest .f32 (IntKind.wrap .i64 ((IntKind.wrap .i64 (k_1 + 1)) + 1))))) fun H3 => R .normal [.slice a_a a_n a_e, .int .i64 (IntKind.wrap .i64 ((IntKind.wrap .i64 ((IntKind.wrap .i64 (k_1 + 1)) + 1)) + 1)), undef, undef, .int .i64 0, .int .i64 (IntKind.wrap .i64 (i + 1)), .int .i64 i, .slice a_a a_n a_e, .int .i64 (a_n : Int), .bool (decide ((i : Int) < (a_n : Int))), .int .i64 i, .int .i64 (IntKind.wrap .i64 (i + 1)), .slice a_a a_n a_e, .int .i64 i, .int .i64 k_1, .pointer (some ⟨b1, f1 + (i : Int).toNat * 3, none⟩), .pointer (some ⟨b1, (f1 + (i : Int).toNat * 3 + 0), none⟩), .int .i64 k_1, .int .i64 (IntKind.wrap .i64 (k_1 + 1)), .slice a_a a_n a_e, .int .i64 i, .int .i64 (IntKind.wrap .i64 (k_1 + 1)), .float .f32 (FloatKind.nearest .f32 (IntKind.wrap .i64 (k_1 + 1))), .pointer (some ⟨b2, f2 + (i : Int).toNat * 3, none⟩), .pointer (some ⟨b2, (f2 + (i : Int).toNat * 3 + 1), none⟩), .int .i64 (IntKind.wrap .i64 (k_1 + 1)), .int .i64 (IntKind.wrap .i64 ((IntKind.wrap .i64 (k_1 + 1)) + 1)), .slice a_a a_n a_e, .int .i64 i, .int .i64 (IntKind.wrap .i64 ((IntKind.wrap .i64 (k_1 + 1)) + 1)), .float .f32 (FloatKind.nearest .f32 (IntKind.wrap .i64 ((IntKind.wrap .i64 (k_1 + 1)) + 1))), .pointer (some ⟨b3, f3 + (i : Int).toNat * 3, none⟩), .pointer (some ⟨b3, (f3 + (i : Int).toNat * 3 + 2), none⟩), .int .i64 (IntKind.wrap .i64 ((IntKind.wrap .i64 (k_1 + 1)) + 1)), .int .i64 (IntKind.wrap .i64 ((IntKind.wrap .i64 ((IntKind.wrap .i64 (k_1 + 1)) + 1)) + 1)), undef] H3) (R (.exit 0) [.slice a_a a_n a_e, .int .i64 k_1, undef, undef, .int .i64 0, .int .i64 i, .int .i64 i, .slice a_a a_n a_e, .int .i64 (a_n : Int), .bool (decide ((i : Int) < (a_n : Int))), g10, g11, g12, g13, g14, g15, g16, g17, g18, g19, g20, g21, g22, g23, g24, g25, g26, g27, g28, g29, g30, g31, g32, g33, g34, undef] H)) := by kernel_rfl
def laws_markAtomS_I1 (a_a : Option Addr) (a_e : Nat) (a_n : Nat) (Inv : Nat → Int → Int → AHeap → Prop) : Nat → List Value → AHeap → Prop := fun μ tm H => ∃ (k_1 : Int), ∃ (i : Int), ∃ g6 g7 g8 g9 g10 g11 g12 g13 g14 g15 g16 g17 g18 g19 g20 g21 g22 g23 g24 g25 g26 g27 g28 g29 g30 g31 g32 g33 g34, tm = (laws_markAtomS_P1 a_a a_e a_n k_1 i g6 g7 g8 g9 g10 g11 g12 g13 g14 g15 g16 g17 g18 g19 g20 g21 g22 g23 g24 g25 g26 g27 g28 g29 g30 g31 g32 g33 g34) ∧ Inv μ k_1 i H
theorem laws_markAtomS_L1 (a_a : Option Addr) (a_e : Nat) (a_n : Nat) {Q : Post} (Inv : Nat → Int → Int → AHeap → Prop) (ν : Nat) (k_1 : Int) (i : Int) (g6 g7 g8 g9 g10 g11 g12 g13 g14 g15 g16 g17 g18 g19 g20 g21 g22 g23 g24 g25 g26 g27 g28 g29 g30 g31 g32 g33 g34 : Value) (H : AHeap) (h0 : Inv ν k_1 i H)
    (hs : ∀ (μ : Nat) (k_1 : Int) (i : Int) (g6 g7 g8 g9 g10 g11 g12 g13 g14 g15 g16 g17 g18 g19 g20 g21 g22 g23 g24 g25 g26 g27 g28 g29 g30 g31 g32 g33 g34 : Value) (H : AHeap), Inv μ k_1 i H → exK Try.prog E_laws_markAtomS (cl (cl (cr (cl (cr (bodyC Try.f43)))))) (laws_markAtomS_P1 a_a a_e a_n k_1 i g6 g7 g8 g9 g10 g11 g12 g13 g14 g15 g16 g17 g18 g19 g20 g21 g22 g23 g24 g25 g26 g27 g28 g29 g30 g31 g32 g33 g34) H (loopQ (laws_markAtomS_I1 a_a a_e a_n Inv) μ Q)) : loopK (exK Try.prog E_laws_markAtomS (cl (cl (cr (cl (cr (bodyC Try.f43))))))) (laws_markAtomS_P1 a_a a_e a_n k_1 i g6 g7 g8 g9 g10 g11 g12 g13 g14 g15 g16 g17 g18 g19 g20 g21 g22 g23 g24 g25 g26 g27 g28 g29 g30 g31 g32 g33 g34) H Q :=
  ⟨laws_markAtomS_I1 a_a a_e a_n Inv, ν, ⟨k_1, i, g6, g7, g8, g9, g10, g11, g12, g13, g14, g15, g16, g17, g18, g19, g20, g21, g22, g23, g24, g25, g26, g27, g28, g29, g30, g31, g32, g33, g34, rfl, h0⟩, fun μ tm H h => by obtain ⟨k_1, i, g6, g7, g8, g9, g10, g11, g12, g13, g14, g15, g16, g17, g18, g19, g20, g21, g22, g23, g24, g25, g26, g27, g28, g29, g30, g31, g32, g33, g34, rfl, hI⟩ := h; exact hs μ k_1 i g6 g7 g8 g9 g10 g11 g12 g13 g14 g15 g16 g17 g18 g19 g20 g21 g22 g23 g24 g25 g26 g27 g28 g29 g30 g31 g32 g33 g34 H hI⟩
theorem laws_markAtomS_n1 {a_a : Option Addr} {a_e : Nat} {a_n : Nat} {Q : Post} {Inv : Nat → Int → Int → AHeap → Prop} {μ : Nat} (μ' : Nat) {k_1 : Int} {i : Int} {g6 g7 g8 g9 g10 g11 g12 g13 g14 g15 g16 g17 g18 g19 g20 g21 g22 g23 g24 g25 g26 g27 g28 g29 g30 g31 g32 g33 g34 : Value} {H : AHeap} (hm : μ' < μ) (hI : Inv μ' k_1 i H) : loopQ (laws_markAtomS_I1 a_a a_e a_n Inv) μ Q .normal (laws_markAtomS_P1 a_a a_e a_n k_1 i g6 g7 g8 g9 g10 g11 g12 g13 g14 g15 g16 g17 g18 g19 g20 g21 g22 g23 g24 g25 g26 g27 g28 g29 g30 g31 g32 g33 g34) H := ⟨μ', hm, k_1, i, g6, g7, g8, g9, g10, g11, g12, g13, g14, g15, g16, g17, g18, g19, g20, g21, g22, g23, g24, g25, g26, g27, g28, g29, g30, g31, g32, g33, g34, rfl, hI⟩
theorem laws_markAtomS_x1_0 (a_a : Option Addr) (a_e : Nat) (a_n : Nat) (k_1 : Int) (i : Int) (g6 g7 g8 g9 g10 g11 g12 g13 g14 g15 g16 g17 g18 g19 g20 g21 g22 g23 g24 g25 g26 g27 g28 g29 g30 g31 g32 g33 g34 : Value) (H : AHeap) (K : Value → AHeap → Prop)  {I : Nat → List Value → AHeap → Prop} {μ : Nat} : loopQ I μ (blockQ 0 (seqQ (exK Try.prog E_laws_markAtomS (cr (cr (bodyC Try.f43)))) (retK Try.prog Try.f43 K))) (.exit 0) (laws_markAtomS_P1 a_a a_e a_n k_1 i g6 g7 g8 g9 g10 g11 g12 g13 g14 g15 g16 g17 g18 g19 g20 g21 g22 g23 g24 g25 g26 g27 g28 g29 g30 g31 g32 g33 g34) H =
  (K (.int .i64 k_1) H) := by kernel_rfl
theorem E_laws_markAtomS_ok : ∀ g, FnOk Try.prog g (E_laws_markAtomS g) := FnOk.envOf (by
  intro x hx; cases hx)
theorem o10 {P : Prop} (h : P := by first | omega | (simp only [List.length_set]; (first | omega | (simp only [List.length_set, List.length_replicate, List.length_append, List.length_cons, List.length_nil, List.length_take, List.length_drop, marks_length]; done) | (simp only [List.length_set, List.length_replicate, List.length_append, List.length_cons, List.length_nil, List.length_take, List.length_drop, marks_length]; omega)))) : P := h
set_option maxHeartbeats 1000000 in
theorem laws_markAtomS_main (a_a : Option Addr) (a_n : Nat) (a_e : Nat) (k : Int) (H : AHeap) (K : Value → AHeap → Prop) (h : T_laws_markAtomS a_a a_n a_e k H fun (r1 : Int) (H' : AHeap) => K (.int .i64 r1) H') : bodyK Try.prog E_laws_markAtomS Try.f43 [.slice a_a a_n a_e, .int .i64 k] H K := by
  rw [laws_markAtomS_vc]
  obtain ⟨lo, l_a, i_a, bd_36, hk⟩ := h
  have hk : (∀ H' : AHeap, KeepA a_a H H' → OwnT fA H' lo a_a a_n a_e ((p_laws_markAtomS l_a k).2) → (fun (r1 : Int) (H' : AHeap) => K (.int .i64 r1) H') ((p_laws_markAtomS l_a k).1) H') := by rw [laws_markAtomS_val l_a k]; exact hk
  obtain rfl := i_a.len
  have up_m := i_a.up
  have lo_m := i_a.lo
  have e : (p_laws_markAtomS l_a k) = _ := rfl
  have e := e.trans (p_laws_markAtomS_eq l_a k)
  have g0 := KeepA.refl a_a H
  refine laws_markAtomS_L1 _ _ _ (fun (μ : Nat) (k_1 : Int) (i : Int) (H_1 : AHeap) => ∃ (y1_1 : List (Int × Nat × Nat)), OwnT fA H_1 lo a_a l_a.length a_e y1_1 ∧ y1_1.length = (l_a).length ∧ H.length ≤ H_1.length ∧ KeepA a_a H H_1 ∧ (0 : Int) ≤ i ∧ i ≤ (l_a.length : Int) ∧ (l_a.length : Int) - i ≤ (μ : Int) ∧ p_laws_markAtomS l_a k = p_laws_markAtomS_l1 l_a k (μ + 1) k_1 i y1_1) (Int.toNat ((l_a.length : Int) - (0 : Int))) _ _ _ _ _ _ _ _ _ _ _ _ _ _ _ _ _ _ _ _ _ _ _ _ _ _ _ _ _ _ _ H ?_ ?_
  · exact ⟨_, i_a, o20, o4, g0, o5, o5, o4, e⟩
  · intro μ k_1 i g6 g7 g8 g9 g10 g11 g12 g13 g14 g15 g16 g17 g18 g19 g20 g21 g22 g23 g24 g25 g26 g27 g28 g29 g30 g31 g32 g33 g34 H_1 hI
    obtain ⟨y1_1, r_1, y_2, n_3, g_4, v_5, v_6, hμ, e⟩ := hI
    rw [laws_markAtomS_r1]
    have e := e.trans (p_laws_markAtomS_l1_s l_a k μ k_1 i y1_1)
    have l_7 := g_4.1
    refine Br.intro (fun c_8 => ?_) (fun c_8 => ?_)
    · have e := e.trans (cond_t c_8)
      have c_8' := of_decide_eq_true c_8
      obtain ⟨b_9, f_10, q_11⟩ := (r_1.isL).pos o0
      refine ⟨by omega, by omega, b_9, f_10, q_11, ?_⟩
      refine Lt.setT (j := 0) (d := (0, 0, 0)) (x := ((k_1 : Int), (((y1_1).getD (i : Int).toNat (0, 0, 0))).2.1, (((y1_1).getD (i : Int).toNat (0, 0, 0))).2.2)) r_1 q_11 o10 o22 rfl (fun H_2 hl_12 o_14 k_13 => ?_)
      have l_15 := k_13.1
      have g_16 := g_4.transA k_13
      have l_17 := g_16.1
      obtain ⟨b_18, f_19, q_20⟩ := (o_14.isL).pos o0
      refine ⟨by omega, by omega, b_18, f_19, q_20, ?_⟩
      refine Lt.setT (j := 1) (d := (0, 0, 0)) (x := ((((((y1_1).set (i : Int).toNat ((k_1 : Int), (((y1_1).getD (i : Int).toNat (0, 0, 0))).2.1, (((y1_1).getD (i : Int).toNat (0, 0, 0))).2.2))).getD (i : Int).toNat (0, 0, 0))).1, (FloatKind.nearest .f32 (IntKind.wrap .i64 (k_1 + 1))), (((((y1_1).set (i : Int).toNat ((k_1 : Int), (((y1_1).getD (i : Int).toNat (0, 0, 0))).2.1, (((y1_1).getD (i : Int).toNat (0, 0, 0))).2.2))).getD (i : Int).toNat (0, 0, 0))).2.2)) o_14 q_20 o10 o22 rfl (fun H_3 hl_21 o_23 k_22 => ?_)
      have l_24 := k_22.1
      have g_25 := g_16.transA k_22
      have l_26 := g_25.1
      obtain ⟨b_27, f_28, q_29⟩ := (o_23.isL).pos o0
      refine ⟨by omega, by omega, b_27, f_28, q_29, ?_⟩
      refine Lt.setT (j := 2) (d := (0, 0, 0)) (x := ((((((((y1_1).set (i : Int).toNat ((k_1 : Int), (((y1_1).getD (i : Int).toNat (0, 0, 0))).2.1, (((y1_1).getD (i : Int).toNat (0, 0, 0))).2.2))).set (i : Int).toNat ((((((y1_1).set (i : Int).toNat ((k_1 : Int), (((y1_1).getD (i : Int).toNat (0, 0, 0))).2.1, (((y1_1).getD (i : Int).toNat (0, 0, 0))).2.2))).getD (i : Int).toNat (0, 0, 0))).1, (FloatKind.nearest .f32 (IntKind.wrap .i64 (k_1 + 1))), (((((y1_1).set (i : Int).toNat ((k_1 : Int), (((y1_1).getD (i : Int).toNat (0, 0, 0))).2.1, (((y1_1).getD (i : Int).toNat (0, 0, 0))).2.2))).getD (i : Int).toNat (0, 0, 0))).2.2))).getD (i : Int).toNat (0, 0, 0))).1, (((((((y1_1).set (i : Int).toNat ((k_1 : Int), (((y1_1).getD (i : Int).toNat (0, 0, 0))).2.1, (((y1_1).getD (i : Int).toNat (0, 0, 0))).2.2))).set (i : Int).toNat ((((((y1_1).set (i : Int).toNat ((k_1 : Int), (((y1_1).getD (i : Int).toNat (0, 0, 0))).2.1, (((y1_1).getD (i : Int).toNat (0, 0, 0))).2.2))).getD (i : Int).toNat (0, 0, 0))).1, (FloatKind.nearest .f32 (IntKind.wrap .i64 (k_1 + 1))), (((((y1_1).set (i : Int).toNat ((k_1 : Int), (((y1_1).getD (i : Int).toNat (0, 0, 0))).2.1, (((y1_1).getD (i : Int).toNat (0, 0, 0))).2.2))).getD (i : Int).toNat (0, 0, 0))).2.2))).getD (i : Int).toNat (0, 0, 0))).2.1, (FloatKind.nearest .f32 (IntKind.wrap .i64 ((IntKind.wrap .i64 (k_1 + 1)) + 1))))) o_23 q_29 o10 o22 rfl (fun H_4 hl_30 o_32 k_31 => ?_)
      have l_33 := k_31.1
      have g_34 := g_25.transA k_31
      have l_35 := g_34.1
      rw [show IntKind.wrap .i64 (i + 1) = (i + 1) from wrap64 o4 o4]
      refine laws_markAtomS_n1 (μ - 1) o12 ⟨_, o_32, o13, o4, g_34, o1, o1, o12, (by rw [show μ - 1 + 1 = μ from by first | omega]; exact e)⟩
    · have e := e.trans (cond_f c_8)
      have c_8' := of_decide_eq_false c_8
      rw [laws_markAtomS_x1_0]
      rw [e] at hk
      exact hk H_1 g_4 r_1
theorem laws_markAtomS_ok : FnOk Try.prog 43 S_laws_markAtomS := by
  refine FnOk.body mix_ok E_laws_markAtomS_ok Try.func43 rfl (by kernel_rfl) (by kernel_rfl) ?_ ?_ ?_ ?_ ?_
  · intro args H K K' h hk
    simp only [S_laws_markAtomS] at *
    unfold F_laws_markAtomS at *
    split at hk
    · obtain ⟨lo, l_a, i_a, bd_36, k⟩ := hk
      exact ⟨lo, l_a, i_a, bd_36, (fun H' gg ow => h _ _ (k H' gg ow))⟩
    · exact hk.elim
  · intro hq; cases hq
  · intro args H K hk
    simp only [S_laws_markAtomS] at *
    unfold F_laws_markAtomS at *
    split at hk
    · obtain ⟨lo, l_a, i_a, bd_36, k⟩ := hk
      exact (i_a.put _ (by rw [marksA_length])).elim fun H1 h => ⟨_, _, k H1 h.1 h.2⟩
    · exact hk.elim
  · intro hq; cases hq
  · have mm := @laws_markAtomS_main
    revert mm
    generalize bodyK Try.prog E_laws_markAtomS Try.f43 = Q
    intro mm args H K hk
    simp only [S_laws_markAtomS] at *
    unfold F_laws_markAtomS at *
    split at hk
    · exact mm _ _ _ _ H K hk
    · exact hk.elim

def p_laws_markFloat32S_l1 (l_a : List Nat) (k : Int) : Nat → Int → Int → (List Nat) → Int × (List Nat)
  | 0, _, _, _ => (0, [])
  | μ + 1, k_1, i, y1_1 => (bif decide ((i : Int) < (l_a.length : Int)) then (p_laws_markFloat32S_l1 l_a k μ (IntKind.wrap .i64 (k_1 + 1)) (i + 1) (((y1_1).set (i : Int).toNat (FloatKind.nearest .f32 k_1)))) else (k_1, y1_1))
def p_laws_markFloat32S_l1_s := fun l_a k μ k_1 i y1_1 => @p_laws_markFloat32S_l1.eq_2 l_a k k_1 i y1_1 μ
def p_laws_markFloat32S (l_a : List Nat) (k : Int) : Int × (List Nat) := (p_laws_markFloat32S_l1 l_a k (Int.toNat ((l_a.length : Int) - (0 : Int)) + 1) k (0 : Int) l_a)
def p_laws_markFloat32S_eq := @p_laws_markFloat32S.eq_1
def T_laws_markFloat32S (a_a : Option Addr) (a_n : Nat) (a_e : Nat) (k : Int) (H : AHeap) (K : Int → AHeap → Prop) : Prop := ∃ lo : Nat, ∃ (l_a : List Nat), OwnS fF H lo a_a a_n a_e l_a ∧ l_a.length < 1073741824 ∧ ((∀ H' : AHeap, KeepA a_a H H' → OwnS fF H' lo a_a a_n a_e (marks (FloatKind.nearest .f32) k l_a.length) → K (wk k l_a.length) H'))
theorem T_laws_markFloat32S_i {a_a : Option Addr} {a_n : Nat} {a_e : Nat} {k : Int} {H : AHeap} {K : Int → AHeap → Prop} (h : ∃ lo : Nat, ∃ (l_a : List Nat), OwnS fF H lo a_a a_n a_e l_a ∧ l_a.length < 1073741824 ∧ ((∀ H' : AHeap, KeepA a_a H H' → OwnS fF H' lo a_a a_n a_e (marks (FloatKind.nearest .f32) k l_a.length) → K (wk k l_a.length) H'))) : T_laws_markFloat32S a_a a_n a_e k H K := h
theorem laws_markFloat32S_go (l : List Nat) (k0 : Int) : ∀ (μ : Nat) (k : Int) (i : Nat) (ys : List Nat), ys.length = l.length → i ≤ l.length → l.length - i < μ →
    p_laws_markFloat32S_l1 l k0 μ k (i : Int) ys = (wk k (l.length - i), ys.take i ++ marks (FloatKind.nearest .f32) k (l.length - i)) := by
  intro μ
  induction μ with
  | zero => intro k i ys _ _ h; omega
  | succ μ ih =>
    intro k i ys hy hi hm
    rw [p_laws_markFloat32S_l1_s]
    by_cases h : i < l.length
    · rw [decide_eq_true (show (i : Int) < (l.length : Int) by omega), cond_true, Int.toNat_natCast]
      have := ih (IntKind.wrap .i64 (k + 1)) (i + 1) (ys.set i ((FloatKind.nearest .f32) k)) (by simp [hy]) o4 o4
      obtain ⟨d, hd⟩ : ∃ d, l.length - i = d + 1 := ⟨l.length - i - 1, by omega⟩
      rw [show l.length - (i + 1) = d by omega] at this
      rw [hd, wk, marks]
      refine Eq.trans this ?_
      rw [List.take_add_one, List.getElem?_set_self o4, List.take_set_of_le (Nat.le_refl i)]
      simp
    · rw [decide_eq_false (show ¬ (i : Int) < (l.length : Int) by omega), cond_false]
      rw [show l.length - i = 0 by omega, wk, marks, List.append_nil, List.take_of_length_le o4]
theorem laws_markFloat32S_val (l : List Nat) (k : Int) : p_laws_markFloat32S l k = (wk k l.length, marks (FloatKind.nearest .f32) k l.length) := by
  rw [p_laws_markFloat32S_eq]
  have := laws_markFloat32S_go l k (Int.toNat ((l.length : Int) - 0) + 1) k 0 l rfl o4 o4
  simpa using this
/-! laws_markFloat32S: function 15 -/
def E_laws_markFloat32S : Env := envOf []
def F_laws_markFloat32S : List Value → AHeap → (Value → AHeap → Prop) → Prop
  | [.slice a_a a_n a_e, .int .i64 k], H, K => T_laws_markFloat32S a_a a_n a_e k H fun (r1 : Int) (H' : AHeap) => K (.int .i64 r1) H'
  | _, _, _ => False
def S_laws_markFloat32S : FSpec := { F := F_laws_markFloat32S, quiet := false, tame := false }
theorem laws_markFloat32S_vc (a_a : Option Addr) (a_n : Nat) (a_e : Nat) (k : Int) (H : AHeap) (K : Value → AHeap → Prop) : bodyK Try.prog E_laws_markFloat32S Try.f15 [.slice a_a a_n a_e, .int .i64 k] H K =
  (loopK (exK Try.prog E_laws_markFloat32S (cl (cl (cr (cl (cr (bodyC Try.f15))))))) [.slice a_a a_n a_e, .int .i64 k, undef, undef, .int .i64 0, .int .i64 0, undef, undef, undef, undef, undef, undef, undef, undef, undef, undef, undef, undef, undef, undef] H (blockQ 0 (seqQ (exK Try.prog E_laws_markFloat32S (cr (cr (bodyC Try.f15)))) (retK Try.prog Try.f15 K)))) := by kernel_rfl
abbrev laws_markFloat32S_P1 (a_a : Option Addr) (a_e : Nat) (a_n : Nat) (k_1 : Int) (i : Int) (g6 g7 g8 g9 g10 g11 g12 g13 g14 g15 g16 g17 g18 : Value) : List Value := [.slice a_a a_n a_e, .int .i64 k_1, undef, undef, .int .i64 0, .int .i64 i, g6, g7, g8, g9, g10, g11, g12, g13, g14, g15, g16, g17, g18, undef]
theorem laws_markFloat32S_r1 (a_a : Option Addr) (a_e : Nat) (a_n : Nat) (k_1 : Int) (i : Int) (g6 g7 g8 g9 g10 g11 g12 g13 g14 g15 g16 g17 g18 : Value) (H : AHeap) (R : Post) : exK Try.prog E_laws_markFloat32S (cl (cl (cr (cl (cr (bodyC Try.f15)))))) (laws_markFloat32S_P1 a_a a_e a_n k_1 i g6 g7 g8 g9 g10 g11 g12 g13 g14 g15 g16 g17 g18) H R =
  (Br (decide ((i : Int) < (a_n : Int))) ((0 : Int) ≤ i ∧ i < (a_n : Int) ∧ ∃ b1 f1, (a_a : Option Addr) = some ⟨b1, f1, none⟩ ∧ isOwn H b1 ∧ (∃ l, rdN H b1 (f1 + (i : Int).toNat * 1) 1 = some l) ∧ Lt (setC H b1 (f1 + (i : Int).toNat * 1) (.float .f32 (FloatKind.nearest .f32 k_1))) fun H1 => R .normal [.slice a_a a_n a_e, .int .i64 (IntKind.wrap .i64 (k_1 + 1)), undef, undef, .int .i64 0, .int .i64 (IntKind.wrap .i64 (i + 1)), .int .i64 i, .slice a_a a_n a_e, .int .i64 (a_n : Int), .bool (decide ((i : Int) < (a_n : Int))), .int .i64 i, .int .i64 (IntKind.wrap .i64 (i + 1)), .slice a_a a_n a_e, .int .i64 i, .int .i64 k_1, .float .f32 (FloatKind.nearest .f32 k_1), .pointer (some ⟨b1, f1 + (i : Int).toNat * 1, none⟩), .int .i64 k_1, .int .i64 (IntKind.wrap .i64 (k_1 + 1)), undef] H1) (R (.exit 0) [.slice a_a a_n a_e, .int .i64 k_1, undef, undef, .int .i64 0, .int .i64 i, .int .i64 i, .slice a_a a_n a_e, .int .i64 (a_n : Int), .bool (decide ((i : Int) < (a_n : Int))), g10, g11, g12, g13, g14, g15, g16, g17, g18, undef] H)) := by kernel_rfl
def laws_markFloat32S_I1 (a_a : Option Addr) (a_e : Nat) (a_n : Nat) (Inv : Nat → Int → Int → AHeap → Prop) : Nat → List Value → AHeap → Prop := fun μ tm H => ∃ (k_1 : Int), ∃ (i : Int), ∃ g6 g7 g8 g9 g10 g11 g12 g13 g14 g15 g16 g17 g18, tm = (laws_markFloat32S_P1 a_a a_e a_n k_1 i g6 g7 g8 g9 g10 g11 g12 g13 g14 g15 g16 g17 g18) ∧ Inv μ k_1 i H
theorem laws_markFloat32S_L1 (a_a : Option Addr) (a_e : Nat) (a_n : Nat) {Q : Post} (Inv : Nat → Int → Int → AHeap → Prop) (ν : Nat) (k_1 : Int) (i : Int) (g6 g7 g8 g9 g10 g11 g12 g13 g14 g15 g16 g17 g18 : Value) (H : AHeap) (h0 : Inv ν k_1 i H)
    (hs : ∀ (μ : Nat) (k_1 : Int) (i : Int) (g6 g7 g8 g9 g10 g11 g12 g13 g14 g15 g16 g17 g18 : Value) (H : AHeap), Inv μ k_1 i H → exK Try.prog E_laws_markFloat32S (cl (cl (cr (cl (cr (bodyC Try.f15)))))) (laws_markFloat32S_P1 a_a a_e a_n k_1 i g6 g7 g8 g9 g10 g11 g12 g13 g14 g15 g16 g17 g18) H (loopQ (laws_markFloat32S_I1 a_a a_e a_n Inv) μ Q)) : loopK (exK Try.prog E_laws_markFloat32S (cl (cl (cr (cl (cr (bodyC Try.f15))))))) (laws_markFloat32S_P1 a_a a_e a_n k_1 i g6 g7 g8 g9 g10 g11 g12 g13 g14 g15 g16 g17 g18) H Q :=
  ⟨laws_markFloat32S_I1 a_a a_e a_n Inv, ν, ⟨k_1, i, g6, g7, g8, g9, g10, g11, g12, g13, g14, g15, g16, g17, g18, rfl, h0⟩, fun μ tm H h => by obtain ⟨k_1, i, g6, g7, g8, g9, g10, g11, g12, g13, g14, g15, g16, g17, g18, rfl, hI⟩ := h; exact hs μ k_1 i g6 g7 g8 g9 g10 g11 g12 g13 g14 g15 g16 g17 g18 H hI⟩
theorem laws_markFloat32S_n1 {a_a : Option Addr} {a_e : Nat} {a_n : Nat} {Q : Post} {Inv : Nat → Int → Int → AHeap → Prop} {μ : Nat} (μ' : Nat) {k_1 : Int} {i : Int} {g6 g7 g8 g9 g10 g11 g12 g13 g14 g15 g16 g17 g18 : Value} {H : AHeap} (hm : μ' < μ) (hI : Inv μ' k_1 i H) : loopQ (laws_markFloat32S_I1 a_a a_e a_n Inv) μ Q .normal (laws_markFloat32S_P1 a_a a_e a_n k_1 i g6 g7 g8 g9 g10 g11 g12 g13 g14 g15 g16 g17 g18) H := ⟨μ', hm, k_1, i, g6, g7, g8, g9, g10, g11, g12, g13, g14, g15, g16, g17, g18, rfl, hI⟩
theorem laws_markFloat32S_x1_0 (a_a : Option Addr) (a_e : Nat) (a_n : Nat) (k_1 : Int) (i : Int) (g6 g7 g8 g9 g10 g11 g12 g13 g14 g15 g16 g17 g18 : Value) (H : AHeap) (K : Value → AHeap → Prop)  {I : Nat → List Value → AHeap → Prop} {μ : Nat} : loopQ I μ (blockQ 0 (seqQ (exK Try.prog E_laws_markFloat32S (cr (cr (bodyC Try.f15)))) (retK Try.prog Try.f15 K))) (.exit 0) (laws_markFloat32S_P1 a_a a_e a_n k_1 i g6 g7 g8 g9 g10 g11 g12 g13 g14 g15 g16 g17 g18) H =
  (K (.int .i64 k_1) H) := by kernel_rfl
theorem E_laws_markFloat32S_ok : ∀ g, FnOk Try.prog g (E_laws_markFloat32S g) := FnOk.envOf (by
  intro x hx; cases hx)
set_option maxHeartbeats 1000000 in
theorem laws_markFloat32S_main (a_a : Option Addr) (a_n : Nat) (a_e : Nat) (k : Int) (H : AHeap) (K : Value → AHeap → Prop) (h : T_laws_markFloat32S a_a a_n a_e k H fun (r1 : Int) (H' : AHeap) => K (.int .i64 r1) H') : bodyK Try.prog E_laws_markFloat32S Try.f15 [.slice a_a a_n a_e, .int .i64 k] H K := by
  rw [laws_markFloat32S_vc]
  obtain ⟨lo, l_a, i_a, bd_18, hk⟩ := h
  have hk : (∀ H' : AHeap, KeepA a_a H H' → OwnS fF H' lo a_a a_n a_e ((p_laws_markFloat32S l_a k).2) → (fun (r1 : Int) (H' : AHeap) => K (.int .i64 r1) H') ((p_laws_markFloat32S l_a k).1) H') := by rw [laws_markFloat32S_val l_a k]; exact hk
  obtain rfl := i_a.len
  have up_m := i_a.up
  have lo_m := i_a.lo
  have e : (p_laws_markFloat32S l_a k) = _ := rfl
  have e := e.trans (p_laws_markFloat32S_eq l_a k)
  have g0 := KeepA.refl a_a H
  refine laws_markFloat32S_L1 _ _ _ (fun (μ : Nat) (k_1 : Int) (i : Int) (H_1 : AHeap) => ∃ (y1_1 : List Nat), OwnS fF H_1 lo a_a l_a.length a_e y1_1 ∧ y1_1.length = (l_a).length ∧ H.length ≤ H_1.length ∧ KeepA a_a H H_1 ∧ (0 : Int) ≤ i ∧ i ≤ (l_a.length : Int) ∧ (l_a.length : Int) - i ≤ (μ : Int) ∧ p_laws_markFloat32S l_a k = p_laws_markFloat32S_l1 l_a k (μ + 1) k_1 i y1_1) (Int.toNat ((l_a.length : Int) - (0 : Int))) _ _ _ _ _ _ _ _ _ _ _ _ _ _ _ H ?_ ?_
  · exact ⟨_, i_a, o20, o4, g0, o5, o5, o4, e⟩
  · intro μ k_1 i g6 g7 g8 g9 g10 g11 g12 g13 g14 g15 g16 g17 g18 H_1 hI
    obtain ⟨y1_1, r_1, y_2, n_3, g_4, v_5, v_6, hμ, e⟩ := hI
    rw [laws_markFloat32S_r1]
    have e := e.trans (p_laws_markFloat32S_l1_s l_a k μ k_1 i y1_1)
    have l_7 := g_4.1
    refine Br.intro (fun c_8 => ?_) (fun c_8 => ?_)
    · have e := e.trans (cond_t c_8)
      have c_8' := of_decide_eq_true c_8
      obtain ⟨b_9, f_10, q_11⟩ := (r_1.isL).pos o0
      refine ⟨by omega, by omega, b_9, f_10, q_11, ?_⟩
      refine Lt.setS r_1 q_11 o10 (fun H_2 hl_12 o_14 k_13 => ?_)
      have l_15 := k_13.1
      have g_16 := g_4.transA k_13
      have l_17 := g_16.1
      rw [show IntKind.wrap .i64 (i + 1) = (i + 1) from wrap64 o4 o4]
      refine laws_markFloat32S_n1 (μ - 1) o12 ⟨_, o_14, o13, o4, g_16, o1, o1, o12, (by rw [show μ - 1 + 1 = μ from by first | omega]; exact e)⟩
    · have e := e.trans (cond_f c_8)
      have c_8' := of_decide_eq_false c_8
      rw [laws_markFloat32S_x1_0]
      rw [e] at hk
      exact hk H_1 g_4 r_1
theorem laws_markFloat32S_ok : FnOk Try.prog 15 S_laws_markFloat32S := by
  refine FnOk.body mix_ok E_laws_markFloat32S_ok Try.func15 rfl (by kernel_rfl) (by kernel_rfl) ?_ ?_ ?_ ?_ ?_
  · intro args H K K' h hk
    simp only [S_laws_markFloat32S] at *
    unfold F_laws_markFloat32S at *
    split at hk
    · obtain ⟨lo, l_a, i_a, bd_18, k⟩ := hk
      exact ⟨lo, l_a, i_a, bd_18, (fun H' gg ow => h _ _ (k H' gg ow))⟩
    · exact hk.elim
  · intro hq; cases hq
  · intro args H K hk
    simp only [S_laws_markFloat32S] at *
    unfold F_laws_markFloat32S at *
    split at hk
    · obtain ⟨lo, l_a, i_a, bd_18, k⟩ := hk
      exact (i_a.put _ (by rw [marks_length])).elim fun H1 h => ⟨_, _, k H1 h.1 h.2⟩
    · exact hk.elim
  · intro hq; cases hq
  · have mm := @laws_markFloat32S_main
    revert mm
    generalize bodyK Try.prog E_laws_markFloat32S Try.f15 = Q
    intro mm args H K hk
    simp only [S_laws_markFloat32S] at *
    unfold F_laws_markFloat32S at *
    split at hk
    · exact mm _ _ _ _ H K hk
    · exact hk.elim
end Go.Proofs.Ytghkkclonabpkab.Ai
