/- What functions of the program come to on the abstract machine, and that they do so; printed by a program of mine around proofs of mine. -/
import Derived.Test.YtghkkclonabpkabFFnExactPursue1
set_option linter.unusedVariables false
set_option linter.unusedSimpArgs false
set_option linter.defProp false
set_option maxRecDepth 100000
namespace Go.Proofs.Ytghkkclonabpkab.Ai
open Go
attribute [local irreducible] bodyK bodyL

def p_impl_kernel_l1 (scale : Nat) : Nat → (List (Nat × Nat)) → Int → (List (Nat × Nat)) × Int
  | 0, _, _ => ([], 0)
  | μ + 1, l_vout, t18 => (bif decide ((t18 : Int) < (((2 * (((ftoi .f64 ((p_math_Ceil (fwide (fmul .f32 1077936128 scale)))) .i64).getD 0)))) + 1)) then (p_impl_kernel_l1 scale μ ((l_vout ++ [((p_impl_ScaleComplex ((p_impl_PhasorOf (fwide (fdiv .f32 (FloatKind.nearest .f32 ((t18 - (((ftoi .f64 ((p_math_Ceil (fwide (fmul .f32 1077936128 scale)))) .i64).getD 0))))) scale))).1) ((p_impl_PhasorOf (fwide (fdiv .f32 (FloatKind.nearest .f32 ((t18 - (((ftoi .f64 ((p_math_Ceil (fwide (fmul .f32 1077936128 scale)))) .i64).getD 0))))) scale))).2) (fdiv .f32 ((p_impl_ExpNumber (fmul .f32 (fmul .f32 3204448256 (fdiv .f32 (FloatKind.nearest .f32 ((t18 - (((ftoi .f64 ((p_math_Ceil (fwide (fmul .f32 1077936128 scale)))) .i64).getD 0))))) scale)) (fdiv .f32 (FloatKind.nearest .f32 ((t18 - (((ftoi .f64 ((p_math_Ceil (fwide (fmul .f32 1077936128 scale)))) .i64).getD 0))))) scale)))) scale)).1, (p_impl_ScaleComplex ((p_impl_PhasorOf (fwide (fdiv .f32 (FloatKind.nearest .f32 ((t18 - (((ftoi .f64 ((p_math_Ceil (fwide (fmul .f32 1077936128 scale)))) .i64).getD 0))))) scale))).1) ((p_impl_PhasorOf (fwide (fdiv .f32 (FloatKind.nearest .f32 ((t18 - (((ftoi .f64 ((p_math_Ceil (fwide (fmul .f32 1077936128 scale)))) .i64).getD 0))))) scale))).2) (fdiv .f32 ((p_impl_ExpNumber (fmul .f32 (fmul .f32 3204448256 (fdiv .f32 (FloatKind.nearest .f32 ((t18 - (((ftoi .f64 ((p_math_Ceil (fwide (fmul .f32 1077936128 scale)))) .i64).getD 0))))) scale)) (fdiv .f32 (FloatKind.nearest .f32 ((t18 - (((ftoi .f64 ((p_math_Ceil (fwide (fmul .f32 1077936128 scale)))) .i64).getD 0))))) scale)))) scale)).2)])) (t18 + 1)) else (l_vout, ((ftoi .f64 ((p_math_Ceil (fwide (fmul .f32 1077936128 scale)))) .i64).getD 0)))
def p_impl_kernel_l1_s := fun scale μ l_vout t18 => @p_impl_kernel_l1.eq_2 scale l_vout t18 μ
def p_impl_kernel (scale : Nat) : (List (Nat × Nat)) × Int := (p_impl_kernel_l1 scale (Int.toNat ((((2 * (((ftoi .f64 ((p_math_Ceil (fwide (fmul .f32 1077936128 scale)))) .i64).getD 0)))) + 1) - (0 : Int)) + 1) (([] : List (Nat × Nat))) (0 : Int))
def p_impl_kernel_eq := @p_impl_kernel.eq_1
def T_impl_kernel (scale : Nat) (H : AHeap) (K : (Option Addr) → Nat → Nat → Int → AHeap → Prop) : Prop := (bif fle .f32 1056964608 scale then fle .f32 scale 1098907648 else false) = true ∧ ((∀ (r1_a : Option Addr) (r1_n r1_e : Nat), ∀ H' : AHeap, Grow H H' → OwnS fC H' H.length r1_a r1_n r1_e ((p_impl_kernel scale).1) → K r1_a r1_n r1_e ((p_impl_kernel scale).2) H'))
theorem T_impl_kernel_i {scale : Nat} {H : AHeap} {K : (Option Addr) → Nat → Nat → Int → AHeap → Prop} (h : (bif fle .f32 1056964608 scale then fle .f32 scale 1098907648 else false) = true ∧ ((∀ (r1_a : Option Addr) (r1_n r1_e : Nat), ∀ H' : AHeap, Grow H H' → OwnS fC H' H.length r1_a r1_n r1_e ((p_impl_kernel scale).1) → K r1_a r1_n r1_e ((p_impl_kernel scale).2) H'))) : T_impl_kernel scale H K := h
theorem impl_kernel_l1_len (x : Nat) : ∀ (μ : Nat) (o : List (Nat × Nat)) (k : Int), (p_impl_kernel_l1 x μ o k).1.length ≤ o.length + μ ∧ ((p_impl_kernel_l1 x μ o k).2 = 0 ∨ (p_impl_kernel_l1 x μ o k).2 = (ftoi .f64 (p_math_Ceil (fwide (fmul .f32 1077936128 x))) .i64).getD 0) := by
  intro μ
  induction μ with
  | zero => intro o k; exact ⟨Nat.zero_le _, .inl rfl⟩
  | succ μ ih =>
    intro o k
    rw [p_impl_kernel_l1_s]
    cases decide (k < (((2 * (((ftoi .f64 ((p_math_Ceil (fwide (fmul .f32 1077936128 x)))) .i64).getD 0)))) + 1))
    · exact ⟨by show o.length ≤ _; omega, .inr rfl⟩
    · simp only [cond_true]
      refine ⟨Nat.le_trans (ih _ _).1 ?_, (ih _ _).2⟩
      rw [List.length_append, List.length_singleton]; omega
theorem impl_kernel_len (x : Nat) (h : (bif fle .f32 1056964608 x then fle .f32 x 1098907648 else false) = true) : (p_impl_kernel x).1.length ≤ 1000 ∧ -256 ≤ (p_impl_kernel x).2 ∧ (p_impl_kernel x).2 ≤ 256 := by
  have hr : -256 ≤ (ftoi .f64 (p_math_Ceil (fwide (fmul .f32 1077936128 x))) .i64).getD 0 ∧ (ftoi .f64 (p_math_Ceil (fwide (fmul .f32 1077936128 x))) .i64).getD 0 ≤ 256 := rad_le h
  rw [p_impl_kernel_eq]
  obtain ⟨a, b⟩ := impl_kernel_l1_len x (Int.toNat ((((2 * (((ftoi .f64 ((p_math_Ceil (fwide (fmul .f32 1077936128 x)))) .i64).getD 0)))) + 1) - (0 : Int)) + 1) (([] : List (Nat × Nat))) (0 : Int)
  rw [List.length_nil] at a
  rcases b with b | b <;> rw [b] <;> exact ⟨by omega, by omega, by omega⟩
/-! impl_kernel: function 87 -/
def E_impl_kernel : Env := envOf [(108, S_math_Ceil), (114, S_impl_ExpNumber), (116, S_impl_PhasorOf), (115, S_impl_ScaleComplex)]
def F_impl_kernel : List Value → AHeap → (Value → AHeap → Prop) → Prop
  | [.float .f32 scale], H, K => T_impl_kernel scale H fun (r1_a : Option Addr) (r1_n : Nat) (r1_e : Nat) (r2 : Int) (H' : AHeap) => K (.tuple #[.slice r1_a r1_n r1_e, .int .i64 r2]) H'
  | _, _, _ => False
def S_impl_kernel : FSpec := { F := F_impl_kernel, quiet := false, tame := true }
theorem impl_kernel_vc (scale : Nat) (H : AHeap) (K : Value → AHeap → Prop) : bodyL Try.prog E_impl_kernel Try.f87 [.float .f32 scale] H K =
  (T_math_Ceil (fwide (fmul .f32 1077936128 scale)) H fun (r1 : Nat) (H1 : AHeap) => ∃ n1 : Int, ftoi .f64 r1 .i64 = some n1 ∧ Al [] H1 fun b1 H2 => loopK (exL Try.prog E_impl_kernel (cl (cl (cr (cl (cr (cr (cr (bodyC Try.f87)))))))) 393265 12 [(0, 48)]) [.float .f32 scale, ud, ud, ud, .int .i64 n1, .slice (some ⟨b1, 0, none⟩) 0 1, ud, ud, ud, ud, ud, ud, ud, ud, ud, ud, ud, .int .i64 (IntKind.wrap .i64 ((IntKind.wrap .i64 (2 * n1)) + 1)), .int .i64 0, ud, ud, ud, ud, ud, ud, ud, ud, ud, ud, ud, ud, ud, ud, ud, ud, ud, ud, ud, ud, ud, ud, ud, ud, ud, ud] H2 (blockQ 0 (seqQ (exL Try.prog E_impl_kernel (cr (cr (cr (cr (bodyC Try.f87))))) 12 12 []) (retK Try.prog Try.f87 K)))) := by kernel_rfl
abbrev impl_kernel_P1 (n1 : Int) (scale : Nat) (z1_17 : Int) (vout_a : Option Addr) (vout_n : Nat) (vout_e : Nat) (t18 : Int)  : List Value := [.float .f32 scale, ud, ud, ud, .int .i64 n1, .slice vout_a vout_n vout_e, ud, ud, ud, ud, ud, ud, ud, ud, ud, ud, ud, .int .i64 z1_17, .int .i64 t18, ud, ud, ud, ud, ud, ud, ud, ud, ud, ud, ud, ud, ud, ud, ud, ud, ud, ud, ud, ud, ud, ud, ud, ud, ud, ud]
theorem impl_kernel_r1 (n1 : Int) (scale : Nat) (z1_17 : Int) (vout_a : Option Addr) (vout_n : Nat) (vout_e : Nat) (t18 : Int)  (H : AHeap) (R : Post) : exL Try.prog E_impl_kernel (cl (cl (cr (cl (cr (cr (cr (bodyC Try.f87)))))))) 393265 12 [(0, 48)] (impl_kernel_P1 n1 scale z1_17 vout_a vout_n vout_e t18) H R =
  (Br (decide ((t18 : Int) < z1_17)) (T_impl_ExpNumber (fmul .f32 (fmul .f32 3204448256 (fdiv .f32 (FloatKind.nearest .f32 (IntKind.wrap .i64 (t18 - n1))) scale)) (fdiv .f32 (FloatKind.nearest .f32 (IntKind.wrap .i64 (t18 - n1))) scale)) H fun (r2 : Nat) (H3 : AHeap) => T_impl_PhasorOf (fwide (fdiv .f32 (FloatKind.nearest .f32 (IntKind.wrap .i64 (t18 - n1))) scale)) H3 fun (r3 : Nat) (r4 : Nat) (H4 : AHeap) => T_impl_ScaleComplex r3 r4 (fdiv .f32 r2 scale) H4 fun (r5 : Nat) (r6 : Nat) (H5 : AHeap) => Al [.complex .f32 r5 r6] H5 fun b2 H6 => ∃ o1 w1 : List Value, ownB H6 vout_a vout_n vout_e 1 = some o1 ∧ rdS H6 (some ⟨b2, 0, none⟩) (1 * 1) = some w1 ∧ ((vout_a : Option Addr) = none → 0 < (1 : Nat)) ∧ (vout_n : Nat) + 1 < most ∧ Ap H6 (killB H6 vout_a ++ [some ⟨o1 ++ w1, true⟩]) fun b3 H7 => R .normal [.float .f32 scale, ud, ud, ud, .int .i64 n1, .slice (some ⟨b3, 0, none⟩) (vout_n + 1) 1, ud, ud, ud, ud, ud, ud, ud, ud, ud, ud, ud, .int .i64 z1_17, .int .i64 (IntKind.wrap .i64 (t18 + 1)), ud, ud, ud, ud, ud, ud, ud, ud, ud, ud, ud, ud, ud, ud, ud, ud, ud, ud, ud, ud, ud, ud, ud, ud, ud, ud] H7) (R (.exit 0) [ud, ud, ud, ud, .int .i64 n1, .slice vout_a vout_n vout_e, ud, ud, ud, ud, ud, ud, ud, ud, ud, ud, ud, ud, ud, ud, ud, ud, ud, ud, ud, ud, ud, ud, ud, ud, ud, ud, ud, ud, ud, ud, ud, ud, ud, ud, ud, ud, ud, ud, ud] H)) := by kernel_rfl
def impl_kernel_I1 (n1 : Int) (scale : Nat) (z1_17 : Int) (Inv : Nat → (Option Addr) → Nat → Nat → Int → AHeap → Prop) : Nat → List Value → AHeap → Prop := fun μ tm H => ∃ (vout_a : Option Addr), ∃ (vout_n : Nat), ∃ (vout_e : Nat), ∃ (t18 : Int), tm = (impl_kernel_P1 n1 scale z1_17 vout_a vout_n vout_e t18) ∧ Inv μ vout_a vout_n vout_e t18 H
theorem impl_kernel_L1 (n1 : Int) (scale : Nat) (z1_17 : Int) {Q : Post} (Inv : Nat → (Option Addr) → Nat → Nat → Int → AHeap → Prop) (ν : Nat) (vout_a : Option Addr) (vout_n : Nat) (vout_e : Nat) (t18 : Int)  (H : AHeap) (h0 : Inv ν vout_a vout_n vout_e t18 H)
    (hs : ∀ (μ : Nat) (vout_a : Option Addr) (vout_n : Nat) (vout_e : Nat) (t18 : Int)  (H : AHeap), Inv μ vout_a vout_n vout_e t18 H → exL Try.prog E_impl_kernel (cl (cl (cr (cl (cr (cr (cr (bodyC Try.f87)))))))) 393265 12 [(0, 48)] (impl_kernel_P1 n1 scale z1_17 vout_a vout_n vout_e t18) H (loopQ (impl_kernel_I1 n1 scale z1_17 Inv) μ Q)) : loopK (exL Try.prog E_impl_kernel (cl (cl (cr (cl (cr (cr (cr (bodyC Try.f87)))))))) 393265 12 [(0, 48)]) (impl_kernel_P1 n1 scale z1_17 vout_a vout_n vout_e t18) H Q :=
  ⟨impl_kernel_I1 n1 scale z1_17 Inv, ν, ⟨vout_a, vout_n, vout_e, t18, rfl, h0⟩, fun μ tm H h => by obtain ⟨vout_a, vout_n, vout_e, t18, rfl, hI⟩ := h; exact hs μ vout_a vout_n vout_e t18  H hI⟩
theorem impl_kernel_n1 {n1 : Int} {scale : Nat} {z1_17 : Int} {Q : Post} {Inv : Nat → (Option Addr) → Nat → Nat → Int → AHeap → Prop} {μ : Nat} (μ' : Nat) {vout_a : Option Addr} {vout_n : Nat} {vout_e : Nat} {t18 : Int}  {H : AHeap} (hm : μ' < μ) (hI : Inv μ' vout_a vout_n vout_e t18 H) : loopQ (impl_kernel_I1 n1 scale z1_17 Inv) μ Q .normal (impl_kernel_P1 n1 scale z1_17 vout_a vout_n vout_e t18) H := ⟨μ', hm, vout_a, vout_n, vout_e, t18, rfl, hI⟩
theorem impl_kernel_x1_0 (n1 : Int) (vout_a : Option Addr) (vout_n : Nat) (vout_e : Nat) (H : AHeap) (K : Value → AHeap → Prop)  {I : Nat → List Value → AHeap → Prop} {μ : Nat} : loopQ I μ (blockQ 0 (seqQ (exL Try.prog E_impl_kernel (cr (cr (cr (cr (bodyC Try.f87))))) 12 12 []) (retK Try.prog Try.f87 K))) (.exit 0) [ud, ud, ud, ud, .int .i64 n1, .slice vout_a vout_n vout_e, ud, ud, ud, ud, ud, ud, ud, ud, ud, ud, ud, ud, ud, ud, ud, ud, ud, ud, ud, ud, ud, ud, ud, ud, ud, ud, ud, ud, ud, ud, ud, ud, ud, ud, ud, ud, ud, ud, ud] H =
  (K (.tuple #[.slice vout_a vout_n vout_e, .int .i64 n1]) H) := by kernel_rfl
theorem E_impl_kernel_ok : ∀ g, FnOk Try.prog g (E_impl_kernel g) := FnOk.envOf (by
  intro x hx
  simp only [List.mem_cons, List.not_mem_nil, or_false] at hx
  rcases hx with rfl | rfl | rfl | rfl
  · exact math_Ceil_ok
  · exact impl_ExpNumber_ok
  · exact impl_PhasorOf_ok
  · exact impl_ScaleComplex_ok)
set_option maxHeartbeats 1000000 in
theorem impl_kernel_main (scale : Nat) (H : AHeap) (K : Value → AHeap → Prop) (h : T_impl_kernel scale H fun (r1_a : Option Addr) (r1_n : Nat) (r1_e : Nat) (r2 : Int) (H' : AHeap) => K (.tuple #[.slice r1_a r1_n r1_e, .int .i64 r2]) H') : bodyL Try.prog E_impl_kernel Try.f87 [.float .f32 scale] H K := by
  rw [impl_kernel_vc]
  obtain ⟨pr0, hk⟩ := h
  have hr : -256 ≤ (ftoi .f64 (p_math_Ceil (fwide (fmul .f32 1077936128 scale))) .i64).getD 0 ∧ (ftoi .f64 (p_math_Ceil (fwide (fmul .f32 1077936128 scale))) .i64).getD 0 ≤ 256 := rad_le (by assumption)
  have e : (p_impl_kernel scale) = _ := rfl
  have e := e.trans (p_impl_kernel_eq scale)
  have g0 := Grow.refl H
  refine T_math_Ceil_i ?_
  refine ⟨_, opt_get (d := 0) (by exact rad_ne (by assumption)), ?_⟩
  refine Al.intro (fun b_1 H_1 hb_2 hl_3 g_4 o_5 => ?_)
  have o_5 : Own H_1 b_1 ((([] : List (Nat × Nat))).map fC) := o_5
  have l_7 := g_4.1
  have g_8 := g0.trans g_4
  have l_9 := g_8.1
  have w_45 := o_5.lt
  rw [show IntKind.wrap .i64 (2 * (((ftoi .f64 ((p_math_Ceil (fwide (fmul .f32 1077936128 scale)))) .i64).getD 0))) = (2 * (((ftoi .f64 ((p_math_Ceil (fwide (fmul .f32 1077936128 scale)))) .i64).getD 0))) from wrap64 o3 o3]
  rw [show IntKind.wrap .i64 (((2 * (((ftoi .f64 ((p_math_Ceil (fwide (fmul .f32 1077936128 scale)))) .i64).getD 0)))) + 1) = (((2 * (((ftoi .f64 ((p_math_Ceil (fwide (fmul .f32 1077936128 scale)))) .i64).getD 0)))) + 1) from wrap64 o3 o3]
  refine impl_kernel_L1 _ _ _ (fun (μ : Nat) (vout_a : Option Addr) (vout_n : Nat) (vout_e : Nat) (t18 : Int) (H_2 : AHeap) => ∃ (l_vout : List (Nat × Nat)), ∃ (b_10 : Nat), vout_a = some ⟨b_10, 0, none⟩ ∧ vout_n = l_vout.length ∧ vout_e = 1 ∧ Own H_2 b_10 (l_vout.map fC) ∧ Grow H H_2 ∧ H.length ≤ b_10 ∧ (0 : Int) ≤ t18 ∧ ((t18 ≤ (((2 * (((ftoi .f64 ((p_math_Ceil (fwide (fmul .f32 1077936128 scale)))) .i64).getD 0)))) + 1) ∨ t18 ≤ (0 : Int))) ∧ (l_vout.length : Int) ≤ t18 - (0 : Int) + 0 ∧ (l_vout.length : Int) ≤ t18 ∧ (((2 * (((ftoi .f64 ((p_math_Ceil (fwide (fmul .f32 1077936128 scale)))) .i64).getD 0)))) + 1) - t18 ≤ (μ : Int) ∧ p_impl_kernel scale = p_impl_kernel_l1 scale (μ + 1) l_vout t18) (Int.toNat ((((2 * (((ftoi .f64 ((p_math_Ceil (fwide (fmul .f32 1077936128 scale)))) .i64).getD 0)))) + 1) - (0 : Int))) _ _ _ _ H_1 ?_ ?_
  · exact ⟨_, _, rfl, o8, rfl, o_5, g_8, o3, o6, o6, o6, o6, o3, e⟩
  · intro μ vout_a vout_n vout_e t18  H_2 hI
    obtain ⟨l_vout, b_10, rfl, rfl, rfl, o_11, g_12, l_13, v_14, v_15, v_16, v_17, hμ, e⟩ := hI
    rw [impl_kernel_r1]
    have e := e.trans (p_impl_kernel_l1_s scale μ l_vout t18)
    have w_18 := o_11.lt
    have l_19 := g_12.1
    refine Br.intro (fun c_20 => ?_) (fun c_20 => ?_)
    · have e := e.trans (cond_t c_20)
      have c_20' := of_decide_eq_true c_20
      rw [show IntKind.wrap .i64 (t18 - (((ftoi .f64 ((p_math_Ceil (fwide (fmul .f32 1077936128 scale)))) .i64).getD 0))) = (t18 - (((ftoi .f64 ((p_math_Ceil (fwide (fmul .f32 1077936128 scale)))) .i64).getD 0))) from wrap64 o3 o3]
      refine T_impl_ExpNumber_i ⟨(by first | assumption | omega | (simp; omega) | (exact impl_expWide_nar (sq_neg (by decide +kernel)))), ?_⟩
      refine T_impl_PhasorOf_i ?_
      refine T_impl_ScaleComplex_i ?_
      refine Al.intro (fun b_21 H_3 hb_22 hl_23 g_24 o_25 => ?_)
      have o_25 : Own H_3 b_21 (([((p_impl_ScaleComplex ((p_impl_PhasorOf (fwide (fdiv .f32 (FloatKind.nearest .f32 ((t18 - (((ftoi .f64 ((p_math_Ceil (fwide (fmul .f32 1077936128 scale)))) .i64).getD 0))))) scale))).1) ((p_impl_PhasorOf (fwide (fdiv .f32 (FloatKind.nearest .f32 ((t18 - (((ftoi .f64 ((p_math_Ceil (fwide (fmul .f32 1077936128 scale)))) .i64).getD 0))))) scale))).2) (fdiv .f32 ((p_impl_ExpNumber (fmul .f32 (fmul .f32 3204448256 (fdiv .f32 (FloatKind.nearest .f32 ((t18 - (((ftoi .f64 ((p_math_Ceil (fwide (fmul .f32 1077936128 scale)))) .i64).getD 0))))) scale)) (fdiv .f32 (FloatKind.nearest .f32 ((t18 - (((ftoi .f64 ((p_math_Ceil (fwide (fmul .f32 1077936128 scale)))) .i64).getD 0))))) scale)))) scale)).1, (p_impl_ScaleComplex ((p_impl_PhasorOf (fwide (fdiv .f32 (FloatKind.nearest .f32 ((t18 - (((ftoi .f64 ((p_math_Ceil (fwide (fmul .f32 1077936128 scale)))) .i64).getD 0))))) scale))).1) ((p_impl_PhasorOf (fwide (fdiv .f32 (FloatKind.nearest .f32 ((t18 - (((ftoi .f64 ((p_math_Ceil (fwide (fmul .f32 1077936128 scale)))) .i64).getD 0))))) scale))).2) (fdiv .f32 ((p_impl_ExpNumber (fmul .f32 (fmul .f32 3204448256 (fdiv .f32 (FloatKind.nearest .f32 ((t18 - (((ftoi .f64 ((p_math_Ceil (fwide (fmul .f32 1077936128 scale)))) .i64).getD 0))))) scale)) (fdiv .f32 (FloatKind.nearest .f32 ((t18 - (((ftoi .f64 ((p_math_Ceil (fwide (fmul .f32 1077936128 scale)))) .i64).getD 0))))) scale)))) scale)).2)]).map fC) := o_25
      have l_27 := g_24.1
      have g_28 := g_12.trans g_24
      have l_29 := g_28.1
      have o_30 := o_11.grow g_24
      have w_31 := o_30.lt
      have w_44 := o_25.lt
      refine ⟨_, _, o_30.ownB o10 rfl, (isl_rdS (o_25.isL o8)), (fun h => by cases h), o28, ?_⟩
      refine Ap.app o_30 rfl rfl (fun b_36 H_4 q_42 hl_32 o_33 k_34 => ?_)
      have o_33 := map_snoc o_33
      have l_37 := k_34.1
      have g_38 := g_28.keep (b := b_10) o3 k_34
      have l_39 := g_38.1
      have o_40 := o_25.keep o3 k_34
      have w_41 := o_40.lt
      have w_43 := o_33.lt
      rw [show IntKind.wrap .i64 (t18 + 1) = (t18 + 1) from wrap64 o3 o3]
      refine impl_kernel_n1 (μ - 1) o12 ⟨_, _, rfl, o9, rfl, o_33, g_38, o3, o1, o1, o1, o1, o12, (by rw [show μ - 1 + 1 = μ from by first | omega]; exact e)⟩
    · have e := e.trans (cond_f c_20)
      have c_20' := of_decide_eq_false c_20
      rw [impl_kernel_x1_0]
      rw [e] at hk
      exact hk _ _ _ H_2 g_12 (o_11.ownS o8 o3)
theorem impl_kernel_ok : FnOk Try.prog 87 S_impl_kernel := by
  refine FnOk.body mix_ok E_impl_kernel_ok Try.func87 rfl (by kernel_rfl) (by kernel_rfl) ?_ ?_ ?_ ?_ ?_
  · intro args H K K' h hk
    simp only [S_impl_kernel] at *
    unfold F_impl_kernel at *
    split at hk
    · obtain ⟨pr0, k⟩ := hk
      exact ⟨pr0, (fun r1_a r1_n r1_e H' gg ow0 => h _ _ (k r1_a r1_n r1_e H' gg ow0))⟩
    · exact hk.elim
  · intro hq; cases hq
  · intro args H K hk
    simp only [S_impl_kernel] at *
    unfold F_impl_kernel at *
    split at hk
    · obtain ⟨pr0, k⟩ := hk
      exact liveS fun a n e H1 g o => ⟨_, _, k a n e H1 g o⟩
    · exact hk.elim
  · intro _ args H K hk
    simp only [S_impl_kernel] at *
    unfold F_impl_kernel at *
    split at hk
    · obtain ⟨pr0, k⟩ := hk
      exact ⟨pr0, (fun r1_a r1_n r1_e H' gg ow0 => ⟨gg, k r1_a r1_n r1_e H' gg ow0⟩)⟩
    · exact hk.elim
  · have mm := @impl_kernel_main
    have ml := fun (args : List Value) (H : AHeap) (K : Value → AHeap → Prop) => bodyL_body (P := Try.prog) (env := E_impl_kernel ) (fn := Try.f87) (args := args) (H := H) (K := K) E_impl_kernel_ok 
    revert mm ml
    generalize bodyK Try.prog E_impl_kernel Try.f87 = Q
    generalize bodyL Try.prog E_impl_kernel Try.f87 = QL
    intro mm ml args H K hk
    simp only [S_impl_kernel] at *
    unfold F_impl_kernel at *
    split at hk
    · exact ml _ H K (mm _ H K hk)
    · exact hk.elim

def p_impl_realKernel_l1 (scale : Nat) : Nat → (List Nat) → Int → (List Nat) × Int
  | 0, _, _ => ([], 0)
  | μ + 1, l_vout, t17 => (bif decide ((t17 : Int) < (((p_impl_kernel scale).1).length : Int)) then (p_impl_realKernel_l1 scale μ ((l_vout ++ [(((((p_impl_kernel scale).1).getD (t17 : Int).toNat (0, 0))).1)])) (t17 + 1)) else (l_vout, (p_impl_kernel scale).2))
def p_impl_realKernel_l1_s := fun scale μ l_vout t17 => @p_impl_realKernel_l1.eq_2 scale l_vout t17 μ
def p_impl_realKernel (scale : Nat) : (List Nat) × Int := (p_impl_realKernel_l1 scale (Int.toNat ((((p_impl_kernel scale).1).length : Int) - (0 : Int)) + 1) ([] : List Nat) (0 : Int))
def p_impl_realKernel_eq := @p_impl_realKernel.eq_1
def T_impl_realKernel (scale : Nat) (H : AHeap) (K : (Option Addr) → Nat → Nat → Int → AHeap → Prop) : Prop := (bif fle .f32 1056964608 scale then fle .f32 scale 1098907648 else false) = true ∧ ((∀ (r1_a : Option Addr) (r1_n r1_e : Nat), ∀ H' : AHeap, Grow H H' → OwnS fF H' H.length r1_a r1_n r1_e ((p_impl_realKernel scale).1) → K r1_a r1_n r1_e ((p_impl_realKernel scale).2) H'))
theorem T_impl_realKernel_i {scale : Nat} {H : AHeap} {K : (Option Addr) → Nat → Nat → Int → AHeap → Prop} (h : (bif fle .f32 1056964608 scale then fle .f32 scale 1098907648 else false) = true ∧ ((∀ (r1_a : Option Addr) (r1_n r1_e : Nat), ∀ H' : AHeap, Grow H H' → OwnS fF H' H.length r1_a r1_n r1_e ((p_impl_realKernel scale).1) → K r1_a r1_n r1_e ((p_impl_realKernel scale).2) H'))) : T_impl_realKernel scale H K := h
theorem impl_realKernel_l1_val (x : Nat) : ∀ (μ : Nat) (o : List Nat) (k : Int), 0 ≤ k → ((p_impl_kernel x).1.length - k).toNat < μ → p_impl_realKernel_l1 x μ o k = (o ++ ((p_impl_kernel x).1.drop k.toNat).map Prod.fst, (p_impl_kernel x).2) := by
  intro μ
  induction μ with
  | zero => intro o k h0 h; omega
  | succ μ ih =>
    intro o k h0 h
    rw [p_impl_realKernel_l1_s]
    by_cases hk : k < ((p_impl_kernel x).1.length : Int)
    · rw [decide_eq_true hk, cond_true, ih _ _ o3 o3]
      have hk' : k.toNat < (p_impl_kernel x).1.length := by omega
      rw [show (k + 1).toNat = k.toNat + 1 by omega, List.append_assoc, List.getD_eq_getElem?_getD, List.getElem?_eq_getElem hk', List.drop_eq_getElem_cons hk']; rfl
    · rw [decide_eq_false hk, cond_false, List.drop_eq_nil_of_le o3, List.map_nil, List.append_nil]
theorem impl_realKernel_val (x : Nat) : p_impl_realKernel x = ((p_impl_kernel x).1.map Prod.fst, (p_impl_kernel x).2) := by
  rw [p_impl_realKernel_eq, impl_realKernel_l1_val _ _ _ _ o23 o3]; rfl
theorem impl_realKernel_len (x : Nat) (h : (bif fle .f32 1056964608 x then fle .f32 x 1098907648 else false) = true) : (p_impl_realKernel x).1.length ≤ 1000 ∧ -256 ≤ (p_impl_realKernel x).2 ∧ (p_impl_realKernel x).2 ≤ 256 := by
  rw [impl_realKernel_val]; simp only [List.length_map]; exact impl_kernel_len x h
/-! impl_realKernel: function 57 -/
def E_impl_realKernel : Env := envOf [(87, S_impl_kernel)]
def F_impl_realKernel : List Value → AHeap → (Value → AHeap → Prop) → Prop
  | [.float .f32 scale], H, K => T_impl_realKernel scale H fun (r1_a : Option Addr) (r1_n : Nat) (r1_e : Nat) (r2 : Int) (H' : AHeap) => K (.tuple #[.slice r1_a r1_n r1_e, .int .i64 r2]) H'
  | _, _, _ => False
def S_impl_realKernel : FSpec := { F := F_impl_realKernel, quiet := false, tame := true }
theorem impl_realKernel_vc (scale : Nat) (H : AHeap) (K : Value → AHeap → Prop) : bodyL Try.prog E_impl_realKernel Try.f57 [.float .f32 scale] H K =
  (T_impl_kernel scale H fun (a1 : Option Addr) (r1 : Nat) (r2 : Nat) (r3 : Int) (H1 : AHeap) => Al [] H1 fun b1 H2 => loopK (exL Try.prog E_impl_realKernel (cl (cl (cr (cl (cr (cr (cr (bodyC Try.f57)))))))) 229472 12 [(0, 96)]) [ud, ud, ud, ud, ud, .int .i64 r3, .slice (some ⟨b1, 0, none⟩) 0 1, ud, ud, ud, ud, ud, ud, ud, ud, .slice a1 r1 r2, .int .i64 (r1 : Int), .int .i64 0, ud, ud, ud, ud, ud, ud, ud, ud, ud, ud, ud] H2 (blockQ 0 (seqQ (exL Try.prog E_impl_realKernel (cr (cr (cr (cr (bodyC Try.f57))))) 12 12 []) (retK Try.prog Try.f57 K)))) := by kernel_rfl
abbrev impl_realKernel_P1 (a1 : Option Addr) (r1 : Nat) (r2 : Nat) (r3 : Int) (vout_a : Option Addr) (vout_n : Nat) (vout_e : Nat) (t17 : Int)  : List Value := [ud, ud, ud, ud, ud, .int .i64 r3, .slice vout_a vout_n vout_e, ud, ud, ud, ud, ud, ud, ud, ud, .slice a1 r1 r2, .int .i64 (r1 : Int), .int .i64 t17, ud, ud, ud, ud, ud, ud, ud, ud, ud, ud, ud]
theorem impl_realKernel_r1 (a1 : Option Addr) (r1 : Nat) (r2 : Nat) (r3 : Int) (vout_a : Option Addr) (vout_n : Nat) (vout_e : Nat) (t17 : Int)  (H : AHeap) (R : Post) : exL Try.prog E_impl_realKernel (cl (cl (cr (cl (cr (cr (cr (bodyC Try.f57)))))))) 229472 12 [(0, 96)] (impl_realKernel_P1 a1 r1 r2 r3 vout_a vout_n vout_e t17) H R =
  (Br (decide ((t17 : Int) < (r1 : Int))) ((0 : Int) ≤ t17 ∧ t17 < (r1 : Int) ∧ ∃ b2 f1, (a1 : Option Addr) = some ⟨b2, f1, none⟩ ∧ ∃ x1_r : Nat, ∃ x1_i : Nat,  rdC H b2 (f1 + (t17 : Int).toNat * 1) = some (.complex .f32 x1_r x1_i) ∧ Al [.float .f32 x1_r] H fun b3 H3 => ∃ o1 w1 : List Value, ownB H3 vout_a vout_n vout_e 1 = some o1 ∧ rdS H3 (some ⟨b3, 0, none⟩) (1 * 1) = some w1 ∧ ((vout_a : Option Addr) = none → 0 < (1 : Nat)) ∧ (vout_n : Nat) + 1 < most ∧ Ap H3 (killB H3 vout_a ++ [some ⟨o1 ++ w1, true⟩]) fun b4 H4 => R .normal [ud, ud, ud, ud, ud, .int .i64 r3, .slice (some ⟨b4, 0, none⟩) (vout_n + 1) 1, ud, ud, ud, ud, ud, ud, ud, ud, .slice a1 r1 r2, .int .i64 (r1 : Int), .int .i64 (IntKind.wrap .i64 (t17 + 1)), ud, ud, ud, ud, ud, ud, ud, ud, ud, ud, ud] H4) (R (.exit 0) [ud, ud, ud, ud, ud, .int .i64 r3, .slice vout_a vout_n vout_e, ud, ud, ud, ud, ud, ud, ud, ud, ud, ud, ud, ud, ud, ud, ud, ud, ud, ud, ud, ud, ud, ud] H)) := by kernel_rfl
def impl_realKernel_I1 (a1 : Option Addr) (r1 : Nat) (r2 : Nat) (r3 : Int) (Inv : Nat → (Option Addr) → Nat → Nat → Int → AHeap → Prop) : Nat → List Value → AHeap → Prop := fun μ tm H => ∃ (vout_a : Option Addr), ∃ (vout_n : Nat), ∃ (vout_e : Nat), ∃ (t17 : Int), tm = (impl_realKernel_P1 a1 r1 r2 r3 vout_a vout_n vout_e t17) ∧ Inv μ vout_a vout_n vout_e t17 H
theorem impl_realKernel_L1 (a1 : Option Addr) (r1 : Nat) (r2 : Nat) (r3 : Int) {Q : Post} (Inv : Nat → (Option Addr) → Nat → Nat → Int → AHeap → Prop) (ν : Nat) (vout_a : Option Addr) (vout_n : Nat) (vout_e : Nat) (t17 : Int)  (H : AHeap) (h0 : Inv ν vout_a vout_n vout_e t17 H)
    (hs : ∀ (μ : Nat) (vout_a : Option Addr) (vout_n : Nat) (vout_e : Nat) (t17 : Int)  (H : AHeap), Inv μ vout_a vout_n vout_e t17 H → exL Try.prog E_impl_realKernel (cl (cl (cr (cl (cr (cr (cr (bodyC Try.f57)))))))) 229472 12 [(0, 96)] (impl_realKernel_P1 a1 r1 r2 r3 vout_a vout_n vout_e t17) H (loopQ (impl_realKernel_I1 a1 r1 r2 r3 Inv) μ Q)) : loopK (exL Try.prog E_impl_realKernel (cl (cl (cr (cl (cr (cr (cr (bodyC Try.f57)))))))) 229472 12 [(0, 96)]) (impl_realKernel_P1 a1 r1 r2 r3 vout_a vout_n vout_e t17) H Q :=
  ⟨impl_realKernel_I1 a1 r1 r2 r3 Inv, ν, ⟨vout_a, vout_n, vout_e, t17, rfl, h0⟩, fun μ tm H h => by obtain ⟨vout_a, vout_n, vout_e, t17, rfl, hI⟩ := h; exact hs μ vout_a vout_n vout_e t17  H hI⟩
theorem impl_realKernel_n1 {a1 : Option Addr} {r1 : Nat} {r2 : Nat} {r3 : Int} {Q : Post} {Inv : Nat → (Option Addr) → Nat → Nat → Int → AHeap → Prop} {μ : Nat} (μ' : Nat) {vout_a : Option Addr} {vout_n : Nat} {vout_e : Nat} {t17 : Int}  {H : AHeap} (hm : μ' < μ) (hI : Inv μ' vout_a vout_n vout_e t17 H) : loopQ (impl_realKernel_I1 a1 r1 r2 r3 Inv) μ Q .normal (impl_realKernel_P1 a1 r1 r2 r3 vout_a vout_n vout_e t17) H := ⟨μ', hm, vout_a, vout_n, vout_e, t17, rfl, hI⟩
theorem impl_realKernel_x1_0 (r3 : Int) (vout_a : Option Addr) (vout_n : Nat) (vout_e : Nat) (H : AHeap) (K : Value → AHeap → Prop)  {I : Nat → List Value → AHeap → Prop} {μ : Nat} : loopQ I μ (blockQ 0 (seqQ (exL Try.prog E_impl_realKernel (cr (cr (cr (cr (bodyC Try.f57))))) 12 12 []) (retK Try.prog Try.f57 K))) (.exit 0) [ud, ud, ud, ud, ud, .int .i64 r3, .slice vout_a vout_n vout_e, ud, ud, ud, ud, ud, ud, ud, ud, ud, ud, ud, ud, ud, ud, ud, ud, ud, ud, ud, ud, ud, ud] H =
  (K (.tuple #[.slice vout_a vout_n vout_e, .int .i64 r3]) H) := by kernel_rfl
theorem E_impl_realKernel_ok : ∀ g, FnOk Try.prog g (E_impl_realKernel g) := FnOk.envOf (by
  intro x hx
  simp only [List.mem_cons, List.not_mem_nil, or_false] at hx
  subst hx; exact impl_kernel_ok)
set_option maxHeartbeats 1000000 in
theorem impl_realKernel_main (scale : Nat) (H : AHeap) (K : Value → AHeap → Prop) (h : T_impl_realKernel scale H fun (r1_a : Option Addr) (r1_n : Nat) (r1_e : Nat) (r2 : Int) (H' : AHeap) => K (.tuple #[.slice r1_a r1_n r1_e, .int .i64 r2]) H') : bodyL Try.prog E_impl_realKernel Try.f57 [.float .f32 scale] H K := by
  rw [impl_realKernel_vc]
  obtain ⟨pr0, hk⟩ := h
  have e : (p_impl_realKernel scale) = _ := rfl
  have e := e.trans (p_impl_realKernel_eq scale)
  have g0 := Grow.refl H
  refine T_impl_kernel_i ⟨o18, fun a_1 n_2 e_3 H_1 g_6 r_4 => ?_⟩
  have z_5 := impl_kernel_len scale o37
  have l_7 := g_6.1
  have g_8 := g0.trans g_6
  have l_9 := g_8.1
  obtain rfl := r_4.isL.eqn
  have u_10 := r_4.up
  have u_11 := r_4.lo
  refine Al.intro (fun b_13 H_2 hb_14 hl_15 g_16 o_17 => ?_)
  have o_17 : Own H_2 b_13 ((([] : List Nat)).map fF) := o_17
  have l_19 := g_16.1
  have g_20 := g_8.trans g_16
  have l_21 := g_20.1
  have r_22 := r_4.grow g_16
  have w_66 := o_17.lt
  refine impl_realKernel_L1 _ _ _ _ (fun (μ : Nat) (vout_a : Option Addr) (vout_n : Nat) (vout_e : Nat) (t17 : Int) (H_3 : AHeap) => ∃ (l_vout : List Nat), ∃ (b_23 : Nat), vout_a = some ⟨b_23, 0, none⟩ ∧ vout_n = l_vout.length ∧ vout_e = 1 ∧ Own H_3 b_23 (l_vout.map fF) ∧ OwnS fC H_3 H.length a_1 (((p_impl_kernel scale).1).length) e_3 ((p_impl_kernel scale).1) ∧ H_1.length ≤ H_3.length ∧ (b_23 < H.length ∨ H_1.length ≤ b_23) ∧ Grow H H_3 ∧ H.length ≤ b_23 ∧ (0 : Int) ≤ t17 ∧ t17 ≤ (((p_impl_kernel scale).1).length : Int) ∧ (l_vout.length : Int) ≤ t17 - (0 : Int) + 0 ∧ (l_vout.length : Int) ≤ t17 ∧ (((p_impl_kernel scale).1).length : Int) - t17 ≤ (μ : Int) ∧ p_impl_realKernel scale = p_impl_realKernel_l1 scale (μ + 1) l_vout t17) (Int.toNat ((((p_impl_kernel scale).1).length : Int) - (0 : Int))) _ _ _ _ H_2 ?_ ?_
  · exact ⟨_, _, rfl, o8, rfl, o_17, r_22, o3, o3, g_20, o3, o6, o6, o6, o6, o3, e⟩
  · intro μ vout_a vout_n vout_e t17  H_3 hI
    obtain ⟨l_vout, b_23, rfl, rfl, rfl, o_24, r_25, n_26, n_27, g_28, l_29, v_30, v_31, v_32, v_33, hμ, e⟩ := hI
    rw [impl_realKernel_r1]
    have e := e.trans (p_impl_realKernel_l1_s scale μ l_vout t17)
    have w_34 := o_24.lt
    have l_35 := g_28.1
    refine Br.intro (fun c_36 => ?_) (fun c_36 => ?_)
    · have e := e.trans (cond_t c_36)
      have c_36' := of_decide_eq_true c_36
      obtain ⟨b_37, f_38, q_39⟩ := (r_25.isL).pos o0
      refine ⟨by omega, by omega, b_37, f_38, q_39, ?_⟩
      refine ⟨((((p_impl_kernel scale).1).getD (t17 : Int).toNat (0, 0))).1, ((((p_impl_kernel scale).1).getD (t17 : Int).toNat (0, 0))).2, (r_25.isL).rd (Grow.refl _) q_39 o3 _, ?_⟩
      refine Al.intro (fun b_40 H_4 hb_41 hl_42 g_43 o_44 => ?_)
      have o_44 : Own H_4 b_40 (([(((((p_impl_kernel scale).1).getD (t17 : Int).toNat (0, 0))).1)]).map fF) := o_44
      have l_46 := g_43.1
      have g_47 := g_28.trans g_43
      have l_48 := g_47.1
      have o_49 := o_24.grow g_43
      have w_50 := o_49.lt
      have r_51 := r_25.grow g_43
      have w_65 := o_44.lt
      refine ⟨_, _, o_49.ownB o10 rfl, (isl_rdS (o_44.isL o8)), (fun h => by cases h), o28, ?_⟩
      refine Ap.app o_49 rfl rfl (fun b_56 H_5 q_63 hl_52 o_53 k_54 => ?_)
      have o_53 := map_snoc o_53
      have l_57 := k_54.1
      have g_58 := g_47.keep (b := b_23) o3 k_54
      have l_59 := g_58.1
      have o_60 := o_44.keep o3 k_54
      have w_61 := o_60.lt
      have r_62 := r_51.keep u_10 o3 k_54
      have w_64 := o_53.lt
      rw [show IntKind.wrap .i64 (t17 + 1) = (t17 + 1) from wrap64 o3 o3]
      refine impl_realKernel_n1 (μ - 1) o12 ⟨_, _, rfl, o9, rfl, o_53, r_62, o3, o3, g_58, o3, o1, o1, o1, o1, o12, (by rw [show μ - 1 + 1 = μ from by first | omega]; exact e)⟩
    · have e := e.trans (cond_f c_36)
      have c_36' := of_decide_eq_false c_36
      rw [impl_realKernel_x1_0]
      rw [e] at hk
      exact hk _ _ _ H_3 g_28 (o_24.ownS o8 o3)
theorem impl_realKernel_ok : FnOk Try.prog 57 S_impl_realKernel := by
  refine FnOk.body mix_ok E_impl_realKernel_ok Try.func57 rfl (by kernel_rfl) (by kernel_rfl) ?_ ?_ ?_ ?_ ?_
  · intro args H K K' h hk
    simp only [S_impl_realKernel] at *
    unfold F_impl_realKernel at *
    split at hk
    · obtain ⟨pr0, k⟩ := hk
      exact ⟨pr0, (fun r1_a r1_n r1_e H' gg ow0 => h _ _ (k r1_a r1_n r1_e H' gg ow0))⟩
    · exact hk.elim
  · intro hq; cases hq
  · intro args H K hk
    simp only [S_impl_realKernel] at *
    unfold F_impl_realKernel at *
    split at hk
    · obtain ⟨pr0, k⟩ := hk
      exact liveS fun a n e H1 g o => ⟨_, _, k a n e H1 g o⟩
    · exact hk.elim
  · intro _ args H K hk
    simp only [S_impl_realKernel] at *
    unfold F_impl_realKernel at *
    split at hk
    · obtain ⟨pr0, k⟩ := hk
      exact ⟨pr0, (fun r1_a r1_n r1_e H' gg ow0 => ⟨gg, k r1_a r1_n r1_e H' gg ow0⟩)⟩
    · exact hk.elim
  · have mm := @impl_realKernel_main
    have ml := fun (args : List Value) (H : AHeap) (K : Value → AHeap → Prop) => bodyL_body (P := Try.prog) (env := E_impl_realKernel ) (fn := Try.f57) (args := args) (H := H) (K := K) E_impl_realKernel_ok 
    revert mm ml
    generalize bodyK Try.prog E_impl_realKernel Try.f57 = Q
    generalize bodyL Try.prog E_impl_realKernel Try.f57 = QL
    intro mm ml args H K hk
    simp only [S_impl_realKernel] at *
    unfold F_impl_realKernel at *
    split at hk
    · exact ml _ H K (mm _ H K hk)
    · exact hk.elim

def p_impl_squares_l1 (l_list : List Nat) : Nat → Nat → Int → Nat
  | 0, _, _ => 0
  | μ + 1, sum, t8 => (bif decide ((t8 : Int) < (l_list.length : Int)) then (p_impl_squares_l1 l_list μ (fadd .f32 sum (fmul .f32 (((l_list).getD (t8 : Int).toNat 0)) (((l_list).getD (t8 : Int).toNat 0)))) (t8 + 1)) else sum)
def p_impl_squares_l1_s := fun l_list μ sum t8 => @p_impl_squares_l1.eq_2 l_list sum t8 μ
def p_impl_squares (l_list : List Nat) : Nat := (p_impl_squares_l1 l_list (Int.toNat ((l_list.length : Int) - (0 : Int)) + 1) 0 (0 : Int))
def p_impl_squares_eq := @p_impl_squares.eq_1
def T_impl_squares (list_a : Option Addr) (list_n : Nat) (list_e : Nat) (H : AHeap) (K : Nat → AHeap → Prop) : Prop := ∃ (l_list : List Nat), IsL fF H list_a list_n l_list ∧ l_list.length < 1073741824 ∧ K (p_impl_squares l_list) H
theorem T_impl_squares_i {list_a : Option Addr} {list_n : Nat} {list_e : Nat} {H : AHeap} {K : Nat → AHeap → Prop} (h : ∃ (l_list : List Nat), IsL fF H list_a list_n l_list ∧ l_list.length < 1073741824 ∧ K (p_impl_squares l_list) H) : T_impl_squares list_a list_n list_e H K := h

/-! impl_squares: function 89 -/
def E_impl_squares : Env := envOf []
def F_impl_squares : List Value → AHeap → (Value → AHeap → Prop) → Prop
  | [.slice list_a list_n list_e], H, K => T_impl_squares list_a list_n list_e H fun (r1 : Nat) (H' : AHeap) => K (.float .f32 r1) H'
  | _, _, _ => False
def S_impl_squares : FSpec := { F := F_impl_squares, quiet := true, tame := false }
theorem impl_squares_vc (list_a : Option Addr) (list_n : Nat) (list_e : Nat) (H : AHeap) (K : Value → AHeap → Prop) : bodyL Try.prog E_impl_squares Try.f89 [.slice list_a list_n list_e] H K =
  (loopK (exL Try.prog E_impl_squares (cl (cl (cr (cl (cr (cr (bodyC Try.f89))))))) 456 4 [(0, 8)]) [ud, ud, ud, .float .f32 0, ud, ud, .slice list_a list_n list_e, .int .i64 (list_n : Int), .int .i64 0, ud, ud, ud, ud, ud, ud, ud, ud, ud, ud] H (blockQ 0 (seqQ (exL Try.prog E_impl_squares (cr (cr (cr (bodyC Try.f89)))) 4 4 []) (retK Try.prog Try.f89 K)))) := by kernel_rfl
abbrev impl_squares_P1 (list_a : Option Addr) (list_e : Nat) (list_n : Nat) (sum : Nat) (t8 : Int)  : List Value := [ud, ud, ud, .float .f32 sum, ud, ud, .slice list_a list_n list_e, .int .i64 (list_n : Int), .int .i64 t8, ud, ud, ud, ud, ud, ud, ud, ud, ud, ud]
theorem impl_squares_r1 (list_a : Option Addr) (list_e : Nat) (list_n : Nat) (sum : Nat) (t8 : Int)  (H : AHeap) (R : Post) : exL Try.prog E_impl_squares (cl (cl (cr (cl (cr (cr (bodyC Try.f89))))))) 456 4 [(0, 8)] (impl_squares_P1 list_a list_e list_n sum t8) H R =
  (Br (decide ((t8 : Int) < (list_n : Int))) ((0 : Int) ≤ t8 ∧ t8 < (list_n : Int) ∧ ∃ b1 f1, (list_a : Option Addr) = some ⟨b1, f1, none⟩ ∧ ∃ x1 : Nat,  rdC H b1 (f1 + (t8 : Int).toNat * 1) = some (.float .f32 x1) ∧ R .normal [ud, ud, ud, .float .f32 (fadd .f32 sum (fmul .f32 x1 x1)), ud, ud, .slice list_a list_n list_e, .int .i64 (list_n : Int), .int .i64 (IntKind.wrap .i64 (t8 + 1)), ud, ud, ud, ud, ud, ud, ud, ud, ud, ud] H) (R (.exit 0) [ud, ud, ud, .float .f32 sum, ud, ud, ud, ud, ud, ud, ud, ud, ud, ud, ud, ud, ud, ud, ud] H)) := by kernel_rfl
def impl_squares_I1 (list_a : Option Addr) (list_e : Nat) (list_n : Nat) (Inv : Nat → Nat → Int → AHeap → Prop) : Nat → List Value → AHeap → Prop := fun μ tm H => ∃ (sum : Nat), ∃ (t8 : Int), tm = (impl_squares_P1 list_a list_e list_n sum t8) ∧ Inv μ sum t8 H
theorem impl_squares_L1 (list_a : Option Addr) (list_e : Nat) (list_n : Nat) {Q : Post} (Inv : Nat → Nat → Int → AHeap → Prop) (ν : Nat) (sum : Nat) (t8 : Int)  (H : AHeap) (h0 : Inv ν sum t8 H)
    (hs : ∀ (μ : Nat) (sum : Nat) (t8 : Int)  (H : AHeap), Inv μ sum t8 H → exL Try.prog E_impl_squares (cl (cl (cr (cl (cr (cr (bodyC Try.f89))))))) 456 4 [(0, 8)] (impl_squares_P1 list_a list_e list_n sum t8) H (loopQ (impl_squares_I1 list_a list_e list_n Inv) μ Q)) : loopK (exL Try.prog E_impl_squares (cl (cl (cr (cl (cr (cr (bodyC Try.f89))))))) 456 4 [(0, 8)]) (impl_squares_P1 list_a list_e list_n sum t8) H Q :=
  ⟨impl_squares_I1 list_a list_e list_n Inv, ν, ⟨sum, t8, rfl, h0⟩, fun μ tm H h => by obtain ⟨sum, t8, rfl, hI⟩ := h; exact hs μ sum t8  H hI⟩
theorem impl_squares_n1 {list_a : Option Addr} {list_e : Nat} {list_n : Nat} {Q : Post} {Inv : Nat → Nat → Int → AHeap → Prop} {μ : Nat} (μ' : Nat) {sum : Nat} {t8 : Int}  {H : AHeap} (hm : μ' < μ) (hI : Inv μ' sum t8 H) : loopQ (impl_squares_I1 list_a list_e list_n Inv) μ Q .normal (impl_squares_P1 list_a list_e list_n sum t8) H := ⟨μ', hm, sum, t8, rfl, hI⟩
theorem impl_squares_x1_0 (sum : Nat) (H : AHeap) (K : Value → AHeap → Prop)  {I : Nat → List Value → AHeap → Prop} {μ : Nat} : loopQ I μ (blockQ 0 (seqQ (exL Try.prog E_impl_squares (cr (cr (cr (bodyC Try.f89)))) 4 4 []) (retK Try.prog Try.f89 K))) (.exit 0) [ud, ud, ud, .float .f32 sum, ud, ud, ud, ud, ud, ud, ud, ud, ud, ud, ud, ud, ud, ud, ud] H =
  (K (.float .f32 sum) H) := by kernel_rfl
theorem E_impl_squares_ok : ∀ g, FnOk Try.prog g (E_impl_squares g) := FnOk.envOf (by
  intro x hx; cases hx)
set_option maxHeartbeats 1000000 in
theorem impl_squares_main (list_a : Option Addr) (list_n : Nat) (list_e : Nat) (H : AHeap) (K : Value → AHeap → Prop) (h : T_impl_squares list_a list_n list_e H fun (r1 : Nat) (H' : AHeap) => K (.float .f32 r1) H') : bodyL Try.prog E_impl_squares Try.f89 [.slice list_a list_n list_e] H K := by
  rw [impl_squares_vc]
  obtain ⟨l_list, i_list, bd_8, hk⟩ := h
  obtain rfl := i_list.eqn
  have e : (p_impl_squares l_list) = _ := rfl
  have e := e.trans (p_impl_squares_eq l_list)
  have g0 := Grow.refl H
  refine impl_squares_L1 _ _ _ (fun (μ : Nat) (sum : Nat) (t8 : Int) (H_1 : AHeap) => H = H_1 ∧ (0 : Int) ≤ t8 ∧ t8 ≤ (l_list.length : Int) ∧ (l_list.length : Int) - t8 ≤ (μ : Int) ∧ p_impl_squares l_list = p_impl_squares_l1 l_list (μ + 1) sum t8) (Int.toNat ((l_list.length : Int) - (0 : Int))) _ _ H ?_ ?_
  · exact ⟨rfl, o6, o6, o3, e⟩
  · intro μ sum t8  H_1 hI
    obtain ⟨rfl, v_1, v_2, hμ, e⟩ := hI
    rw [impl_squares_r1]
    have e := e.trans (p_impl_squares_l1_s l_list μ sum t8)
    have l_3 := g0.1
    refine Br.intro (fun c_4 => ?_) (fun c_4 => ?_)
    · have e := e.trans (cond_t c_4)
      have c_4' := of_decide_eq_true c_4
      obtain ⟨b_5, f_6, q_7⟩ := ((i_list.grow g0)).pos o0
      refine ⟨by omega, by omega, b_5, f_6, q_7, ?_⟩
      refine ⟨((l_list).getD (t8 : Int).toNat 0), (i_list).rd g0 q_7 o3 _, ?_⟩
      rw [show IntKind.wrap .i64 (t8 + 1) = (t8 + 1) from wrap64 o3 o3]
      refine impl_squares_n1 (μ - 1) o12 ⟨rfl, o1, o1, o12, (by rw [show μ - 1 + 1 = μ from by first | omega]; exact e)⟩
    · have e := e.trans (cond_f c_4)
      have c_4' := of_decide_eq_false c_4
      rw [impl_squares_x1_0]
      rw [e] at hk
      exact hk
theorem impl_squares_ok : FnOk Try.prog 89 S_impl_squares := by
  refine FnOk.body mix_ok E_impl_squares_ok Try.func89 rfl (by kernel_rfl) (by kernel_rfl) ?_ ?_ ?_ ?_ ?_
  · intro args H K K' h hk
    simp only [S_impl_squares] at *
    unfold F_impl_squares at *
    split at hk
    · obtain ⟨l_list, i_list, bd_8, k⟩ := hk
      exact ⟨l_list, i_list, bd_8, h _ _ k⟩
    · exact hk.elim
  · intro _ args H K hk
    simp only [S_impl_squares] at *
    unfold F_impl_squares at *
    split at hk
    · obtain ⟨l_list, i_list, bd_8, k⟩ := hk
      exact ⟨_, k, fun K' k' => ⟨l_list, i_list, bd_8, k'⟩⟩
    · exact hk.elim
  · intro args H K hk
    simp only [S_impl_squares] at *
    unfold F_impl_squares at *
    split at hk
    · obtain ⟨l_list, i_list, bd_8, k⟩ := hk
      exact ⟨_, _, k⟩
    · exact hk.elim
  · intro hq; cases hq
  · have mm := @impl_squares_main
    have ml := fun (args : List Value) (H : AHeap) (K : Value → AHeap → Prop) => bodyL_body (P := Try.prog) (env := E_impl_squares ) (fn := Try.f89) (args := args) (H := H) (K := K) E_impl_squares_ok 
    revert mm ml
    generalize bodyK Try.prog E_impl_squares Try.f89 = Q
    generalize bodyL Try.prog E_impl_squares Try.f89 = QL
    intro mm ml args H K hk
    simp only [S_impl_squares] at *
    unfold F_impl_squares at *
    split at hk
    · exact ml _ H K (mm _ _ _ H K hk)
    · exact hk.elim

def p_impl_RootNumber (x : Nat) : Nat := ((fnarrow ((p_math_Sqrt (fwide x)))).getD 0)
def p_impl_RootNumber_eq := @p_impl_RootNumber.eq_1
def T_impl_RootNumber (x : Nat) (H : AHeap) (K : Nat → AHeap → Prop) : Prop := K (p_impl_RootNumber x) H
theorem T_impl_RootNumber_i {x : Nat} {H : AHeap} {K : Nat → AHeap → Prop} (h : K (p_impl_RootNumber x) H) : T_impl_RootNumber x H K := h

/-! impl_RootNumber: function 88 -/
def E_impl_RootNumber : Env := envOf [(113, S_math_Sqrt)]
def F_impl_RootNumber : List Value → AHeap → (Value → AHeap → Prop) → Prop
  | [.float .f32 x], H, K => T_impl_RootNumber x H fun (r1 : Nat) (H' : AHeap) => K (.float .f32 r1) H'
  | _, _, _ => False
def S_impl_RootNumber : FSpec := { F := F_impl_RootNumber, quiet := true, tame := false }
theorem impl_RootNumber_vc (x : Nat) (H : AHeap) (K : Value → AHeap → Prop) : bodyL Try.prog E_impl_RootNumber Try.f88 [.float .f32 x] H K =
  (T_math_Sqrt (fwide x) H fun (r1 : Nat) (H1 : AHeap) => ∃ x1 : Nat, fnarrow r1 = some x1 ∧ K (.float .f32 x1) H1) := by kernel_rfl
theorem E_impl_RootNumber_ok : ∀ g, FnOk Try.prog g (E_impl_RootNumber g) := FnOk.envOf (by
  intro x hx
  simp only [List.mem_cons, List.not_mem_nil, or_false] at hx
  subst hx; exact math_Sqrt_ok)
set_option maxHeartbeats 1000000 in
theorem impl_RootNumber_main (x : Nat) (H : AHeap) (K : Value → AHeap → Prop) (h : T_impl_RootNumber x H fun (r1 : Nat) (H' : AHeap) => K (.float .f32 r1) H') : bodyL Try.prog E_impl_RootNumber Try.f88 [.float .f32 x] H K := by
  rw [impl_RootNumber_vc]
  have hk := h
  unfold T_impl_RootNumber at hk
  have e : (p_impl_RootNumber x) = _ := rfl
  have e := e.trans (p_impl_RootNumber_eq x)
  have g0 := Grow.refl H
  refine T_math_Sqrt_i ?_
  refine ⟨_, opt_get (d := 0) (by exact sqrt_nar _), ?_⟩
  rw [e] at hk
  exact hk
theorem impl_RootNumber_ok : FnOk Try.prog 88 S_impl_RootNumber := by
  refine FnOk.body mix_ok E_impl_RootNumber_ok Try.func88 rfl (by kernel_rfl) (by kernel_rfl) ?_ ?_ ?_ ?_ ?_
  · intro args H K K' h hk
    simp only [S_impl_RootNumber] at *
    unfold F_impl_RootNumber at *
    split at hk
    · have k := hk
      exact h _ _ k
    · exact hk.elim
  · intro _ args H K hk
    simp only [S_impl_RootNumber] at *
    unfold F_impl_RootNumber at *
    split at hk
    · have k := hk
      exact ⟨_, k, fun K' k' => k'⟩
    · exact hk.elim
  · intro args H K hk
    simp only [S_impl_RootNumber] at *
    unfold F_impl_RootNumber at *
    split at hk
    · have k := hk
      exact ⟨_, _, k⟩
    · exact hk.elim
  · intro hq; cases hq
  · have mm := @impl_RootNumber_main
    have ml := fun (args : List Value) (H : AHeap) (K : Value → AHeap → Prop) => bodyL_body (P := Try.prog) (env := E_impl_RootNumber ) (fn := Try.f88) (args := args) (H := H) (K := K) E_impl_RootNumber_ok 
    revert mm ml
    generalize bodyK Try.prog E_impl_RootNumber Try.f88 = Q
    generalize bodyL Try.prog E_impl_RootNumber Try.f88 = QL
    intro mm ml args H K hk
    simp only [S_impl_RootNumber] at *
    unfold F_impl_RootNumber at *
    split at hk
    · exact ml _ H K (mm _ H K hk)
    · exact hk.elim

def p_impl_atomBy_l2 (l_list : List Nat) (r : Int) (count : Int) (place : Int) (size : Nat) (t21 : Int) (y1_1 : List Nat) (k2_2 : Int → (List Nat) → (List Nat)) : Nat → Int → (List Nat) → (List Nat)
  | 0, _, _ => []
  | μ2 + 1, t50, y2_1 => (bif decide ((t50 : Int) < ((count).toNat : Int)) then (p_impl_atomBy_l2 l_list r count place size t21 y1_1 k2_2 μ2 (t50 + 1) (((y2_1).set (t50 : Int).toNat ((fmul .f32 (fdiv .f32 (((y2_1).getD (t50 : Int).toNat 0)) ((p_impl_RootNumber (p_impl_squares y1_1)))) size))))) else (k2_2 t50 y2_1))
def p_impl_atomBy_l2_s := fun l_list r count place size t21 y1_1 k2_2 μ2 t50 y2_1 => @p_impl_atomBy_l2.eq_2 l_list r count place size t21 y1_1 k2_2 t50 y2_1 μ2
def p_impl_atomBy_l1 (l_list : List Nat) (r : Int) (count : Int) (place : Int) (size : Nat) : Nat → Int → (List Nat) → (List Nat)
  | 0, _, _ => []
  | μ + 1, t21, y1_1 => (bif decide ((t21 : Int) < ((count).toNat : Int)) then (bif decide ((0 : Int) ≤ ((t21 - place) + r)) then (bif decide ((((t21 - place) + r) : Int) < (l_list.length : Int)) then (p_impl_atomBy_l1 l_list r count place size μ (t21 + 1) (((y1_1).set (t21 : Int).toNat ((((l_list).getD (((t21 - place) + r) : Int).toNat 0)))))) else (p_impl_atomBy_l1 l_list r count place size μ (t21 + 1) y1_1)) else (p_impl_atomBy_l1 l_list r count place size μ (t21 + 1) y1_1)) else (p_impl_atomBy_l2 l_list r count place size t21 y1_1 (fun (t50 : Int) (y2_1 : List Nat) => y2_1) (Int.toNat (((count).toNat : Int) - (0 : Int)) + 1) (0 : Int) y1_1))
def p_impl_atomBy_l1_s := fun l_list r count place size μ t21 y1_1 => @p_impl_atomBy_l1.eq_2 l_list r count place size t21 y1_1 μ
def p_impl_atomBy (l_list : List Nat) (r : Int) (count : Int) (place : Int) (size : Nat) : (List Nat) := (p_impl_atomBy_l1 l_list r count place size (Int.toNat (((count).toNat : Int) - (0 : Int)) + 1) (0 : Int) (List.replicate ((count).toNat) 0))
def p_impl_atomBy_eq := @p_impl_atomBy.eq_1
def T_impl_atomBy (list_a : Option Addr) (list_n : Nat) (list_e : Nat) (r : Int) (count : Int) (place : Int) (size : Nat) (H : AHeap) (K : (Option Addr) → Nat → Nat → AHeap → Prop) : Prop := ∃ (l_list : List Nat), IsL fF H list_a list_n l_list ∧ l_list.length < 1073741824 ∧ 0 ≤ count ∧ count ≤ 1000 ∧ 0 ≤ place ∧ place ≤ 1000 ∧ -256 ≤ r ∧ r ≤ 256 ∧ ((∀ (r1_a : Option Addr) (r1_n r1_e : Nat), ∀ H' : AHeap, Grow H H' → OwnS fF H' H.length r1_a r1_n r1_e (p_impl_atomBy l_list r count place size) → K r1_a r1_n r1_e H'))
theorem T_impl_atomBy_i {list_a : Option Addr} {list_n : Nat} {list_e : Nat} {r : Int} {count : Int} {place : Int} {size : Nat} {H : AHeap} {K : (Option Addr) → Nat → Nat → AHeap → Prop} (h : ∃ (l_list : List Nat), IsL fF H list_a list_n l_list ∧ l_list.length < 1073741824 ∧ 0 ≤ count ∧ count ≤ 1000 ∧ 0 ≤ place ∧ place ≤ 1000 ∧ -256 ≤ r ∧ r ≤ 256 ∧ ((∀ (r1_a : Option Addr) (r1_n r1_e : Nat), ∀ H' : AHeap, Grow H H' → OwnS fF H' H.length r1_a r1_n r1_e (p_impl_atomBy l_list r count place size) → K r1_a r1_n r1_e H'))) : T_impl_atomBy list_a list_n list_e r count place size H K := h
theorem impl_atomBy_l2_len (l : List Nat) (r c p : Int) (z : Nat) (t : Int) (y1 : List Nat) : ∀ (μ : Nat) (i : Int) (y : List Nat), (p_impl_atomBy_l2 l r c p z t y1 (fun (t50 : Int) (y2_1 : List Nat) => y2_1) μ i y).length ≤ y.length := by
  intro μ
  induction μ with
  | zero => intro i y; exact Nat.zero_le _
  | succ μ ih =>
    intro i y
    rw [p_impl_atomBy_l2_s]
    cases decide (i < ((c).toNat : Int))
    · exact Nat.le_refl _
    · exact Nat.le_trans (ih _ _) (by rw [List.length_set]; exact Nat.le_refl _)
theorem impl_atomBy_l1_len (l : List Nat) (r c p : Int) (z : Nat) : ∀ (μ : Nat) (i : Int) (y : List Nat), (p_impl_atomBy_l1 l r c p z μ i y).length ≤ y.length := by
  intro μ
  induction μ with
  | zero => intro i y; exact Nat.zero_le _
  | succ μ ih =>
    intro i y
    rw [p_impl_atomBy_l1_s]
    cases decide (i < ((c).toNat : Int))
    · exact impl_atomBy_l2_len _ _ _ _ _ _ _ _ _ _
    · simp only [cond_true]
      refine cnb (P := fun r : List Nat => r.length ≤ y.length) (fun h => ?_) (fun h => ih _ _)
      refine cnb (P := fun r : List Nat => r.length ≤ y.length) (fun h => ?_) (fun h => ih _ _)
      refine Nat.le_trans (ih _ _) ?_; rw [List.length_set]; exact Nat.le_refl _
theorem impl_atomBy_len (l : List Nat) (r c p : Int) (z : Nat) : (p_impl_atomBy l r c p z).length ≤ c.toNat := by
  rw [p_impl_atomBy_eq]
  exact Nat.le_trans (impl_atomBy_l1_len _ _ _ _ _ _ _ _) (by rw [List.length_replicate]; exact Nat.le_refl _)
theorem impl_atomBy_l2_full (l : List Nat) (r c p : Int) (z : Nat) (t : Int) (y1 : List Nat) : ∀ (μ : Nat) (i : Int) (y : List Nat), (((c).toNat : Int) - i).toNat < μ → (p_impl_atomBy_l2 l r c p z t y1 (fun (t50 : Int) (y2_1 : List Nat) => y2_1) μ i y).length = y.length := by
  intro μ
  induction μ with
  | zero => intro i y h; omega
  | succ μ ih =>
    intro i y h
    rw [p_impl_atomBy_l2_s]
    by_cases hi : i < ((c).toNat : Int)
    · rw [decide_eq_true hi, cond_true, ih _ _ o3, List.length_set]
    · rw [decide_eq_false hi, cond_false]
theorem impl_atomBy_l1_full (l : List Nat) (r c p : Int) (z : Nat) : ∀ (μ : Nat) (i : Int) (y : List Nat), (((c).toNat : Int) - i).toNat < μ → (p_impl_atomBy_l1 l r c p z μ i y).length = y.length := by
  intro μ
  induction μ with
  | zero => intro i y h; omega
  | succ μ ih =>
    intro i y h
    rw [p_impl_atomBy_l1_s]
    by_cases hi : i < ((c).toNat : Int)
    · rw [decide_eq_true hi, cond_true]
      refine cnb (P := fun r : List Nat => r.length = y.length) (fun h2 => ?_) (fun h2 => ih _ _ o3)
      refine cnb (P := fun r : List Nat => r.length = y.length) (fun h3 => ?_) (fun h3 => ih _ _ o3)
      rw [ih _ _ o3, List.length_set]
    · rw [decide_eq_false hi, cond_false]
      exact impl_atomBy_l2_full _ _ _ _ _ _ _ _ _ _ o3
theorem impl_atomBy_full (l : List Nat) (r c p : Int) (z : Nat) : (p_impl_atomBy l r c p z).length = c.toNat := by
  rw [p_impl_atomBy_eq, impl_atomBy_l1_full _ _ _ _ _ _ _ _ o3, List.length_replicate]
/-! impl_atomBy: function 59 -/
def E_impl_atomBy : Env := envOf [(89, S_impl_squares), (88, S_impl_RootNumber)]
def F_impl_atomBy : List Value → AHeap → (Value → AHeap → Prop) → Prop
  | [.slice list_a list_n list_e, .int .i64 r, .int .i64 count, .int .i64 place, .float .f32 size], H, K => T_impl_atomBy list_a list_n list_e r count place size H fun (r1_a : Option Addr) (r1_n : Nat) (r1_e : Nat) (H' : AHeap) => K (.slice r1_a r1_n r1_e) H'
  | _, _, _ => False
def S_impl_atomBy : FSpec := { F := F_impl_atomBy, quiet := false, tame := true }
theorem impl_atomBy_vc (list_a : Option Addr) (list_n : Nat) (list_e : Nat) (r : Int) (count : Int) (place : Int) (size : Nat) (H : AHeap) (K : Value → AHeap → Prop) : bodyL Try.prog E_impl_atomBy Try.f59 [.slice list_a list_n list_e, .int .i64 r, .int .i64 count, .int .i64 place, .float .f32 size] H K =
  ((0 : Int) ≤ count ∧ count = count ∧ count < (most : Int) ∧ Al (zerosOf (.float .f32 0) (count).toNat) H fun b1 H1 => loopK (exL Try.prog E_impl_atomBy (cl (cl (cr (cl (cr (cr (bodyC Try.f59))))))) 3147803 1024 [(0, 2064)]) [.slice list_a list_n list_e, .int .i64 r, ud, .int .i64 place, .float .f32 size, ud, ud, ud, ud, ud, ud, .slice (some ⟨b1, 0, none⟩) ((count).toNat) 1, ud, ud, ud, ud, ud, ud, ud, ud, .int .i64 (((count).toNat : Int)), .int .i64 0, ud, ud, ud, ud, ud, ud, ud, ud, ud, ud, ud, ud, ud, ud, ud, ud, ud, ud, ud, ud, ud, ud, ud, ud, ud, ud, ud, ud, ud, ud, ud, ud, ud, ud, ud, ud, ud, ud, ud, ud, ud, ud, ud] H1 (blockQ 0 (seqQ (exL Try.prog E_impl_atomBy (cr (cr (cr (bodyC Try.f59)))) 1024 1024 []) (retK Try.prog Try.f59 K)))) := by kernel_rfl
abbrev impl_atomBy_P1 (b1 : Nat) (count : Int) (list_a : Option Addr) (list_e : Nat) (list_n : Nat) (place : Int) (r : Int) (size : Nat) (t21 : Int)  : List Value := [.slice list_a list_n list_e, .int .i64 r, ud, .int .i64 place, .float .f32 size, ud, ud, ud, ud, ud, ud, .slice (some ⟨b1, 0, none⟩) ((count).toNat) 1, ud, ud, ud, ud, ud, ud, ud, ud, .int .i64 (((count).toNat : Int)), .int .i64 t21, ud, ud, ud, ud, ud, ud, ud, ud, ud, ud, ud, ud, ud, ud, ud, ud, ud, ud, ud, ud, ud, ud, ud, ud, ud, ud, ud, ud, ud, ud, ud, ud, ud, ud, ud, ud, ud, ud, ud, ud, ud, ud, ud]
theorem impl_atomBy_r1 (b1 : Nat) (count : Int) (list_a : Option Addr) (list_e : Nat) (list_n : Nat) (place : Int) (r : Int) (size : Nat) (t21 : Int)  (H : AHeap) (R : Post) : exL Try.prog E_impl_atomBy (cl (cl (cr (cl (cr (cr (bodyC Try.f59))))))) 3147803 1024 [(0, 2064)] (impl_atomBy_P1 b1 count list_a list_e list_n place r size t21) H R =
  (Br (decide ((t21 : Int) < ((count).toNat : Int))) (Br (decide ((0 : Int) ≤ IntKind.wrap .i64 ((IntKind.wrap .i64 (t21 - place)) + r))) (Br (decide ((IntKind.wrap .i64 ((IntKind.wrap .i64 (t21 - place)) + r) : Int) < (list_n : Int))) ((0 : Int) ≤ IntKind.wrap .i64 ((IntKind.wrap .i64 (t21 - place)) + r) ∧ IntKind.wrap .i64 ((IntKind.wrap .i64 (t21 - place)) + r) < (list_n : Int) ∧ ∃ b2 f1, (list_a : Option Addr) = some ⟨b2, f1, none⟩ ∧ ∃ x1 : Nat,  rdC H b2 (f1 + (IntKind.wrap .i64 ((IntKind.wrap .i64 (t21 - place)) + r) : Int).toNat * 1) = some (.float .f32 x1) ∧ (0 : Int) ≤ t21 ∧ t21 < ((count).toNat : Int) ∧ ∃ b3 f2, (some ⟨b1, 0, none⟩ : Option Addr) = some ⟨b3, f2, none⟩ ∧ isOwn H b3 ∧ (∃ l, rdN H b3 (f2 + (t21 : Int).toNat * 1) 1 = some l) ∧ Lt (setC H b3 (f2 + (t21 : Int).toNat * 1) (.float .f32 x1)) fun H2 => R .normal [.slice list_a list_n list_e, .int .i64 r, ud, .int .i64 place, .float .f32 size, ud, ud, ud, ud, ud, ud, .slice (some ⟨b1, 0, none⟩) ((count).toNat) 1, ud, ud, ud, ud, ud, ud, ud, ud, .int .i64 (((count).toNat : Int)), .int .i64 (IntKind.wrap .i64 (t21 + 1)), ud, ud, ud, ud, ud, ud, ud, ud, ud, ud, ud, ud, ud, ud, ud, ud, ud, ud, ud, ud, ud, ud, ud, ud, ud, ud, ud, ud, ud, ud, ud, ud, ud, ud, ud, ud, ud, ud, ud, ud, ud, ud, ud] H2) (R .normal [.slice list_a list_n list_e, .int .i64 r, ud, .int .i64 place, .float .f32 size, ud, ud, ud, ud, ud, ud, .slice (some ⟨b1, 0, none⟩) ((count).toNat) 1, ud, ud, ud, ud, ud, ud, ud, ud, .int .i64 (((count).toNat : Int)), .int .i64 (IntKind.wrap .i64 (t21 + 1)), ud, ud, ud, ud, ud, ud, ud, ud, ud, ud, ud, ud, ud, ud, ud, ud, ud, ud, ud, ud, ud, ud, ud, ud, ud, ud, ud, ud, ud, ud, ud, ud, ud, ud, ud, ud, ud, ud, ud, ud, ud, ud, ud] H)) (R .normal [.slice list_a list_n list_e, .int .i64 r, ud, .int .i64 place, .float .f32 size, ud, ud, ud, ud, ud, ud, .slice (some ⟨b1, 0, none⟩) ((count).toNat) 1, ud, ud, ud, ud, ud, ud, ud, ud, .int .i64 (((count).toNat : Int)), .int .i64 (IntKind.wrap .i64 (t21 + 1)), ud, ud, ud, ud, ud, ud, ud, ud, ud, ud, ud, ud, ud, ud, ud, ud, ud, ud, ud, ud, ud, ud, ud, ud, ud, ud, ud, ud, ud, ud, ud, ud, ud, ud, ud, ud, ud, ud, ud, ud, ud, ud, ud] H)) (R (.exit 0) [ud, ud, ud, ud, .float .f32 size, ud, ud, ud, ud, ud, ud, .slice (some ⟨b1, 0, none⟩) ((count).toNat) 1, ud, ud, ud, ud, ud, ud, ud, ud, ud, ud, ud, ud, ud, ud, ud, ud, ud, ud, ud, ud, ud, ud, ud, ud, ud, ud, ud, ud, ud, ud, ud, ud, ud, ud, ud, ud, ud, ud, ud, ud, ud, ud, ud, ud, ud, ud, ud, ud, ud, ud, ud, ud, ud] H)) := by kernel_rfl
def impl_atomBy_I1 (b1 : Nat) (count : Int) (list_a : Option Addr) (list_e : Nat) (list_n : Nat) (place : Int) (r : Int) (size : Nat) (Inv : Nat → Int → AHeap → Prop) : Nat → List Value → AHeap → Prop := fun μ tm H => ∃ (t21 : Int), tm = (impl_atomBy_P1 b1 count list_a list_e list_n place r size t21) ∧ Inv μ t21 H
theorem impl_atomBy_L1 (b1 : Nat) (count : Int) (list_a : Option Addr) (list_e : Nat) (list_n : Nat) (place : Int) (r : Int) (size : Nat) {Q : Post} (Inv : Nat → Int → AHeap → Prop) (ν : Nat) (t21 : Int)  (H : AHeap) (h0 : Inv ν t21 H)
    (hs : ∀ (μ : Nat) (t21 : Int)  (H : AHeap), Inv μ t21 H → exL Try.prog E_impl_atomBy (cl (cl (cr (cl (cr (cr (bodyC Try.f59))))))) 3147803 1024 [(0, 2064)] (impl_atomBy_P1 b1 count list_a list_e list_n place r size t21) H (loopQ (impl_atomBy_I1 b1 count list_a list_e list_n place r size Inv) μ Q)) : loopK (exL Try.prog E_impl_atomBy (cl (cl (cr (cl (cr (cr (bodyC Try.f59))))))) 3147803 1024 [(0, 2064)]) (impl_atomBy_P1 b1 count list_a list_e list_n place r size t21) H Q :=
  ⟨impl_atomBy_I1 b1 count list_a list_e list_n place r size Inv, ν, ⟨t21, rfl, h0⟩, fun μ tm H h => by obtain ⟨t21, rfl, hI⟩ := h; exact hs μ t21  H hI⟩
theorem impl_atomBy_n1 {b1 : Nat} {count : Int} {list_a : Option Addr} {list_e : Nat} {list_n : Nat} {place : Int} {r : Int} {size : Nat} {Q : Post} {Inv : Nat → Int → AHeap → Prop} {μ : Nat} (μ' : Nat) {t21 : Int}  {H : AHeap} (hm : μ' < μ) (hI : Inv μ' t21 H) : loopQ (impl_atomBy_I1 b1 count list_a list_e list_n place r size Inv) μ Q .normal (impl_atomBy_P1 b1 count list_a list_e list_n place r size t21) H := ⟨μ', hm, t21, rfl, hI⟩
theorem impl_atomBy_x1_0 (b1 : Nat) (count : Int) (size : Nat) (H : AHeap) (K : Value → AHeap → Prop)  {I : Nat → List Value → AHeap → Prop} {μ : Nat} : loopQ I μ (blockQ 0 (seqQ (exL Try.prog E_impl_atomBy (cr (cr (cr (bodyC Try.f59)))) 1024 1024 []) (retK Try.prog Try.f59 K))) (.exit 0) [ud, ud, ud, ud, .float .f32 size, ud, ud, ud, ud, ud, ud, .slice (some ⟨b1, 0, none⟩) ((count).toNat) 1, ud, ud, ud, ud, ud, ud, ud, ud, ud, ud, ud, ud, ud, ud, ud, ud, ud, ud, ud, ud, ud, ud, ud, ud, ud, ud, ud, ud, ud, ud, ud, ud, ud, ud, ud, ud, ud, ud, ud, ud, ud, ud, ud, ud, ud, ud, ud, ud, ud, ud, ud, ud, ud] H =
  (T_impl_squares (some ⟨b1, 0, none⟩) ((count).toNat) 1 H fun (r1 : Nat) (H3 : AHeap) => T_impl_RootNumber r1 H3 fun (r2 : Nat) (H4 : AHeap) => loopK (exL Try.prog E_impl_atomBy (cl (cl (cr (cl (cr (cr (cr (cr (bodyC Try.f59))))))))) 1970324836993040 1024 [(2, 2048)]) [ud, ud, ud, ud, .float .f32 size, ud, ud, ud, ud, ud, ud, .slice (some ⟨b1, 0, none⟩) ((count).toNat) 1, ud, ud, .float .f32 r2, ud, ud, ud, ud, ud, ud, ud, ud, ud, ud, ud, ud, ud, ud, ud, ud, ud, ud, ud, ud, ud, ud, ud, ud, ud, ud, ud, ud, ud, ud, ud, ud, ud, .slice (some ⟨b1, 0, none⟩) ((count).toNat) 1, .int .i64 (((count).toNat : Int)), .int .i64 0, ud, ud, ud, ud, ud, ud, ud, ud, ud, ud, ud, ud, ud, ud] H4 (blockQ 2 (seqQ (exL Try.prog E_impl_atomBy (cr (cr (cr (cr (cr (bodyC Try.f59)))))) 1024 1024 []) (retK Try.prog Try.f59 K)))) := by kernel_rfl
abbrev impl_atomBy_P2 (b1 : Nat) (count : Int) (r2 : Nat) (size : Nat) (t50 : Int)  : List Value := [ud, ud, ud, ud, .float .f32 size, ud, ud, ud, ud, ud, ud, .slice (some ⟨b1, 0, none⟩) ((count).toNat) 1, ud, ud, .float .f32 r2, ud, ud, ud, ud, ud, ud, ud, ud, ud, ud, ud, ud, ud, ud, ud, ud, ud, ud, ud, ud, ud, ud, ud, ud, ud, ud, ud, ud, ud, ud, ud, ud, ud, .slice (some ⟨b1, 0, none⟩) ((count).toNat) 1, .int .i64 (((count).toNat : Int)), .int .i64 t50, ud, ud, ud, ud, ud, ud, ud, ud, ud, ud, ud, ud, ud, ud]
theorem impl_atomBy_r2 (b1 : Nat) (count : Int) (r2 : Nat) (size : Nat) (t50 : Int)  (H : AHeap) (R : Post) : exL Try.prog E_impl_atomBy (cl (cl (cr (cl (cr (cr (cr (cr (bodyC Try.f59))))))))) 1970324836993040 1024 [(2, 2048)] (impl_atomBy_P2 b1 count r2 size t50) H R =
  (Br (decide ((t50 : Int) < ((count).toNat : Int))) ((0 : Int) ≤ t50 ∧ t50 < ((count).toNat : Int) ∧ ∃ b4 f3, (some ⟨b1, 0, none⟩ : Option Addr) = some ⟨b4, f3, none⟩ ∧ ∃ x2 : Nat,  rdC H b4 (f3 + (t50 : Int).toNat * 1) = some (.float .f32 x2) ∧ (0 : Int) ≤ t50 ∧ t50 < ((count).toNat : Int) ∧ ∃ b5 f4, (some ⟨b1, 0, none⟩ : Option Addr) = some ⟨b5, f4, none⟩ ∧ isOwn H b5 ∧ (∃ l, rdN H b5 (f4 + (t50 : Int).toNat * 1) 1 = some l) ∧ Lt (setC H b5 (f4 + (t50 : Int).toNat * 1) (.float .f32 (fmul .f32 (fdiv .f32 x2 r2) size))) fun H5 => R .normal [ud, ud, ud, ud, .float .f32 size, ud, ud, ud, ud, ud, ud, .slice (some ⟨b1, 0, none⟩) ((count).toNat) 1, ud, ud, .float .f32 r2, ud, ud, ud, ud, ud, ud, ud, ud, ud, ud, ud, ud, ud, ud, ud, ud, ud, ud, ud, ud, ud, ud, ud, ud, ud, ud, ud, ud, ud, ud, ud, ud, ud, .slice (some ⟨b1, 0, none⟩) ((count).toNat) 1, .int .i64 (((count).toNat : Int)), .int .i64 (IntKind.wrap .i64 (t50 + 1)), ud, ud, ud, ud, ud, ud, ud, ud, ud, ud, ud, ud, ud, ud] H5) (R (.exit 2) [ud, ud, ud, ud, ud, ud, ud, ud, ud, ud, ud, .slice (some ⟨b1, 0, none⟩) ((count).toNat) 1, ud, ud, ud, ud, ud, ud, ud, ud, ud, ud, ud, ud, ud, ud, ud, ud, ud, ud, ud, ud, ud, ud, ud, ud, ud, ud, ud, ud, ud, ud, ud, ud, ud, ud, ud, ud, ud, ud, ud, ud, ud, ud, ud, ud, ud, ud, ud, ud, ud, ud, ud, ud, ud] H)) := by kernel_rfl
def impl_atomBy_I2 (b1 : Nat) (count : Int) (r2 : Nat) (size : Nat) (Inv : Nat → Int → AHeap → Prop) : Nat → List Value → AHeap → Prop := fun μ tm H => ∃ (t50 : Int), tm = (impl_atomBy_P2 b1 count r2 size t50) ∧ Inv μ t50 H
theorem impl_atomBy_L2 (b1 : Nat) (count : Int) (r2 : Nat) (size : Nat) {Q : Post} (Inv : Nat → Int → AHeap → Prop) (ν : Nat) (t50 : Int)  (H : AHeap) (h0 : Inv ν t50 H)
    (hs : ∀ (μ : Nat) (t50 : Int)  (H : AHeap), Inv μ t50 H → exL Try.prog E_impl_atomBy (cl (cl (cr (cl (cr (cr (cr (cr (bodyC Try.f59))))))))) 1970324836993040 1024 [(2, 2048)] (impl_atomBy_P2 b1 count r2 size t50) H (loopQ (impl_atomBy_I2 b1 count r2 size Inv) μ Q)) : loopK (exL Try.prog E_impl_atomBy (cl (cl (cr (cl (cr (cr (cr (cr (bodyC Try.f59))))))))) 1970324836993040 1024 [(2, 2048)]) (impl_atomBy_P2 b1 count r2 size t50) H Q :=
  ⟨impl_atomBy_I2 b1 count r2 size Inv, ν, ⟨t50, rfl, h0⟩, fun μ tm H h => by obtain ⟨t50, rfl, hI⟩ := h; exact hs μ t50  H hI⟩
theorem impl_atomBy_n2 {b1 : Nat} {count : Int} {r2 : Nat} {size : Nat} {Q : Post} {Inv : Nat → Int → AHeap → Prop} {μ : Nat} (μ' : Nat) {t50 : Int}  {H : AHeap} (hm : μ' < μ) (hI : Inv μ' t50 H) : loopQ (impl_atomBy_I2 b1 count r2 size Inv) μ Q .normal (impl_atomBy_P2 b1 count r2 size t50) H := ⟨μ', hm, t50, rfl, hI⟩
theorem impl_atomBy_x2_2 (b1 : Nat) (count : Int) (H : AHeap) (K : Value → AHeap → Prop)  {I : Nat → List Value → AHeap → Prop} {μ : Nat} : loopQ I μ (blockQ 2 (seqQ (exL Try.prog E_impl_atomBy (cr (cr (cr (cr (cr (bodyC Try.f59)))))) 1024 1024 []) (retK Try.prog Try.f59 K))) (.exit 2) [ud, ud, ud, ud, ud, ud, ud, ud, ud, ud, ud, .slice (some ⟨b1, 0, none⟩) ((count).toNat) 1, ud, ud, ud, ud, ud, ud, ud, ud, ud, ud, ud, ud, ud, ud, ud, ud, ud, ud, ud, ud, ud, ud, ud, ud, ud, ud, ud, ud, ud, ud, ud, ud, ud, ud, ud, ud, ud, ud, ud, ud, ud, ud, ud, ud, ud, ud, ud, ud, ud, ud, ud, ud, ud] H =
  (K (.slice (some ⟨b1, 0, none⟩) ((count).toNat) 1) H) := by kernel_rfl
theorem E_impl_atomBy_ok : ∀ g, FnOk Try.prog g (E_impl_atomBy g) := FnOk.envOf (by
  intro x hx
  simp only [List.mem_cons, List.not_mem_nil, or_false] at hx
  rcases hx with rfl | rfl
  · exact impl_squares_ok
  · exact impl_RootNumber_ok)
set_option maxHeartbeats 1000000 in
theorem impl_atomBy_main (list_a : Option Addr) (list_n : Nat) (list_e : Nat) (r : Int) (count : Int) (place : Int) (size : Nat) (H : AHeap) (K : Value → AHeap → Prop) (h : T_impl_atomBy list_a list_n list_e r count place size H fun (r1_a : Option Addr) (r1_n : Nat) (r1_e : Nat) (H' : AHeap) => K (.slice r1_a r1_n r1_e) H') : bodyL Try.prog E_impl_atomBy Try.f59 [.slice list_a list_n list_e, .int .i64 r, .int .i64 count, .int .i64 place, .float .f32 size] H K := by
  rw [impl_atomBy_vc]
  obtain ⟨l_list, i_list, bd_46, pr0, pr1, pr2, pr3, pr4, pr5, hk⟩ := h
  obtain rfl := i_list.eqn
  have e : (p_impl_atomBy l_list r count place size) = _ := rfl
  have e := e.trans (p_impl_atomBy_eq l_list r count place size)
  have g0 := Grow.refl H
  refine ⟨by omega, rfl, o28, ?_⟩
  refine Al.intro (fun b_1 H_1 hb_2 hl_3 g_4 o_5 => ?_)
  rw [zeros_map fF 0 _ rfl] at o_5
  have l_7 := g_4.1
  have g_8 := g0.trans g_4
  have l_9 := g_8.1
  have w_45 := o_5.lt
  refine impl_atomBy_L1 _ _ _ _ _ _ _ _ (fun (μ : Nat) (t21 : Int) (H_2 : AHeap) => ∃ (y1_1 : List Nat), Own H_2 b_1 (y1_1.map fF) ∧ y1_1.length = (count).toNat ∧ Grow H H_2 ∧ (0 : Int) ≤ t21 ∧ ((t21 ≤ ((count).toNat : Int) ∨ t21 ≤ (0 : Int))) ∧ ((count).toNat : Int) - t21 ≤ (μ : Int) ∧ p_impl_atomBy l_list r count place size = p_impl_atomBy_l1 l_list r count place size (μ + 1) t21 y1_1) (Int.toNat (((count).toNat : Int) - (0 : Int))) _ H_1 ?_ ?_
  · exact ⟨_, o_5, o29, g_8, o6, o6, o3, e⟩
  · intro μ t21  H_2 hI
    obtain ⟨y1_1, o_10, y_11, g_12, v_13, v_14, hμ, e⟩ := hI
    rw [impl_atomBy_r1]
    have e := e.trans (p_impl_atomBy_l1_s l_list r count place size μ t21 y1_1)
    have w_15 := o_10.lt
    have l_16 := g_12.1
    refine Br.intro (fun c_17 => ?_) (fun c_17 => ?_)
    · have e := e.trans (cond_t c_17)
      have c_17' := of_decide_eq_true c_17
      rw [show IntKind.wrap .i64 (t21 - place) = (t21 - place) from wrap64 o3 o3]
      rw [show IntKind.wrap .i64 ((t21 - place) + r) = ((t21 - place) + r) from wrap64 o3 o3]
      refine Br.intro (fun c_18 => ?_) (fun c_18 => ?_)
      · have e := e.trans (cond_t c_18)
        have c_18' := of_decide_eq_true c_18
        refine Br.intro (fun c_19 => ?_) (fun c_19 => ?_)
        · have e := e.trans (cond_t c_19)
          have c_19' := of_decide_eq_true c_19
          obtain ⟨b_20, f_21, q_22⟩ := ((i_list.grow g_12)).pos o0
          refine ⟨by omega, by omega, b_20, f_21, q_22, ?_⟩
          refine ⟨((l_list).getD (((t21 - place) + r) : Int).toNat 0), (i_list).rd g_12 q_22 o3 _, ?_⟩
          refine ⟨by omega, o3, _, _, rfl, ?_⟩
          refine Lt.set o_10 o14 (fun H_3 hl_23 o_25 k_24 => ?_)
          have o_25 := map_set o_25
          have l_26 := k_24.1
          have g_27 := g_12.keep (b := b_1) o3 k_24
          have l_28 := g_27.1
          have w_29 := o_25.lt
          rw [show IntKind.wrap .i64 (t21 + 1) = (t21 + 1) from wrap64 o3 o3]
          refine impl_atomBy_n1 (μ - 1) o12 ⟨_, o_25, o20, g_27, o1, o1, o12, (by rw [show μ - 1 + 1 = μ from by first | omega]; exact e)⟩
        · have e := e.trans (cond_f c_19)
          have c_19' := of_decide_eq_false c_19
          rw [show IntKind.wrap .i64 (t21 + 1) = (t21 + 1) from wrap64 o3 o3]
          refine impl_atomBy_n1 (μ - 1) o12 ⟨_, o_10, o20, g_12, o1, o1, o12, (by rw [show μ - 1 + 1 = μ from by first | omega]; exact e)⟩
      · have e := e.trans (cond_f c_18)
        have c_18' := of_decide_eq_false c_18
        rw [show IntKind.wrap .i64 (t21 + 1) = (t21 + 1) from wrap64 o3 o3]
        refine impl_atomBy_n1 (μ - 1) o12 ⟨_, o_10, o20, g_12, o1, o1, o12, (by rw [show μ - 1 + 1 = μ from by first | omega]; exact e)⟩
    · have e := e.trans (cond_f c_17)
      have c_17' := of_decide_eq_false c_17
      rw [impl_atomBy_x1_0]
      refine T_impl_squares_i ⟨_, (o_10.isL o34), o0, ?_⟩
      refine T_impl_RootNumber_i ?_
      refine impl_atomBy_L2 _ _ _ _ (fun (μ2 : Nat) (t50 : Int) (H_4 : AHeap) => ∃ (y2_1 : List Nat), Own H_4 b_1 (y2_1.map fF) ∧ y2_1.length = (count).toNat ∧ Grow H H_4 ∧ (0 : Int) ≤ t50 ∧ ((t50 ≤ ((count).toNat : Int) ∨ t50 ≤ (0 : Int))) ∧ ((count).toNat : Int) - t50 ≤ (μ2 : Int) ∧ p_impl_atomBy l_list r count place size = p_impl_atomBy_l2 l_list r count place size t21 y1_1 (fun (t50 : Int) (y2_1 : List Nat) => y2_1) (μ2 + 1) t50 y2_1) (Int.toNat (((count).toNat : Int) - (0 : Int))) _ H_2 ?_ ?_
      · exact ⟨_, o_10, o29, g_12, o6, o6, o3, e⟩
      · intro μ2 t50  H_4 hI
        obtain ⟨y2_1, o_30, y_31, g_32, v_33, v_34, hμ, e⟩ := hI
        rw [impl_atomBy_r2]
        have e := e.trans (p_impl_atomBy_l2_s l_list r count place size t21 y1_1 (fun (t50 : Int) (y2_1 : List Nat) => y2_1) μ2 t50 y2_1)
        have w_35 := o_30.lt
        have l_36 := g_32.1
        refine Br.intro (fun c_37 => ?_) (fun c_37 => ?_)
        · have e := e.trans (cond_t c_37)
          have c_37' := of_decide_eq_true c_37
          refine ⟨by omega, o3, _, _, rfl, ?_⟩
          refine ⟨((y2_1).getD (t50 : Int).toNat 0), o_30.rd o0 _, ?_⟩
          refine ⟨by omega, o3, _, _, rfl, ?_⟩
          refine Lt.set o_30 o14 (fun H_5 hl_38 o_40 k_39 => ?_)
          have o_40 := map_set o_40
          have l_41 := k_39.1
          have g_42 := g_32.keep (b := b_1) o3 k_39
          have l_43 := g_42.1
          have w_44 := o_40.lt
          rw [show IntKind.wrap .i64 (t50 + 1) = (t50 + 1) from wrap64 o3 o3]
          refine impl_atomBy_n2 (μ2 - 1) o12 ⟨_, o_40, o20, g_42, o1, o1, o12, (by rw [show μ2 - 1 + 1 = μ2 from by first | omega]; exact e)⟩
        · have e := e.trans (cond_f c_37)
          have c_37' := of_decide_eq_false c_37
          rw [impl_atomBy_x2_2]
          rw [e] at hk
          exact hk _ _ _ H_4 g_32 (o_30.ownS o34 o3)
theorem impl_atomBy_ok : FnOk Try.prog 59 S_impl_atomBy := by
  refine FnOk.body mix_ok E_impl_atomBy_ok Try.func59 rfl (by kernel_rfl) (by kernel_rfl) ?_ ?_ ?_ ?_ ?_
  · intro args H K K' h hk
    simp only [S_impl_atomBy] at *
    unfold F_impl_atomBy at *
    split at hk
    · obtain ⟨l_list, i_list, bd_46, pr0, pr1, pr2, pr3, pr4, pr5, k⟩ := hk
      exact ⟨l_list, i_list, bd_46, pr0, pr1, pr2, pr3, pr4, pr5, (fun r1_a r1_n r1_e H' gg ow0 => h _ _ (k r1_a r1_n r1_e H' gg ow0))⟩
    · exact hk.elim
  · intro hq; cases hq
  · intro args H K hk
    simp only [S_impl_atomBy] at *
    unfold F_impl_atomBy at *
    split at hk
    · obtain ⟨l_list, i_list, bd_46, pr0, pr1, pr2, pr3, pr4, pr5, k⟩ := hk
      exact liveS fun a n e H1 g o => ⟨_, _, k a n e H1 g o⟩
    · exact hk.elim
  · intro _ args H K hk
    simp only [S_impl_atomBy] at *
    unfold F_impl_atomBy at *
    split at hk
    · obtain ⟨l_list, i_list, bd_46, pr0, pr1, pr2, pr3, pr4, pr5, k⟩ := hk
      exact ⟨l_list, i_list, bd_46, pr0, pr1, pr2, pr3, pr4, pr5, (fun r1_a r1_n r1_e H' gg ow0 => ⟨gg, k r1_a r1_n r1_e H' gg ow0⟩)⟩
    · exact hk.elim
  · have mm := @impl_atomBy_main
    have ml := fun (args : List Value) (H : AHeap) (K : Value → AHeap → Prop) => bodyL_body (P := Try.prog) (env := E_impl_atomBy ) (fn := Try.f59) (args := args) (H := H) (K := K) E_impl_atomBy_ok 
    revert mm ml
    generalize bodyK Try.prog E_impl_atomBy Try.f59 = Q
    generalize bodyL Try.prog E_impl_atomBy Try.f59 = QL
    intro mm ml args H K hk
    simp only [S_impl_atomBy] at *
    unfold F_impl_atomBy at *
    split at hk
    · exact ml _ H K (mm _ _ _ _ _ _ _ H K hk)
    · exact hk.elim
def p_impl_size (x : Nat) : Nat := (bif flt .f32 x 0 then fneg .f32 x else (bif feq .f32 x 0 then 0 else x))
def p_impl_size_eq := @p_impl_size.eq_1
def T_impl_size (x : Nat) (H : AHeap) (K : Nat → AHeap → Prop) : Prop := K (p_impl_size x) H

theorem T_impl_size_i {x : Nat} {H : AHeap} {K : Nat → AHeap → Prop} (h : K (p_impl_size x) H) : T_impl_size x H K := h
/-! impl_size: function 80 -/
def E_impl_size : Env := envOf []
def F_impl_size : List Value → AHeap → (Value → AHeap → Prop) → Prop
  | [.float .f32 x], H, K => T_impl_size x H fun (r1 : Nat) (H' : AHeap) => K (.float .f32 r1) H'
  | _, _, _ => False
def S_impl_size : FSpec := { F := F_impl_size, quiet := true, tame := false }
theorem impl_size_vc (x : Nat) (H : AHeap) (K : Value → AHeap → Prop) : bodyL Try.prog E_impl_size Try.f80 [.float .f32 x] H K =
  (Br (flt .f32 x 0) (K (.float .f32 (fneg .f32 x)) H) (Br (feq .f32 x 0) (K (.float .f32 0) H) (K (.float .f32 x) H))) := by kernel_rfl
theorem E_impl_size_ok : ∀ g, FnOk Try.prog g (E_impl_size g) := FnOk.envOf (by
  intro x hx; cases hx)
set_option maxHeartbeats 1000000 in
theorem impl_size_main (x : Nat) (H : AHeap) (K : Value → AHeap → Prop) (h : T_impl_size x H fun (r1 : Nat) (H' : AHeap) => K (.float .f32 r1) H') : bodyL Try.prog E_impl_size Try.f80 [.float .f32 x] H K := by
  rw [impl_size_vc]
  unfold T_impl_size p_impl_size at h
  repeat' (first | exact h | (exfalso; simp_all; done) | (refine ⟨by decide, ?_⟩) | (refine Br.intro (fun hb => ?_) (fun hb => ?_) <;> (try simp only [hb, cond_true, cond_false, Bool.not_true, Bool.not_false] at h)))
theorem impl_size_ok : FnOk Try.prog 80 S_impl_size := by
  refine FnOk.body mix_ok E_impl_size_ok Try.func80 rfl (by kernel_rfl) (by kernel_rfl) ?_ ?_ ?_ ?_ ?_
  · intro args H K K' h hk
    simp only [S_impl_size] at *
    unfold F_impl_size at *
    split at hk
    · have k := hk
      exact h _ _ k
    · exact hk.elim
  · intro _ args H K hk
    simp only [S_impl_size] at *
    unfold F_impl_size at *
    split at hk
    · have k := hk
      exact ⟨_, k, fun K' k' => k'⟩
    · exact hk.elim
  · intro args H K hk
    simp only [S_impl_size] at *
    unfold F_impl_size at *
    split at hk
    · have k := hk
      exact ⟨_, _, k⟩
    · exact hk.elim
  · intro hq; cases hq
  · have mm := @impl_size_main
    have ml := fun (args : List Value) (H : AHeap) (K : Value → AHeap → Prop) => bodyL_body (P := Try.prog) (env := E_impl_size ) (fn := Try.f80) (args := args) (H := H) (K := K) E_impl_size_ok 
    revert mm ml
    generalize bodyK Try.prog E_impl_size Try.f80 = Q
    generalize bodyL Try.prog E_impl_size Try.f80 = QL
    intro mm ml args H K hk
    simp only [S_impl_size] at *
    unfold F_impl_size at *
    split at hk
    · exact ml _ H K (mm _ H K hk)
    · exact hk.elim

def p_impl_finiteList (l_list : List Nat) : (List Nat) × Bool := (bif !((p_impl_areFinite ([l_list]))) then ([], false) else (l_list, true))
def p_impl_finiteList_eq := @p_impl_finiteList.eq_1
def T_impl_finiteList (list_a : Option Addr) (list_n : Nat) (list_e : Nat) (H : AHeap) (K : (Option Addr) → Nat → Nat → Bool → AHeap → Prop) : Prop := ∃ (l_list : List Nat), IsL fF H list_a list_n l_list ∧ l_list.length < 1073741824 ∧ ((∀ H' : AHeap, Grow H H' → Br ((p_impl_finiteList l_list).2) (K list_a list_n list_e true H') (K none 0 0 false H')))
theorem T_impl_finiteList_i {list_a : Option Addr} {list_n : Nat} {list_e : Nat} {H : AHeap} {K : (Option Addr) → Nat → Nat → Bool → AHeap → Prop} (h : ∃ (l_list : List Nat), IsL fF H list_a list_n l_list ∧ l_list.length < 1073741824 ∧ ((∀ H' : AHeap, Grow H H' → Br ((p_impl_finiteList l_list).2) (K list_a list_n list_e true H') (K none 0 0 false H')))) : T_impl_finiteList list_a list_n list_e H K := h

/-! impl_finiteList: function 58 -/
def E_impl_finiteList : Env := envOf [(81, S_impl_areFinite)]
def F_impl_finiteList : List Value → AHeap → (Value → AHeap → Prop) → Prop
  | [.slice list_a list_n list_e], H, K => T_impl_finiteList list_a list_n list_e H fun (r1_a : Option Addr) (r1_n : Nat) (r1_e : Nat) (r2 : Bool) (H' : AHeap) => K (.tuple #[.slice r1_a r1_n r1_e, .bool r2]) H'
  | _, _, _ => False
def S_impl_finiteList : FSpec := { F := F_impl_finiteList, quiet := false, tame := true }
theorem impl_finiteList_vc (list_a : Option Addr) (list_n : Nat) (list_e : Nat) (H : AHeap) (K : Value → AHeap → Prop) : bodyL Try.prog E_impl_finiteList Try.f58 [.slice list_a list_n list_e] H K =
  (Al [.slice list_a list_n list_e] H fun b1 H1 => T_impl_areFinite (some ⟨b1, 0, none⟩) 1 1 H1 fun (r1 : Bool) (H2 : AHeap) => Br (!r1) (K (.tuple #[.slice none 0 0, .bool false]) H2) (K (.tuple #[.slice list_a list_n list_e, .bool true]) H2)) := by kernel_rfl
theorem E_impl_finiteList_ok : ∀ g, FnOk Try.prog g (E_impl_finiteList g) := FnOk.envOf (by
  intro x hx
  simp only [List.mem_cons, List.not_mem_nil, or_false] at hx
  subst hx; exact impl_areFinite_ok)
set_option maxHeartbeats 1000000 in
theorem impl_finiteList_main (list_a : Option Addr) (list_n : Nat) (list_e : Nat) (H : AHeap) (K : Value → AHeap → Prop) (h : T_impl_finiteList list_a list_n list_e H fun (r1_a : Option Addr) (r1_n : Nat) (r1_e : Nat) (r2 : Bool) (H' : AHeap) => K (.tuple #[.slice r1_a r1_n r1_e, .bool r2]) H') : bodyL Try.prog E_impl_finiteList Try.f58 [.slice list_a list_n list_e] H K := by
  rw [impl_finiteList_vc]
  obtain ⟨l_list, i_list, bd_12, hk⟩ := h
  obtain rfl := i_list.eqn
  have e : (p_impl_finiteList l_list) = _ := rfl
  have e := e.trans (p_impl_finiteList_eq l_list)
  have g0 := Grow.refl H
  refine Al.intro (fun b_1 H_1 hb_2 hl_3 g_4 o_5 => ?_)
  have l_7 := g_4.1
  have g_8 := g0.trans g_4
  have l_9 := g_8.1
  have w_11 := o_5.lt
  refine T_impl_areFinite_i ⟨[l_list], ⟨_, o_5.rdAll rfl, LLc.cons (i_list.grow g_8) (LLc.nil _ _)⟩, o0, (by first | assumption | (intro y hy; simp only [List.mem_cons, List.not_mem_nil, or_false] at hy; first | omega | (subst hy; omega) | (rcases hy with rfl | rfl <;> omega) | (rcases hy with rfl | rfl | rfl <;> omega))), ?_⟩
  refine Br.intro (fun c_10 => ?_) (fun c_10 => ?_)
  · have e := e.trans (cond_t c_10)
    have c_10n := nf_of_t c_10
    have q := hk H_1 g_8
    rw [e] at q
    exact q
  · have e := e.trans (cond_f c_10)
    have c_10n := nt_of_f c_10
    have q := hk H_1 g_8
    rw [e] at q
    exact q
theorem impl_finiteList_ok : FnOk Try.prog 58 S_impl_finiteList := by
  refine FnOk.body mix_ok E_impl_finiteList_ok Try.func58 rfl (by kernel_rfl) (by kernel_rfl) ?_ ?_ ?_ ?_ ?_
  · intro args H K K' h hk
    simp only [S_impl_finiteList] at *
    unfold F_impl_finiteList at *
    split at hk
    · obtain ⟨l_list, i_list, bd_12, k⟩ := hk
      exact ⟨l_list, i_list, bd_12, (fun H' gg => Br_mono (h _ _) (h _ _) (k H' gg))⟩
    · exact hk.elim
  · intro hq; cases hq
  · intro args H K hk
    simp only [S_impl_finiteList] at *
    unfold F_impl_finiteList at *
    split at hk
    · obtain ⟨l_list, i_list, bd_12, k⟩ := hk
      exact Br_live (k H (Grow.refl H))
    · exact hk.elim
  · intro _ args H K hk
    simp only [S_impl_finiteList] at *
    unfold F_impl_finiteList at *
    split at hk
    · obtain ⟨l_list, i_list, bd_12, k⟩ := hk
      exact ⟨l_list, i_list, bd_12, (fun H' gg => Br_mono (fun q => ⟨gg, q⟩) (fun q => ⟨gg, q⟩) (k H' gg))⟩
    · exact hk.elim
  · have mm := @impl_finiteList_main
    have ml := fun (args : List Value) (H : AHeap) (K : Value → AHeap → Prop) => bodyL_body (P := Try.prog) (env := E_impl_finiteList ) (fn := Try.f58) (args := args) (H := H) (K := K) E_impl_finiteList_ok 
    revert mm ml
    generalize bodyK Try.prog E_impl_finiteList Try.f58 = Q
    generalize bodyL Try.prog E_impl_finiteList Try.f58 = QL
    intro mm ml args H K hk
    simp only [S_impl_finiteList] at *
    unfold F_impl_finiteList at *
    split at hk
    · exact ml _ H K (mm _ _ _ H K hk)
    · exact hk.elim

def p_impl_AtomList (count : Int) (a_Place : Int) (a_Scale : Nat) (a_Size : Nat) : (List Nat) × Bool := (bif !((p_impl_within count (1 : Int) (128 : Int))) then ([], false) else (bif !((p_impl_within a_Place (0 : Int) (count - 1))) then ([], false) else (bif !(p_impl_isScale a_Scale) then ([], false) else (bif !(p_impl_IsFinite a_Size) then ([], false) else (bif (p_impl_finiteList ((p_impl_atomBy ((p_impl_realKernel a_Scale).1) ((p_impl_realKernel a_Scale).2) count a_Place a_Size))).2 then ((p_impl_atomBy ((p_impl_realKernel a_Scale).1) ((p_impl_realKernel a_Scale).2) count a_Place a_Size), true) else ([], false))))))
def p_impl_AtomList_eq := @p_impl_AtomList.eq_1
def T_impl_AtomList (count : Int) (a_Place : Int) (a_Scale : Nat) (a_Size : Nat) (H : AHeap) (K : (Option Addr) → Nat → Nat → Bool → AHeap → Prop) : Prop := ((∀ (r1_a : Option Addr) (r1_n r1_e : Nat), ∀ H' : AHeap, Grow H H' → OwnS fF H' H.length r1_a r1_n r1_e ((p_impl_AtomList count a_Place a_Scale a_Size).1) → K r1_a r1_n r1_e ((p_impl_AtomList count a_Place a_Scale a_Size).2) H'))
theorem T_impl_AtomList_i {count : Int} {a_Place : Int} {a_Scale : Nat} {a_Size : Nat} {H : AHeap} {K : (Option Addr) → Nat → Nat → Bool → AHeap → Prop} (h : ((∀ (r1_a : Option Addr) (r1_n r1_e : Nat), ∀ H' : AHeap, Grow H H' → OwnS fF H' H.length r1_a r1_n r1_e ((p_impl_AtomList count a_Place a_Scale a_Size).1) → K r1_a r1_n r1_e ((p_impl_AtomList count a_Place a_Scale a_Size).2) H'))) : T_impl_AtomList count a_Place a_Scale a_Size H K := h
theorem within_t {n a b : Int} (h : p_impl_within n a b = true) : a ≤ n ∧ n ≤ b := by
  unfold p_impl_within at h
  simp at h; omega
theorem impl_AtomList_len (c p : Int) (s z : Nat) : (p_impl_AtomList c p s z).1.length ≤ 1000 := by
  rw [p_impl_AtomList_eq]
  refine cnb (P := fun r : List Nat × Bool => r.1.length ≤ 1000) (fun h => Nat.zero_le _) (fun hc => ?_)
  have hc := within_t (nt_of_f hc)
  refine cnb (P := fun r : List Nat × Bool => r.1.length ≤ 1000) (fun h => Nat.zero_le _) (fun h => ?_)
  refine cnb (P := fun r : List Nat × Bool => r.1.length ≤ 1000) (fun h => Nat.zero_le _) (fun h => ?_)
  refine cnb (P := fun r : List Nat × Bool => r.1.length ≤ 1000) (fun h => Nat.zero_le _) (fun h => ?_)
  refine cnb (P := fun r : List Nat × Bool => r.1.length ≤ 1000) (fun h => ?_) (fun h => Nat.zero_le _)
  exact Nat.le_trans (impl_atomBy_len _ _ _ _ _) o3
theorem impl_AtomList_full {c p : Int} {s z : Nat} (h : (p_impl_AtomList c p s z).2 = true) : (p_impl_AtomList c p s z).1.length = c.toNat := by
  rw [p_impl_AtomList_eq] at h ⊢
  revert h
  refine cnb (P := fun r : List Nat × Bool => r.2 = true → r.1.length = c.toNat) (fun h => fun h => by cases h) (fun hc => ?_)
  refine cnb (P := fun r : List Nat × Bool => r.2 = true → r.1.length = c.toNat) (fun h => fun h => by cases h) (fun hc => ?_)
  refine cnb (P := fun r : List Nat × Bool => r.2 = true → r.1.length = c.toNat) (fun h => fun h => by cases h) (fun hc => ?_)
  refine cnb (P := fun r : List Nat × Bool => r.2 = true → r.1.length = c.toNat) (fun h => fun h => by cases h) (fun hc => ?_)
  refine cnb (P := fun r : List Nat × Bool => r.2 = true → r.1.length = c.toNat) (fun h => fun _ => impl_atomBy_full _ _ _ _ _) (fun h => fun h => by cases h)
/-! impl_AtomList: function 13 -/
def E_impl_AtomList : Env := envOf [(54, S_impl_within), (55, S_impl_isScale), (56, S_impl_IsFinite), (57, S_impl_realKernel), (59, S_impl_atomBy), (58, S_impl_finiteList)]
def F_impl_AtomList : List Value → AHeap → (Value → AHeap → Prop) → Prop
  | [.int .i64 count, .agg ⟨[.int .i64 a_Place, .float .f32 a_Scale, .float .f32 a_Size]⟩], H, K => T_impl_AtomList count a_Place a_Scale a_Size H fun (r1_a : Option Addr) (r1_n : Nat) (r1_e : Nat) (r2 : Bool) (H' : AHeap) => K (.tuple #[.slice r1_a r1_n r1_e, .bool r2]) H'
  | _, _, _ => False
def S_impl_AtomList : FSpec := { F := F_impl_AtomList, quiet := false, tame := true }
theorem impl_AtomList_vc (count : Int) (a_Place : Int) (a_Scale : Nat) (a_Size : Nat) (H : AHeap) (K : Value → AHeap → Prop) : bodyL Try.prog E_impl_AtomList Try.f13 [.int .i64 count, .agg #[.int .i64 a_Place, .float .f32 a_Scale, .float .f32 a_Size]] H K =
  (Al [.int .i64 a_Place, .float .f32 a_Scale, .float .f32 a_Size] H fun b1 H1 => T_impl_within count 1 128 H1 fun (r1 : Bool) (H2 : AHeap) => Br (!r1) (K (.tuple #[.slice none 0 0, .bool false]) H2) (∃ x1 : Int,  rdC H2 b1 0 = some (.int .i64 x1) ∧ T_impl_within x1 0 (IntKind.wrap .i64 (count - 1)) H2 fun (r2 : Bool) (H3 : AHeap) => Br (!r2) (K (.tuple #[.slice none 0 0, .bool false]) H3) (∃ x2 : Nat,  rdC H3 b1 1 = some (.float .f32 x2) ∧ T_impl_isScale x2 H3 fun (r3 : Bool) (H4 : AHeap) => Br (!r3) (K (.tuple #[.slice none 0 0, .bool false]) H4) (∃ x3 : Nat,  rdC H4 b1 2 = some (.float .f32 x3) ∧ T_impl_IsFinite x3 H4 fun (r4 : Bool) (H5 : AHeap) => Br (!r4) (K (.tuple #[.slice none 0 0, .bool false]) H5) (∃ x4 : Nat,  rdC H5 b1 1 = some (.float .f32 x4) ∧ T_impl_realKernel x4 H5 fun (a1 : Option Addr) (r5 : Nat) (r6 : Nat) (r7 : Int) (H6 : AHeap) => ∃ x5 : Int,  rdC H6 b1 0 = some (.int .i64 x5) ∧ ∃ x6 : Nat,  rdC H6 b1 2 = some (.float .f32 x6) ∧ T_impl_atomBy a1 r5 r6 r7 count x5 x6 H6 fun (a2 : Option Addr) (r8 : Nat) (r9 : Nat) (H7 : AHeap) => T_impl_finiteList a2 r8 r9 H7 fun (a3 : Option Addr) (r10 : Nat) (r11 : Nat) (r12 : Bool) (H8 : AHeap) => K (.tuple #[.slice a3 r10 r11, .bool r12]) H8))))) := by kernel_rfl
theorem E_impl_AtomList_ok : ∀ g, FnOk Try.prog g (E_impl_AtomList g) := FnOk.envOf (by
  intro x hx
  simp only [List.mem_cons, List.not_mem_nil, or_false] at hx
  rcases hx with rfl | rfl | rfl | rfl | rfl | rfl
  · exact impl_within_ok
  · exact impl_isScale_ok
  · exact impl_IsFinite_ok
  · exact impl_realKernel_ok
  · exact impl_atomBy_ok
  · exact impl_finiteList_ok)
set_option maxHeartbeats 1000000 in
theorem impl_AtomList_main (count : Int) (a_Place : Int) (a_Scale : Nat) (a_Size : Nat) (H : AHeap) (K : Value → AHeap → Prop) (h : T_impl_AtomList count a_Place a_Scale a_Size H fun (r1_a : Option Addr) (r1_n : Nat) (r1_e : Nat) (r2 : Bool) (H' : AHeap) => K (.tuple #[.slice r1_a r1_n r1_e, .bool r2]) H') : bodyL Try.prog E_impl_AtomList Try.f13 [.int .i64 count, .agg #[.int .i64 a_Place, .float .f32 a_Scale, .float .f32 a_Size]] H K := by
  rw [impl_AtomList_vc]
  have hk := h
  unfold T_impl_AtomList at hk
  have e : (p_impl_AtomList count a_Place a_Scale a_Size) = _ := rfl
  have e := e.trans (p_impl_AtomList_eq count a_Place a_Scale a_Size)
  have g0 := Grow.refl H
  refine Al.intro (fun b_1 H_1 hb_2 hl_3 g_4 o_5 => ?_)
  have l_7 := g_4.1
  have g_8 := g0.trans g_4
  have l_9 := g_8.1
  have w_56 := o_5.lt
  refine T_impl_within_i ?_
  refine Br.intro (fun c_10 => ?_) (fun c_10 => ?_)
  · have e := e.trans (cond_t c_10)
    have c_10n := nf_of_t c_10
    rw [e] at hk
    exact hk _ _ _ H_1 g_8 o13
  · have e := e.trans (cond_f c_10)
    have c_10n := nt_of_f c_10
    have c_10n' := impl_within_t c_10n
    refine ⟨a_Place, (o_5.rdC _).trans rfl, ?_⟩
    rw [show IntKind.wrap .i64 (count - 1) = (count - 1) from wrap64 o3 o3]
    refine T_impl_within_i ?_
    refine Br.intro (fun c_11 => ?_) (fun c_11 => ?_)
    · have e := e.trans (cond_t c_11)
      have c_11n := nf_of_t c_11
      rw [e] at hk
      exact hk _ _ _ H_1 g_8 o13
    · have e := e.trans (cond_f c_11)
      have c_11n := nt_of_f c_11
      have c_11n' := impl_within_t c_11n
      refine ⟨a_Scale, (o_5.rdC _).trans rfl, ?_⟩
      refine T_impl_isScale_i ?_
      refine Br.intro (fun c_12 => ?_) (fun c_12 => ?_)
      · have e := e.trans (cond_t c_12)
        have c_12n := nf_of_t c_12
        rw [e] at hk
        exact hk _ _ _ H_1 g_8 o13
      · have e := e.trans (cond_f c_12)
        have c_12n := nt_of_f c_12
        refine ⟨a_Size, (o_5.rdC _).trans rfl, ?_⟩
        refine T_impl_IsFinite_i ?_
        refine Br.intro (fun c_13 => ?_) (fun c_13 => ?_)
        · have e := e.trans (cond_t c_13)
          have c_13n := nf_of_t c_13
          rw [e] at hk
          exact hk _ _ _ H_1 g_8 o13
        · have e := e.trans (cond_f c_13)
          have c_13n := nt_of_f c_13
          refine ⟨a_Scale, (o_5.rdC _).trans rfl, ?_⟩
          refine T_impl_realKernel_i ⟨o18, fun a_14 n_15 e_16 H_2 g_19 r_17 => ?_⟩
          have z_18 := impl_realKernel_len a_Scale o37
          have l_20 := g_19.1
          have g_21 := g_8.trans g_19
          have l_22 := g_21.1
          have o_23 := o_5.grow g_19
          have w_24 := o_23.lt
          obtain rfl := r_17.isL.eqn
          have u_25 := r_17.up
          have u_26 := r_17.lo
          refine ⟨a_Place, (o_23.rdC _).trans rfl, ?_⟩
          refine ⟨a_Size, (o_23.rdC _).trans rfl, ?_⟩
          refine T_impl_atomBy_i ⟨_, r_17.isL, o0, o18, o18, o18, o18, o18, o18, fun a_28 n_29 e_30 H_3 g_33 r_31 => ?_⟩
          have z_32 := impl_atomBy_full ((p_impl_realKernel a_Scale).1) ((p_impl_realKernel a_Scale).2) count a_Place a_Size
          have l_34 := g_33.1
          have g_35 := g_21.trans g_33
          have l_36 := g_35.1
          have o_37 := o_23.grow g_33
          have w_38 := o_37.lt
          have r_39 := r_17.grow g_33
          obtain rfl := r_31.isL.eqn
          have u_40 := r_31.up
          have u_41 := r_31.lo
          refine T_impl_finiteList_i ⟨_, r_31.isL, o0, (fun H_4 g_47 => ?_)⟩
          have l_49 := g_47.1
          have g_50 := g_35.trans g_47
          have l_51 := g_50.1
          have o_52 := o_37.grow g_47
          have w_53 := o_52.lt
          have r_54 := r_39.grow g_47
          have r_55 := r_31.grow g_47
          refine Br.intro (fun c_48 => ?_) (fun c_48 => ?_)
          · have e := e.trans (cond_t c_48)
            rw [e] at hk
            exact hk _ _ _ H_4 g_50 (r_55.weak o3)
          · have e := e.trans (cond_f c_48)
            rw [e] at hk
            exact hk _ _ _ H_4 g_50 o13
theorem impl_AtomList_ok : FnOk Try.prog 13 S_impl_AtomList := by
  refine FnOk.body mix_ok E_impl_AtomList_ok Try.func13 rfl (by kernel_rfl) (by kernel_rfl) ?_ ?_ ?_ ?_ ?_
  · intro args H K K' h hk
    simp only [S_impl_AtomList] at *
    unfold F_impl_AtomList at *
    split at hk
    · have k := hk
      exact fun r1_a r1_n r1_e H' gg ow0 => h _ _ (k r1_a r1_n r1_e H' gg ow0)
    · exact hk.elim
  · intro hq; cases hq
  · intro args H K hk
    simp only [S_impl_AtomList] at *
    unfold F_impl_AtomList at *
    split at hk
    · have k := hk
      exact liveS fun a n e H1 g o => ⟨_, _, k a n e H1 g o⟩
    · exact hk.elim
  · intro _ args H K hk
    simp only [S_impl_AtomList] at *
    unfold F_impl_AtomList at *
    split at hk
    · have k := hk
      exact fun r1_a r1_n r1_e H' gg ow0 => ⟨gg, k r1_a r1_n r1_e H' gg ow0⟩
    · exact hk.elim
  · have mm := @impl_AtomList_main
    have ml := fun (args : List Value) (H : AHeap) (K : Value → AHeap → Prop) => bodyL_body (P := Try.prog) (env := E_impl_AtomList ) (fn := Try.f13) (args := args) (H := H) (K := K) E_impl_AtomList_ok 
    revert mm ml
    generalize bodyK Try.prog E_impl_AtomList Try.f13 = Q
    generalize bodyL Try.prog E_impl_AtomList Try.f13 = QL
    intro mm ml args H K hk
    simp only [S_impl_AtomList] at *
    unfold F_impl_AtomList at *
    split at hk
    · exact ml _ H K (mm _ _ _ _ H K hk)
    · exact hk.elim

def p_impl_PursueOnce_l3 (l_list : List Nat) (l_scales : List Nat) (t6 : Bool) (found : Bool) (t35 : Int) (q1_1 : Int) (q1_2 : Nat) (q1_3 : Nat) (q1_4 : Int) (q1_5 : Nat) (q1_6 : Nat) (found_8 : Bool) (t50 : Int) (q2_1 : Int) (q2_2 : Nat) (q2_3 : Nat) (k3_4 : Nat → Int → Int → Nat → Nat → (Int × Nat × Nat × (List Nat) × Bool)) : Nat → Nat → Int → Int → Nat → Nat → Int × Nat × Nat × (List Nat) × Bool
  | 0, _, _, _, _, _ => (0, 0, 0, [], false)
  | μ3 + 1, q, t60, q3_1, q3_2, q3_3 => (bif decide ((t60 : Int) < (((p_impl_atomBy ((p_impl_realKernel (((l_scales).getD (t35 : Int).toNat 0))).1) ((p_impl_realKernel (((l_scales).getD (t35 : Int).toNat 0))).2) (l_list.length : Int) t50 1065353216)).length : Int)) then (p_impl_PursueOnce_l3 l_list l_scales t6 found t35 q1_1 q1_2 q1_3 q1_4 q1_5 q1_6 found_8 t50 q2_1 q2_2 q2_3 k3_4 μ3 (fadd .f32 q (fmul .f32 ((((p_impl_atomBy ((p_impl_realKernel (((l_scales).getD (t35 : Int).toNat 0))).1) ((p_impl_realKernel (((l_scales).getD (t35 : Int).toNat 0))).2) (l_list.length : Int) t50 1065353216)).getD (t60 : Int).toNat 0)) (((l_list).getD (t60 : Int).toNat 0)))) (t60 + 1) q3_1 q3_2 q3_3) else (k3_4 q t60 q3_1 q3_2 q3_3))
def p_impl_PursueOnce_l3_s := fun l_list l_scales t6 found t35 q1_1 q1_2 q1_3 q1_4 q1_5 q1_6 found_8 t50 q2_1 q2_2 q2_3 k3_4 μ3 q t60 q3_1 q3_2 q3_3 => @p_impl_PursueOnce_l3.eq_2 l_list l_scales t6 found t35 q1_1 q1_2 q1_3 q1_4 q1_5 q1_6 found_8 t50 q2_1 q2_2 q2_3 k3_4 q t60 q3_1 q3_2 q3_3 μ3
def p_impl_PursueOnce_l2 (l_list : List Nat) (l_scales : List Nat) (t6 : Bool) (found : Bool) (t35 : Int) (q1_1 : Int) (q1_2 : Nat) (q1_3 : Nat) (q1_4 : Int) (q1_5 : Nat) (q1_6 : Nat) (k2_2 : Bool → Int → Int → Nat → Nat → (Int × Nat × Nat × (List Nat) × Bool)) : Nat → Bool → Int → Int → Nat → Nat → Int × Nat × Nat × (List Nat) × Bool
  | 0, _, _, _, _, _ => (0, 0, 0, [], false)
  | μ2 + 1, found_8, t50, q2_1, q2_2, q2_3 => (bif decide ((t50 : Int) < (l_list.length : Int)) then (p_impl_PursueOnce_l3 l_list l_scales t6 found t35 q1_1 q1_2 q1_3 q1_4 q1_5 q1_6 found_8 t50 q2_1 q2_2 q2_3 (fun (q : Nat) (t60 : Int) (q3_1 : Int) (q3_2 : Nat) (q3_3 : Nat) => (bif !found_8 then (p_impl_PursueOnce_l2 l_list l_scales t6 found t35 q1_1 q1_2 q1_3 q1_4 q1_5 q1_6 k2_2 μ2 true (t50 + 1) t50 (((l_scales).getD (t35 : Int).toNat 0)) q) else (bif flt .f32 (p_impl_size q3_3) (p_impl_size q) then (p_impl_PursueOnce_l2 l_list l_scales t6 found t35 q1_1 q1_2 q1_3 q1_4 q1_5 q1_6 k2_2 μ2 true (t50 + 1) t50 (((l_scales).getD (t35 : Int).toNat 0)) q) else (p_impl_PursueOnce_l2 l_list l_scales t6 found t35 q1_1 q1_2 q1_3 q1_4 q1_5 q1_6 k2_2 μ2 found_8 (t50 + 1) q3_1 q3_2 q3_3)))) (Int.toNat ((((p_impl_atomBy ((p_impl_realKernel (((l_scales).getD (t35 : Int).toNat 0))).1) ((p_impl_realKernel (((l_scales).getD (t35 : Int).toNat 0))).2) (l_list.length : Int) t50 1065353216)).length : Int) - (0 : Int)) + 1) 0 (0 : Int) q2_1 q2_2 q2_3) else (k2_2 found_8 t50 q2_1 q2_2 q2_3))
def p_impl_PursueOnce_l2_s := fun l_list l_scales t6 found t35 q1_1 q1_2 q1_3 q1_4 q1_5 q1_6 k2_2 μ2 found_8 t50 q2_1 q2_2 q2_3 => @p_impl_PursueOnce_l2.eq_2 l_list l_scales t6 found t35 q1_1 q1_2 q1_3 q1_4 q1_5 q1_6 k2_2 found_8 t50 q2_1 q2_2 q2_3 μ2
def p_impl_PursueOnce_l4 (l_list : List Nat) (l_scales : List Nat) (t6 : Bool) (found : Bool) (t35 : Int) (q1_1 : Int) (q1_2 : Nat) (q1_3 : Nat) (q1_4 : Int) (q1_5 : Nat) (q1_6 : Nat) (k4_6 : (List Nat) → Int → Int → Nat → Nat → (Int × Nat × Nat × (List Nat) × Bool)) : Nat → (List Nat) → Int → Int → Nat → Nat → Int × Nat × Nat × (List Nat) × Bool
  | 0, _, _, _, _, _ => (0, 0, 0, [], false)
  | μ4 + 1, l_rest, t103, q4_1, q4_2, q4_3 => (bif decide ((t103 : Int) < (l_list.length : Int)) then (p_impl_PursueOnce_l4 l_list l_scales t6 found t35 q1_1 q1_2 q1_3 q1_4 q1_5 q1_6 k4_6 μ4 ((l_rest ++ [(fsub .f32 (((l_list).getD (t103 : Int).toNat 0)) ((((p_impl_AtomList (l_list.length : Int) q1_4 q1_5 q1_6).1).getD (t103 : Int).toNat 0)))])) (t103 + 1) q4_1 q4_2 q4_3) else (k4_6 l_rest t103 q4_1 q4_2 q4_3))
def p_impl_PursueOnce_l4_s := fun l_list l_scales t6 found t35 q1_1 q1_2 q1_3 q1_4 q1_5 q1_6 k4_6 μ4 l_rest t103 q4_1 q4_2 q4_3 => @p_impl_PursueOnce_l4.eq_2 l_list l_scales t6 found t35 q1_1 q1_2 q1_3 q1_4 q1_5 q1_6 k4_6 l_rest t103 q4_1 q4_2 q4_3 μ4
def p_impl_PursueOnce_l1 (l_list : List Nat) (l_scales : List Nat) : Nat → Bool → Bool → Int → Int → Nat → Nat → Int → Nat → Nat → Int × Nat × Nat × (List Nat) × Bool
  | 0, _, _, _, _, _, _, _, _, _ => (0, 0, 0, [], false)
  | μ + 1, t6, found, t35, q1_1, q1_2, q1_3, q1_4, q1_5, q1_6 => (bif decide ((t35 : Int) < (l_scales.length : Int)) then (bif !((p_impl_isScale (((l_scales).getD (t35 : Int).toNat 0)))) then ((0 : Int), 0, 0, [], false) else (p_impl_PursueOnce_l2 l_list l_scales t6 found t35 q1_1 q1_2 q1_3 q1_4 q1_5 q1_6 (fun (found_8 : Bool) (t50 : Int) (q2_1 : Int) (q2_2 : Nat) (q2_3 : Nat) => (p_impl_PursueOnce_l1 l_list l_scales μ t6 found_8 (t35 + 1) q1_1 q1_2 q1_3 q2_1 q2_2 q2_3)) (Int.toNat ((l_list.length : Int) - (0 : Int)) + 1) found (0 : Int) q1_4 q1_5 q1_6)) else (bif !((p_impl_AtomList (l_list.length : Int) q1_4 q1_5 q1_6).2) then ((0 : Int), 0, 0, [], false) else (p_impl_PursueOnce_l4 l_list l_scales t6 found t35 q1_1 q1_2 q1_3 q1_4 q1_5 q1_6 (fun (l_rest : List Nat) (t103 : Int) (q4_1 : Int) (q4_2 : Nat) (q4_3 : Nat) => (bif !((p_impl_areFinite ([l_rest]))) then ((0 : Int), 0, 0, [], false) else (q1_4, q1_5, q1_6, l_rest, true))) (Int.toNat ((l_list.length : Int) - (0 : Int)) + 1) ([] : List Nat) (0 : Int) q1_1 q1_2 q1_3)))
def p_impl_PursueOnce_l1_s := fun l_list l_scales μ t6 found t35 q1_1 q1_2 q1_3 q1_4 q1_5 q1_6 => @p_impl_PursueOnce_l1.eq_2 l_list l_scales t6 found t35 q1_1 q1_2 q1_3 q1_4 q1_5 q1_6 μ
def p_impl_PursueOnce (l_list : List Nat) (l_scales : List Nat) : Int × Nat × Nat × (List Nat) × Bool := (bif !(p_impl_isLong l_list) then ((0 : Int), 0, 0, [], false) else (bif !((p_impl_within (l_scales.length : Int) (1 : Int) (12 : Int))) then ((0 : Int), 0, 0, [], false) else (p_impl_PursueOnce_l1 l_list l_scales (Int.toNat ((l_scales.length : Int) - (0 : Int)) + 1) false false (0 : Int) 0 0 0 0 0 0)))
def p_impl_PursueOnce_eq := @p_impl_PursueOnce.eq_1
def T_impl_PursueOnce (list_a : Option Addr) (list_n : Nat) (list_e : Nat) (scales_a : Option Addr) (scales_n : Nat) (scales_e : Nat) (H : AHeap) (K : Int → Nat → Nat → (Option Addr) → Nat → Nat → Bool → AHeap → Prop) : Prop := ∃ (l_list : List Nat), ∃ (l_scales : List Nat), IsL fF H list_a list_n l_list ∧ IsL fF H scales_a scales_n l_scales ∧ l_list.length < 1073741824 ∧ l_scales.length < 1073741824 ∧ ((∀ (r2_a : Option Addr) (r2_n r2_e : Nat), ∀ H' : AHeap, Grow H H' → OwnS fF H' H.length r2_a r2_n r2_e ((p_impl_PursueOnce l_list l_scales).2.2.2.1) → K ((p_impl_PursueOnce l_list l_scales).1) ((p_impl_PursueOnce l_list l_scales).2.1) ((p_impl_PursueOnce l_list l_scales).2.2.1) r2_a r2_n r2_e ((p_impl_PursueOnce l_list l_scales).2.2.2.2) H'))
theorem T_impl_PursueOnce_i {list_a : Option Addr} {list_n : Nat} {list_e : Nat} {scales_a : Option Addr} {scales_n : Nat} {scales_e : Nat} {H : AHeap} {K : Int → Nat → Nat → (Option Addr) → Nat → Nat → Bool → AHeap → Prop} (h : ∃ (l_list : List Nat), ∃ (l_scales : List Nat), IsL fF H list_a list_n l_list ∧ IsL fF H scales_a scales_n l_scales ∧ l_list.length < 1073741824 ∧ l_scales.length < 1073741824 ∧ ((∀ (r2_a : Option Addr) (r2_n r2_e : Nat), ∀ H' : AHeap, Grow H H' → OwnS fF H' H.length r2_a r2_n r2_e ((p_impl_PursueOnce l_list l_scales).2.2.2.1) → K ((p_impl_PursueOnce l_list l_scales).1) ((p_impl_PursueOnce l_list l_scales).2.1) ((p_impl_PursueOnce l_list l_scales).2.2.1) r2_a r2_n r2_e ((p_impl_PursueOnce l_list l_scales).2.2.2.2) H'))) : T_impl_PursueOnce list_a list_n list_e scales_a scales_n scales_e H K := h
theorem impl_PO_l4 (N : Nat) (l sc : List Nat) (t6 fo : Bool) (t35 : Int) (a : Int) (b c : Nat) (d : Int) (e f : Nat) (K : List Nat → Int → Int → Nat → Nat → (Int × Nat × Nat × (List Nat) × Bool)) (hK : ∀ o t x y z, o.length ≤ N → RL N (K o t x y z)) :
    ∀ (μ : Nat) (o : List Nat) (t x : Int) (y z : Nat), o.length + μ ≤ N + 1 → RL N (p_impl_PursueOnce_l4 l sc t6 fo t35 a b c d e f K μ o t x y z) := by
  intro μ
  induction μ with
  | zero => intro o t x y z h; exact rl0 N
  | succ μ ih =>
    intro o t x y z h
    rw [p_impl_PursueOnce_l4_s]
    refine cnb (P := RL N) (fun _ => ih _ _ _ _ _ ?_) (fun _ => hK _ _ _ _ _ o3)
    rw [List.length_append, List.length_singleton]; omega
theorem impl_PO_l3 (N : Nat) (l sc : List Nat) (t6 fo : Bool) (t35 : Int) (a : Int) (b c : Nat) (d : Int) (e f : Nat) (f8 : Bool) (t50 g : Int) (h i : Nat) (K : Nat → Int → Int → Nat → Nat → (Int × Nat × Nat × (List Nat) × Bool)) (hK : ∀ q t x y z, RL N (K q t x y z)) :
    ∀ (μ q : Nat) (t x : Int) (y z : Nat), RL N (p_impl_PursueOnce_l3 l sc t6 fo t35 a b c d e f f8 t50 g h i K μ q t x y z) := by
  intro μ
  induction μ with
  | zero => intro q t x y z; exact rl0 N
  | succ μ ih =>
    intro q t x y z
    rw [p_impl_PursueOnce_l3_s]
    exact cnb (P := RL N) (fun _ => ih _ _ _ _ _) (fun _ => hK _ _ _ _ _)
theorem impl_PO_l2 (N : Nat) (l sc : List Nat) (t6 fo : Bool) (t35 : Int) (a : Int) (b c : Nat) (d : Int) (e f : Nat) (K : Bool → Int → Int → Nat → Nat → (Int × Nat × Nat × (List Nat) × Bool)) (hK : ∀ q t x y z, RL N (K q t x y z)) :
    ∀ (μ : Nat) (q : Bool) (t x : Int) (y z : Nat), RL N (p_impl_PursueOnce_l2 l sc t6 fo t35 a b c d e f K μ q t x y z) := by
  intro μ
  induction μ with
  | zero => intro q t x y z; exact rl0 N
  | succ μ ih =>
    intro q t x y z
    rw [p_impl_PursueOnce_l2_s]
    refine cnb (P := RL N) (fun _ => ?_) (fun _ => hK _ _ _ _ _)
    refine impl_PO_l3 N _ _ _ _ _ _ _ _ _ _ _ _ _ _ _ _ _ (fun q t x y z => ?_) _ _ _ _ _ _
    exact cnb (P := RL N) (fun _ => ih _ _ _ _ _) (fun _ => cnb (P := RL N) (fun _ => ih _ _ _ _ _) (fun _ => ih _ _ _ _ _))
theorem impl_PO_l1 (l sc : List Nat) : ∀ (μ : Nat) (t6 fo : Bool) (t35 : Int) (a : Int) (b c : Nat) (d : Int) (e f : Nat), RL l.length (p_impl_PursueOnce_l1 l sc μ t6 fo t35 a b c d e f) := by
  intro μ
  induction μ with
  | zero => intro t6 fo t35 a b c d e f; exact rl0 _
  | succ μ ih =>
    intro t6 fo t35 a b c d e f
    rw [p_impl_PursueOnce_l1_s]
    refine cnb (P := RL l.length) (fun _ => ?_) (fun _ => ?_)
    · refine cnb (P := RL l.length) (fun _ => rl0 _) (fun _ => ?_)
      exact impl_PO_l2 _ _ _ _ _ _ _ _ _ _ _ _ _ (fun q t x y z => ih _ _ _ _ _ _ _ _ _) _ _ _ _ _ _
    · refine cnb (P := RL l.length) (fun _ => rl0 _) (fun _ => ?_)
      refine impl_PO_l4 _ _ _ _ _ _ _ _ _ _ _ _ _ (fun o t x y z ho => ?_) _ _ _ _ _ _ o38
      exact cnb (P := RL l.length) (fun _ => rl0 _) (fun _ => ho)
theorem impl_PursueOnce_len (l sc : List Nat) : (p_impl_PursueOnce l sc).2.2.2.1.length ≤ l.length := by
  rw [p_impl_PursueOnce_eq]
  refine cnb (P := RL l.length) (fun _ => rl0 _) (fun _ => ?_)
  exact cnb (P := RL l.length) (fun _ => rl0 _) (fun _ => impl_PO_l1 _ _ _ _ _ _ _ _ _ _ _ _)
/-! impl_PursueOnce: function 45 -/
def E_impl_PursueOnce : Env := envOf [(75, S_impl_isLong), (54, S_impl_within), (55, S_impl_isScale), (57, S_impl_realKernel), (59, S_impl_atomBy), (80, S_impl_size), (13, S_impl_AtomList), (81, S_impl_areFinite)]
def F_impl_PursueOnce : List Value → AHeap → (Value → AHeap → Prop) → Prop
  | [.slice list_a list_n list_e, .slice scales_a scales_n scales_e], H, K => T_impl_PursueOnce list_a list_n list_e scales_a scales_n scales_e H fun (r1_Place : Int) (r1_Scale : Nat) (r1_Size : Nat) (r2_a : Option Addr) (r2_n : Nat) (r2_e : Nat) (r3 : Bool) (H' : AHeap) => K (.tuple #[.agg #[.int .i64 r1_Place, .float .f32 r1_Scale, .float .f32 r1_Size], .slice r2_a r2_n r2_e, .bool r3]) H'
  | _, _, _ => False
def S_impl_PursueOnce : FSpec := { F := F_impl_PursueOnce, quiet := false, tame := true }
theorem impl_PursueOnce_vc (list_a : Option Addr) (list_n : Nat) (list_e : Nat) (scales_a : Option Addr) (scales_n : Nat) (scales_e : Nat) (H : AHeap) (K : Value → AHeap → Prop) : bodyL Try.prog E_impl_PursueOnce Try.f45 [.slice list_a list_n list_e, .slice scales_a scales_n scales_e] H K =
  (Al [.int .i64 0, .float .f32 0, .float .f32 0] H fun b1 H1 => T_impl_isLong list_a list_n list_e H1 fun (r1 : Bool) (H2 : AHeap) => Br (!r1) (isOwn H2 b1 ∧ (∃ l, rdN H2 b1 0 3 = some l) ∧ Lt (setN H2 b1 0 [.int .i64 0, .float .f32 0, .float .f32 0]) fun H3 => ∃ c1 : Int, ∃ c2 : Nat, ∃ c3 : Nat,  rdN H3 b1 0 3 = some [.int .i64 c1, .float .f32 c2, .float .f32 c3] ∧ K (.tuple #[.agg #[.int .i64 c1, .float .f32 c2, .float .f32 c3], .slice none 0 0, .bool false]) H3) (T_impl_within (scales_n : Int) 1 12 H2 fun (r2 : Bool) (H4 : AHeap) => Br (!r2) (isOwn H4 b1 ∧ (∃ l, rdN H4 b1 0 3 = some l) ∧ Lt (setN H4 b1 0 [.int .i64 0, .float .f32 0, .float .f32 0]) fun H5 => ∃ c4 : Int, ∃ c5 : Nat, ∃ c6 : Nat,  rdN H5 b1 0 3 = some [.int .i64 c4, .float .f32 c5, .float .f32 c6] ∧ K (.tuple #[.agg #[.int .i64 c4, .float .f32 c5, .float .f32 c6], .slice none 0 0, .bool false]) H5) (Al [.int .i64 0, .float .f32 0, .float .f32 0] H4 fun b2 H6 => isOwn H6 b2 ∧ (∃ l, rdN H6 b2 0 3 = some l) ∧ Lt (setN H6 b2 0 [.int .i64 0, .float .f32 0, .float .f32 0]) fun H7 => loopK (exL Try.prog E_impl_PursueOnce (cl (cl (cr (cl (cr (cr (cr (bodyC Try.f45)))))))) 60129542545 112 [(0, 145)]) [.slice list_a list_n list_e, ud, ud, ud, .pointer (some ⟨b1, 0, none⟩), ud, ud, .pointer (some ⟨b2, 0, none⟩), .bool false, ud, ud, ud, ud, ud, ud, ud, ud, ud, ud, ud, ud, ud, ud, ud, ud, ud, ud, ud, ud, ud, ud, ud, ud, .slice scales_a scales_n scales_e, .int .i64 (scales_n : Int), .int .i64 0, ud, ud, ud, ud, ud, ud, ud, ud, ud, ud, ud, ud, ud, ud, ud, ud, ud, ud, ud, ud, ud, ud, ud, ud, ud, ud, ud, ud, ud, ud, ud, ud, ud, ud, ud, ud, ud, ud, ud, ud, ud, ud, ud, ud, ud, ud, ud, ud, ud, ud, ud, ud, ud, ud, ud, ud, ud, ud, ud, ud, ud, ud, ud, ud, ud, ud, ud, ud, ud, ud, ud, ud, ud, ud, ud, ud, ud, ud, ud, ud, ud, ud, ud, ud, ud, ud, ud, ud, ud] H7 (blockQ 0 (seqQ (exL Try.prog E_impl_PursueOnce (cr (cr (cr (cr (bodyC Try.f45))))) 112 112 []) (retK Try.prog Try.f45 K)))))) := by kernel_rfl
abbrev impl_PursueOnce_P1 (b1 : Nat) (b2 : Nat) (list_a : Option Addr) (list_e : Nat) (list_n : Nat) (scales_a : Option Addr) (scales_e : Nat) (scales_n : Nat) (found : Bool) (t35 : Int)  : List Value := [.slice list_a list_n list_e, ud, ud, ud, .pointer (some ⟨b1, 0, none⟩), ud, ud, .pointer (some ⟨b2, 0, none⟩), .bool found, ud, ud, ud, ud, ud, ud, ud, ud, ud, ud, ud, ud, ud, ud, ud, ud, ud, ud, ud, ud, ud, ud, ud, ud, .slice scales_a scales_n scales_e, .int .i64 (scales_n : Int), .int .i64 t35, ud, ud, ud, ud, ud, ud, ud, ud, ud, ud, ud, ud, ud, ud, ud, ud, ud, ud, ud, ud, ud, ud, ud, ud, ud, ud, ud, ud, ud, ud, ud, ud, ud, ud, ud, ud, ud, ud, ud, ud, ud, ud, ud, ud, ud, ud, ud, ud, ud, ud, ud, ud, ud, ud, ud, ud, ud, ud, ud, ud, ud, ud, ud, ud, ud, ud, ud, ud, ud, ud, ud, ud, ud, ud, ud, ud, ud, ud, ud, ud, ud, ud, ud, ud, ud, ud, ud, ud, ud]
theorem impl_PursueOnce_r1 (b1 : Nat) (b2 : Nat) (list_a : Option Addr) (list_e : Nat) (list_n : Nat) (scales_a : Option Addr) (scales_e : Nat) (scales_n : Nat) (found : Bool) (t35 : Int)  (H : AHeap) (R : Post) : exL Try.prog E_impl_PursueOnce (cl (cl (cr (cl (cr (cr (cr (bodyC Try.f45)))))))) 60129542545 112 [(0, 145)] (impl_PursueOnce_P1 b1 b2 list_a list_e list_n scales_a scales_e scales_n found t35) H R =
  (Br (decide ((t35 : Int) < (scales_n : Int))) ((0 : Int) ≤ t35 ∧ t35 < (scales_n : Int) ∧ ∃ b3 f1, (scales_a : Option Addr) = some ⟨b3, f1, none⟩ ∧ ∃ x1 : Nat,  rdC H b3 (f1 + (t35 : Int).toNat * 1) = some (.float .f32 x1) ∧ T_impl_isScale x1 H fun (r3 : Bool) (H8 : AHeap) => Br (!r3) (isOwn H8 b1 ∧ (∃ l, rdN H8 b1 0 3 = some l) ∧ Lt (setN H8 b1 0 [.int .i64 0, .float .f32 0, .float .f32 0]) fun H9 => R .ret [ud, ud, ud, ud, .pointer (some ⟨b1, 0, none⟩), .slice none 0 0, .bool false, ud, ud, ud, ud, ud, ud, ud, ud, ud, ud, ud, ud, ud, ud, ud, ud, ud, ud, ud, ud, ud, ud, ud, ud, ud, ud, ud, ud, ud, ud, ud, ud, ud, ud, ud, ud, ud, ud, ud, ud, ud, ud, ud, ud, ud, ud, ud, ud, ud, ud, ud, ud, ud, ud, ud, ud, ud, ud, ud, ud, ud, ud, ud, ud, ud, ud, ud, ud, ud, ud, ud, ud, ud, ud, ud, ud, ud, ud, ud, ud, ud, ud, ud, ud, ud, ud, ud, ud, ud, ud, ud, ud, ud, ud, ud, ud, ud, ud, ud, ud, ud, ud, ud, ud, ud, ud, ud, ud, ud, ud, ud, ud, ud, ud, ud, ud, ud, ud] H9) (T_impl_realKernel x1 H8 fun (a1 : Option Addr) (r4 : Nat) (r5 : Nat) (r6 : Int) (H10 : AHeap) => loopK (exL Try.prog E_impl_PursueOnce (cl (cl (cr (cr (cr (cr (cl (cl (cr (cr (cl (cl (cr (cl (cr (cr (cr (bodyC Try.f45)))))))))))))))))) 1688909989813649 112 [(2, 60129542545), (1, 60129542545), (0, 145)]) [.slice list_a list_n list_e, ud, ud, ud, .pointer (some ⟨b1, 0, none⟩), ud, ud, .pointer (some ⟨b2, 0, none⟩), .bool found, ud, .float .f32 x1, .slice a1 r4 r5, .int .i64 r6, ud, ud, ud, ud, ud, ud, ud, ud, ud, ud, ud, ud, ud, ud, ud, ud, ud, ud, ud, ud, .slice scales_a scales_n scales_e, .int .i64 (scales_n : Int), .int .i64 t35, ud, ud, ud, ud, ud, ud, ud, ud, ud, ud, ud, ud, ud, .int .i64 (list_n : Int), .int .i64 0, ud, ud, ud, ud, ud, ud, ud, ud, ud, ud, ud, ud, ud, ud, ud, ud, ud, ud, ud, ud, ud, ud, ud, ud, ud, ud, ud, ud, ud, ud, ud, ud, ud, ud, ud, ud, ud, ud, ud, ud, ud, ud, ud, ud, ud, ud, ud, ud, ud, ud, ud, ud, ud, ud, ud, ud, ud, ud, ud, ud, ud, ud, ud, ud, ud, ud, ud, ud, ud, ud, ud, ud, ud, ud] H10 (blockQ 2 (blockQ 1 (seqQ (exL Try.prog E_impl_PursueOnce (cr (cr (cr (cl (cl (cr (cl (cr (cr (cr (bodyC Try.f45))))))))))) 60129542545 112 [(0, 145)]) (R)))))) (R (.exit 0) [.slice list_a list_n list_e, ud, ud, ud, .pointer (some ⟨b1, 0, none⟩), ud, ud, .pointer (some ⟨b2, 0, none⟩), ud, ud, ud, ud, ud, ud, ud, ud, ud, ud, ud, ud, ud, ud, ud, ud, ud, ud, ud, ud, ud, ud, ud, ud, ud, ud, ud, ud, ud, ud, ud, ud, ud, ud, ud, ud, ud, ud, ud, ud, ud, ud, ud, ud, ud, ud, ud, ud, ud, ud, ud, ud, ud, ud, ud, ud, ud, ud, ud, ud, ud, ud, ud, ud, ud, ud, ud, ud, ud, ud, ud, ud, ud, ud, ud, ud, ud, ud, ud, ud, ud, ud, ud, ud, ud, ud, ud, ud, ud, ud, ud, ud, ud, ud, ud, ud, ud, ud, ud, ud, ud, ud, ud, ud, ud, ud, ud, ud, ud, ud, ud, ud, ud, ud, ud, ud, ud] H)) := by kernel_rfl
def impl_PursueOnce_I1 (b1 : Nat) (b2 : Nat) (list_a : Option Addr) (list_e : Nat) (list_n : Nat) (scales_a : Option Addr) (scales_e : Nat) (scales_n : Nat) (Inv : Nat → Bool → Int → AHeap → Prop) : Nat → List Value → AHeap → Prop := fun μ tm H => ∃ (found : Bool), ∃ (t35 : Int), tm = (impl_PursueOnce_P1 b1 b2 list_a list_e list_n scales_a scales_e scales_n found t35) ∧ Inv μ found t35 H
theorem impl_PursueOnce_L1 (b1 : Nat) (b2 : Nat) (list_a : Option Addr) (list_e : Nat) (list_n : Nat) (scales_a : Option Addr) (scales_e : Nat) (scales_n : Nat) {Q : Post} (Inv : Nat → Bool → Int → AHeap → Prop) (ν : Nat) (found : Bool) (t35 : Int)  (H : AHeap) (h0 : Inv ν found t35 H)
    (hs : ∀ (μ : Nat) (found : Bool) (t35 : Int)  (H : AHeap), Inv μ found t35 H → exL Try.prog E_impl_PursueOnce (cl (cl (cr (cl (cr (cr (cr (bodyC Try.f45)))))))) 60129542545 112 [(0, 145)] (impl_PursueOnce_P1 b1 b2 list_a list_e list_n scales_a scales_e scales_n found t35) H (loopQ (impl_PursueOnce_I1 b1 b2 list_a list_e list_n scales_a scales_e scales_n Inv) μ Q)) : loopK (exL Try.prog E_impl_PursueOnce (cl (cl (cr (cl (cr (cr (cr (bodyC Try.f45)))))))) 60129542545 112 [(0, 145)]) (impl_PursueOnce_P1 b1 b2 list_a list_e list_n scales_a scales_e scales_n found t35) H Q :=
  ⟨impl_PursueOnce_I1 b1 b2 list_a list_e list_n scales_a scales_e scales_n Inv, ν, ⟨found, t35, rfl, h0⟩, fun μ tm H h => by obtain ⟨found, t35, rfl, hI⟩ := h; exact hs μ found t35  H hI⟩
theorem impl_PursueOnce_n1 {b1 : Nat} {b2 : Nat} {list_a : Option Addr} {list_e : Nat} {list_n : Nat} {scales_a : Option Addr} {scales_e : Nat} {scales_n : Nat} {Q : Post} {Inv : Nat → Bool → Int → AHeap → Prop} {μ : Nat} (μ' : Nat) {found : Bool} {t35 : Int}  {H : AHeap} (hm : μ' < μ) (hI : Inv μ' found t35 H) : loopQ (impl_PursueOnce_I1 b1 b2 list_a list_e list_n scales_a scales_e scales_n Inv) μ Q .normal (impl_PursueOnce_P1 b1 b2 list_a list_e list_n scales_a scales_e scales_n found t35) H := ⟨μ', hm, found, t35, rfl, hI⟩
theorem impl_PursueOnce_x1_0 (b1 : Nat) (b2 : Nat) (list_a : Option Addr) (list_e : Nat) (list_n : Nat) (H : AHeap) (K : Value → AHeap → Prop)  {I : Nat → List Value → AHeap → Prop} {μ : Nat} : loopQ I μ (blockQ 0 (seqQ (exL Try.prog E_impl_PursueOnce (cr (cr (cr (cr (bodyC Try.f45))))) 112 112 []) (retK Try.prog Try.f45 K))) (.exit 0) [.slice list_a list_n list_e, ud, ud, ud, .pointer (some ⟨b1, 0, none⟩), ud, ud, .pointer (some ⟨b2, 0, none⟩), ud, ud, ud, ud, ud, ud, ud, ud, ud, ud, ud, ud, ud, ud, ud, ud, ud, ud, ud, ud, ud, ud, ud, ud, ud, ud, ud, ud, ud, ud, ud, ud, ud, ud, ud, ud, ud, ud, ud, ud, ud, ud, ud, ud, ud, ud, ud, ud, ud, ud, ud, ud, ud, ud, ud, ud, ud, ud, ud, ud, ud, ud, ud, ud, ud, ud, ud, ud, ud, ud, ud, ud, ud, ud, ud, ud, ud, ud, ud, ud, ud, ud, ud, ud, ud, ud, ud, ud, ud, ud, ud, ud, ud, ud, ud, ud, ud, ud, ud, ud, ud, ud, ud, ud, ud, ud, ud, ud, ud, ud, ud, ud, ud, ud, ud, ud, ud] H =
  (∃ c7 : Int, ∃ c8 : Nat, ∃ c9 : Nat,  rdN H b2 0 3 = some [.int .i64 c7, .float .f32 c8, .float .f32 c9] ∧ T_impl_AtomList (list_n : Int) c7 c8 c9 H fun (a3 : Option Addr) (r11 : Nat) (r12 : Nat) (r13 : Bool) (H16 : AHeap) => Br (!r13) (isOwn H16 b1 ∧ (∃ l, rdN H16 b1 0 3 = some l) ∧ Lt (setN H16 b1 0 [.int .i64 0, .float .f32 0, .float .f32 0]) fun H17 => ∃ c10 : Int, ∃ c11 : Nat, ∃ c12 : Nat,  rdN H17 b1 0 3 = some [.int .i64 c10, .float .f32 c11, .float .f32 c12] ∧ K (.tuple #[.agg #[.int .i64 c10, .float .f32 c11, .float .f32 c12], .slice none 0 0, .bool false]) H17) (Al [] H16 fun b6 H18 => loopK (exL Try.prog E_impl_PursueOnce (cl (cl (cr (cl (cr (cr (cr (cr (cr (cr (cr (bodyC Try.f45)))))))))))) 17747108403195211620953845530768 112 [(6, 524432)]) [ud, ud, ud, ud, .pointer (some ⟨b1, 0, none⟩), ud, ud, .pointer (some ⟨b2, 0, none⟩), ud, ud, ud, ud, ud, ud, ud, ud, ud, .slice a3 r11 r12, ud, .slice (some ⟨b6, 0, none⟩) 0 1, ud, ud, ud, ud, ud, ud, ud, ud, ud, ud, ud, ud, ud, ud, ud, ud, ud, ud, ud, ud, ud, ud, ud, ud, ud, ud, ud, ud, ud, ud, ud, ud, ud, ud, ud, ud, ud, ud, ud, ud, ud, ud, ud, ud, ud, ud, ud, ud, ud, ud, ud, ud, ud, ud, ud, ud, ud, ud, ud, ud, ud, ud, ud, ud, ud, ud, ud, ud, ud, ud, ud, ud, ud, ud, ud, ud, ud, ud, ud, ud, ud, .slice list_a list_n list_e, .int .i64 (list_n : Int), .int .i64 0, ud, ud, ud, ud, ud, ud, ud, ud, ud, ud, ud, ud, ud, ud, ud, ud, ud, ud, ud, ud, ud] H18 (blockQ 6 (seqQ (exL Try.prog E_impl_PursueOnce (cr (cr (cr (cr (cr (cr (cr (cr (bodyC Try.f45))))))))) 112 112 []) (retK Try.prog Try.f45 K))))) := by kernel_rfl
theorem impl_PursueOnce_x1_ret (b1 : Nat) (t5_a : Option Addr) (t5_n : Nat) (t5_e : Nat) (t6 : Bool) (H : AHeap) (K : Value → AHeap → Prop)  {I : Nat → List Value → AHeap → Prop} {μ : Nat} : loopQ I μ (blockQ 0 (seqQ (exL Try.prog E_impl_PursueOnce (cr (cr (cr (cr (bodyC Try.f45))))) 112 112 []) (retK Try.prog Try.f45 K))) .ret [ud, ud, ud, ud, .pointer (some ⟨b1, 0, none⟩), .slice t5_a t5_n t5_e, .bool t6, ud, ud, ud, ud, ud, ud, ud, ud, ud, ud, ud, ud, ud, ud, ud, ud, ud, ud, ud, ud, ud, ud, ud, ud, ud, ud, ud, ud, ud, ud, ud, ud, ud, ud, ud, ud, ud, ud, ud, ud, ud, ud, ud, ud, ud, ud, ud, ud, ud, ud, ud, ud, ud, ud, ud, ud, ud, ud, ud, ud, ud, ud, ud, ud, ud, ud, ud, ud, ud, ud, ud, ud, ud, ud, ud, ud, ud, ud, ud, ud, ud, ud, ud, ud, ud, ud, ud, ud, ud, ud, ud, ud, ud, ud, ud, ud, ud, ud, ud, ud, ud, ud, ud, ud, ud, ud, ud, ud, ud, ud, ud, ud, ud, ud, ud, ud, ud, ud] H =
  (∃ c22 : Int, ∃ c23 : Nat, ∃ c24 : Nat,  rdN H b1 0 3 = some [.int .i64 c22, .float .f32 c23, .float .f32 c24] ∧ K (.tuple #[.agg #[.int .i64 c22, .float .f32 c23, .float .f32 c24], .slice t5_a t5_n t5_e, .bool t6]) H) := by kernel_rfl
abbrev impl_PursueOnce_P2 (a1 : Option Addr) (b1 : Nat) (b2 : Nat) (list_a : Option Addr) (list_e : Nat) (list_n : Nat) (r4 : Nat) (r5 : Nat) (r6 : Int) (scales_a : Option Addr) (scales_e : Nat) (scales_n : Nat) (t35 : Int) (x1 : Nat) (found_8 : Bool) (t50 : Int)  : List Value := [.slice list_a list_n list_e, ud, ud, ud, .pointer (some ⟨b1, 0, none⟩), ud, ud, .pointer (some ⟨b2, 0, none⟩), .bool found_8, ud, .float .f32 x1, .slice a1 r4 r5, .int .i64 r6, ud, ud, ud, ud, ud, ud, ud, ud, ud, ud, ud, ud, ud, ud, ud, ud, ud, ud, ud, ud, .slice scales_a scales_n scales_e, .int .i64 (scales_n : Int), .int .i64 t35, ud, ud, ud, ud, ud, ud, ud, ud, ud, ud, ud, ud, ud, .int .i64 (list_n : Int), .int .i64 t50, ud, ud, ud, ud, ud, ud, ud, ud, ud, ud, ud, ud, ud, ud, ud, ud, ud, ud, ud, ud, ud, ud, ud, ud, ud, ud, ud, ud, ud, ud, ud, ud, ud, ud, ud, ud, ud, ud, ud, ud, ud, ud, ud, ud, ud, ud, ud, ud, ud, ud, ud, ud, ud, ud, ud, ud, ud, ud, ud, ud, ud, ud, ud, ud, ud, ud, ud, ud, ud, ud, ud, ud, ud, ud]
theorem impl_PursueOnce_r2 (a1 : Option Addr) (b1 : Nat) (b2 : Nat) (list_a : Option Addr) (list_e : Nat) (list_n : Nat) (r4 : Nat) (r5 : Nat) (r6 : Int) (scales_a : Option Addr) (scales_e : Nat) (scales_n : Nat) (t35 : Int) (x1 : Nat) (found_8 : Bool) (t50 : Int)  (H : AHeap) (R : Post) : exL Try.prog E_impl_PursueOnce (cl (cl (cr (cr (cr (cr (cl (cl (cr (cr (cl (cl (cr (cl (cr (cr (cr (bodyC Try.f45)))))))))))))))))) 1688909989813649 112 [(2, 60129542545), (1, 60129542545), (0, 145)] (impl_PursueOnce_P2 a1 b1 b2 list_a list_e list_n r4 r5 r6 scales_a scales_e scales_n t35 x1 found_8 t50) H R =
  (Br (decide ((t50 : Int) < (list_n : Int))) (T_impl_atomBy a1 r4 r5 r6 (list_n : Int) t50 1065353216 H fun (a2 : Option Addr) (r7 : Nat) (r8 : Nat) (H11 : AHeap) => loopK (exL Try.prog E_impl_PursueOnce (cl (cl (cr (cl (cr (cr (cl (cl (cr (cr (cl (cl (cr (cr (cr (cr (cl (cl (cr (cr (cl (cl (cr (cl (cr (cr (cr (bodyC Try.f45)))))))))))))))))))))))))))) 2019301543051820433 112 [(4, 1688909989838225), (3, 1688909989813649), (2, 60129542545), (1, 60129542545), (0, 145)]) [.slice list_a list_n list_e, ud, ud, ud, .pointer (some ⟨b1, 0, none⟩), ud, ud, .pointer (some ⟨b2, 0, none⟩), .bool found_8, ud, .float .f32 x1, .slice a1 r4 r5, .int .i64 r6, .int .i64 t50, .float .f32 0, ud, ud, ud, ud, ud, ud, ud, ud, ud, ud, ud, ud, ud, ud, ud, ud, ud, ud, .slice scales_a scales_n scales_e, .int .i64 (scales_n : Int), .int .i64 t35, ud, ud, ud, ud, ud, ud, ud, ud, ud, ud, ud, ud, ud, .int .i64 (list_n : Int), .int .i64 t50, ud, ud, ud, ud, ud, ud, ud, .slice a2 r7 r8, .int .i64 (r7 : Int), .int .i64 0, ud, ud, ud, ud, ud, ud, ud, ud, ud, ud, ud, ud, ud, ud, ud, ud, ud, ud, ud, ud, ud, ud, ud, ud, ud, ud, ud, ud, ud, ud, ud, ud, ud, ud, ud, ud, ud, ud, ud, ud, ud, ud, ud, ud, ud, ud, ud, ud, ud, ud, ud, ud, ud, ud, ud, ud, ud, ud, ud, ud, ud, ud, ud, ud] H11 (blockQ 4 (seqQ (exL Try.prog E_impl_PursueOnce (cr (cr (cr (cl (cl (cr (cr (cl (cl (cr (cr (cr (cr (cl (cl (cr (cr (cl (cl (cr (cl (cr (cr (cr (bodyC Try.f45))))))))))))))))))))))))) 1688909989813649 112 [(3, 1688909989813649), (2, 60129542545), (1, 60129542545), (0, 145)]) (blockQ 3 (seqQ (exL Try.prog E_impl_PursueOnce (cr (cr (cr (cl (cl (cr (cr (cr (cr (cl (cl (cr (cr (cl (cl (cr (cl (cr (cr (cr (bodyC Try.f45))))))))))))))))))))) 1688909989813649 112 [(2, 60129542545), (1, 60129542545), (0, 145)]) (R)))))) (R (.exit 2) [.slice list_a list_n list_e, ud, ud, ud, .pointer (some ⟨b1, 0, none⟩), ud, ud, .pointer (some ⟨b2, 0, none⟩), .bool found_8, ud, ud, ud, ud, ud, ud, ud, ud, ud, ud, ud, ud, ud, ud, ud, ud, ud, ud, ud, ud, ud, ud, ud, ud, .slice scales_a scales_n scales_e, .int .i64 (scales_n : Int), .int .i64 t35, ud, ud, ud, ud, ud, ud, ud, ud, ud, ud, ud, ud, ud, ud, ud, ud, ud, ud, ud, ud, ud, ud, ud, ud, ud, ud, ud, ud, ud, ud, ud, ud, ud, ud, ud, ud, ud, ud, ud, ud, ud, ud, ud, ud, ud, ud, ud, ud, ud, ud, ud, ud, ud, ud, ud, ud, ud, ud, ud, ud, ud, ud, ud, ud, ud, ud, ud, ud, ud, ud, ud, ud, ud, ud, ud, ud, ud, ud, ud, ud, ud, ud, ud, ud, ud, ud, ud, ud, ud] H)) := by kernel_rfl
def impl_PursueOnce_I2 (a1 : Option Addr) (b1 : Nat) (b2 : Nat) (list_a : Option Addr) (list_e : Nat) (list_n : Nat) (r4 : Nat) (r5 : Nat) (r6 : Int) (scales_a : Option Addr) (scales_e : Nat) (scales_n : Nat) (t35 : Int) (x1 : Nat) (Inv : Nat → Bool → Int → AHeap → Prop) : Nat → List Value → AHeap → Prop := fun μ tm H => ∃ (found_8 : Bool), ∃ (t50 : Int), tm = (impl_PursueOnce_P2 a1 b1 b2 list_a list_e list_n r4 r5 r6 scales_a scales_e scales_n t35 x1 found_8 t50) ∧ Inv μ found_8 t50 H
theorem impl_PursueOnce_L2 (a1 : Option Addr) (b1 : Nat) (b2 : Nat) (list_a : Option Addr) (list_e : Nat) (list_n : Nat) (r4 : Nat) (r5 : Nat) (r6 : Int) (scales_a : Option Addr) (scales_e : Nat) (scales_n : Nat) (t35 : Int) (x1 : Nat) {Q : Post} (Inv : Nat → Bool → Int → AHeap → Prop) (ν : Nat) (found_8 : Bool) (t50 : Int)  (H : AHeap) (h0 : Inv ν found_8 t50 H)
    (hs : ∀ (μ : Nat) (found_8 : Bool) (t50 : Int)  (H : AHeap), Inv μ found_8 t50 H → exL Try.prog E_impl_PursueOnce (cl (cl (cr (cr (cr (cr (cl (cl (cr (cr (cl (cl (cr (cl (cr (cr (cr (bodyC Try.f45)))))))))))))))))) 1688909989813649 112 [(2, 60129542545), (1, 60129542545), (0, 145)] (impl_PursueOnce_P2 a1 b1 b2 list_a list_e list_n r4 r5 r6 scales_a scales_e scales_n t35 x1 found_8 t50) H (loopQ (impl_PursueOnce_I2 a1 b1 b2 list_a list_e list_n r4 r5 r6 scales_a scales_e scales_n t35 x1 Inv) μ Q)) : loopK (exL Try.prog E_impl_PursueOnce (cl (cl (cr (cr (cr (cr (cl (cl (cr (cr (cl (cl (cr (cl (cr (cr (cr (bodyC Try.f45)))))))))))))))))) 1688909989813649 112 [(2, 60129542545), (1, 60129542545), (0, 145)]) (impl_PursueOnce_P2 a1 b1 b2 list_a list_e list_n r4 r5 r6 scales_a scales_e scales_n t35 x1 found_8 t50) H Q :=
  ⟨impl_PursueOnce_I2 a1 b1 b2 list_a list_e list_n r4 r5 r6 scales_a scales_e scales_n t35 x1 Inv, ν, ⟨found_8, t50, rfl, h0⟩, fun μ tm H h => by obtain ⟨found_8, t50, rfl, hI⟩ := h; exact hs μ found_8 t50  H hI⟩
theorem impl_PursueOnce_n2 {a1 : Option Addr} {b1 : Nat} {b2 : Nat} {list_a : Option Addr} {list_e : Nat} {list_n : Nat} {r4 : Nat} {r5 : Nat} {r6 : Int} {scales_a : Option Addr} {scales_e : Nat} {scales_n : Nat} {t35 : Int} {x1 : Nat} {Q : Post} {Inv : Nat → Bool → Int → AHeap → Prop} {μ : Nat} (μ' : Nat) {found_8 : Bool} {t50 : Int}  {H : AHeap} (hm : μ' < μ) (hI : Inv μ' found_8 t50 H) : loopQ (impl_PursueOnce_I2 a1 b1 b2 list_a list_e list_n r4 r5 r6 scales_a scales_e scales_n t35 x1 Inv) μ Q .normal (impl_PursueOnce_P2 a1 b1 b2 list_a list_e list_n r4 r5 r6 scales_a scales_e scales_n t35 x1 found_8 t50) H := ⟨μ', hm, found_8, t50, rfl, hI⟩
theorem impl_PursueOnce_x2_2 (b1 : Nat) (b2 : Nat) (list_a : Option Addr) (list_e : Nat) (list_n : Nat) (scales_a : Option Addr) (scales_e : Nat) (scales_n : Nat) (t35 : Int) (found_8 : Bool) (H : AHeap)  (R : Post) {I : Nat → List Value → AHeap → Prop} {μ : Nat} : loopQ I μ (blockQ 2 (blockQ 1 (seqQ (exL Try.prog E_impl_PursueOnce (cr (cr (cr (cl (cl (cr (cl (cr (cr (cr (bodyC Try.f45))))))))))) 60129542545 112 [(0, 145)]) (R)))) (.exit 2) [.slice list_a list_n list_e, ud, ud, ud, .pointer (some ⟨b1, 0, none⟩), ud, ud, .pointer (some ⟨b2, 0, none⟩), .bool found_8, ud, ud, ud, ud, ud, ud, ud, ud, ud, ud, ud, ud, ud, ud, ud, ud, ud, ud, ud, ud, ud, ud, ud, ud, .slice scales_a scales_n scales_e, .int .i64 (scales_n : Int), .int .i64 t35, ud, ud, ud, ud, ud, ud, ud, ud, ud, ud, ud, ud, ud, ud, ud, ud, ud, ud, ud, ud, ud, ud, ud, ud, ud, ud, ud, ud, ud, ud, ud, ud, ud, ud, ud, ud, ud, ud, ud, ud, ud, ud, ud, ud, ud, ud, ud, ud, ud, ud, ud, ud, ud, ud, ud, ud, ud, ud, ud, ud, ud, ud, ud, ud, ud, ud, ud, ud, ud, ud, ud, ud, ud, ud, ud, ud, ud, ud, ud, ud, ud, ud, ud, ud, ud, ud, ud, ud, ud] H =
  (R .normal [.slice list_a list_n list_e, ud, ud, ud, .pointer (some ⟨b1, 0, none⟩), ud, ud, .pointer (some ⟨b2, 0, none⟩), .bool found_8, ud, ud, ud, ud, ud, ud, ud, ud, ud, ud, ud, ud, ud, ud, ud, ud, ud, ud, ud, ud, ud, ud, ud, ud, .slice scales_a scales_n scales_e, .int .i64 (scales_n : Int), .int .i64 (IntKind.wrap .i64 (t35 + 1)), ud, ud, ud, ud, ud, ud, ud, ud, ud, ud, ud, ud, ud, ud, ud, ud, ud, ud, ud, ud, ud, ud, ud, ud, ud, ud, ud, ud, ud, ud, ud, ud, ud, ud, ud, ud, ud, ud, ud, ud, ud, ud, ud, ud, ud, ud, ud, ud, ud, ud, ud, ud, ud, ud, ud, ud, ud, ud, ud, ud, ud, ud, ud, ud, ud, ud, ud, ud, ud, ud, ud, ud, ud, ud, ud, ud, ud, ud, ud, ud, ud, ud, ud, ud, ud, ud, ud, ud, ud] H) := by kernel_rfl
abbrev impl_PursueOnce_P3 (a1 : Option Addr) (a2 : Option Addr) (b1 : Nat) (b2 : Nat) (found_8 : Bool) (list_a : Option Addr) (list_e : Nat) (list_n : Nat) (r4 : Nat) (r5 : Nat) (r6 : Int) (r7 : Nat) (r8 : Nat) (scales_a : Option Addr) (scales_e : Nat) (scales_n : Nat) (t35 : Int) (t50 : Int) (x1 : Nat) (q : Nat) (t60 : Int)  : List Value := [.slice list_a list_n list_e, ud, ud, ud, .pointer (some ⟨b1, 0, none⟩), ud, ud, .pointer (some ⟨b2, 0, none⟩), .bool found_8, ud, .float .f32 x1, .slice a1 r4 r5, .int .i64 r6, .int .i64 t50, .float .f32 q, ud, ud, ud, ud, ud, ud, ud, ud, ud, ud, ud, ud, ud, ud, ud, ud, ud, ud, .slice scales_a scales_n scales_e, .int .i64 (scales_n : Int), .int .i64 t35, ud, ud, ud, ud, ud, ud, ud, ud, ud, ud, ud, ud, ud, .int .i64 (list_n : Int), .int .i64 t50, ud, ud, ud, ud, ud, ud, ud, .slice a2 r7 r8, .int .i64 (r7 : Int), .int .i64 t60, ud, ud, ud, ud, ud, ud, ud, ud, ud, ud, ud, ud, ud, ud, ud, ud, ud, ud, ud, ud, ud, ud, ud, ud, ud, ud, ud, ud, ud, ud, ud, ud, ud, ud, ud, ud, ud, ud, ud, ud, ud, ud, ud, ud, ud, ud, ud, ud, ud, ud, ud, ud, ud, ud, ud, ud, ud, ud, ud, ud, ud, ud, ud, ud]
theorem impl_PursueOnce_r3 (a1 : Option Addr) (a2 : Option Addr) (b1 : Nat) (b2 : Nat) (found_8 : Bool) (list_a : Option Addr) (list_e : Nat) (list_n : Nat) (r4 : Nat) (r5 : Nat) (r6 : Int) (r7 : Nat) (r8 : Nat) (scales_a : Option Addr) (scales_e : Nat) (scales_n : Nat) (t35 : Int) (t50 : Int) (x1 : Nat) (q : Nat) (t60 : Int)  (H : AHeap) (R : Post) : exL Try.prog E_impl_PursueOnce (cl (cl (cr (cl (cr (cr (cl (cl (cr (cr (cl (cl (cr (cr (cr (cr (cl (cl (cr (cr (cl (cl (cr (cl (cr (cr (cr (bodyC Try.f45)))))))))))))))))))))))))))) 2019301543051820433 112 [(4, 1688909989838225), (3, 1688909989813649), (2, 60129542545), (1, 60129542545), (0, 145)] (impl_PursueOnce_P3 a1 a2 b1 b2 found_8 list_a list_e list_n r4 r5 r6 r7 r8 scales_a scales_e scales_n t35 t50 x1 q t60) H R =
  (Br (decide ((t60 : Int) < (r7 : Int))) ((0 : Int) ≤ t60 ∧ t60 < (r7 : Int) ∧ ∃ b4 f2, (a2 : Option Addr) = some ⟨b4, f2, none⟩ ∧ ∃ x2 : Nat,  rdC H b4 (f2 + (t60 : Int).toNat * 1) = some (.float .f32 x2) ∧ (0 : Int) ≤ t60 ∧ t60 < (list_n : Int) ∧ ∃ b5 f3, (list_a : Option Addr) = some ⟨b5, f3, none⟩ ∧ ∃ x3 : Nat,  rdC H b5 (f3 + (t60 : Int).toNat * 1) = some (.float .f32 x3) ∧ R .normal [.slice list_a list_n list_e, ud, ud, ud, .pointer (some ⟨b1, 0, none⟩), ud, ud, .pointer (some ⟨b2, 0, none⟩), .bool found_8, ud, .float .f32 x1, .slice a1 r4 r5, .int .i64 r6, .int .i64 t50, .float .f32 (fadd .f32 q (fmul .f32 x2 x3)), ud, ud, ud, ud, ud, ud, ud, ud, ud, ud, ud, ud, ud, ud, ud, ud, ud, ud, .slice scales_a scales_n scales_e, .int .i64 (scales_n : Int), .int .i64 t35, ud, ud, ud, ud, ud, ud, ud, ud, ud, ud, ud, ud, ud, .int .i64 (list_n : Int), .int .i64 t50, ud, ud, ud, ud, ud, ud, ud, .slice a2 r7 r8, .int .i64 (r7 : Int), .int .i64 (IntKind.wrap .i64 (t60 + 1)), ud, ud, ud, ud, ud, ud, ud, ud, ud, ud, ud, ud, ud, ud, ud, ud, ud, ud, ud, ud, ud, ud, ud, ud, ud, ud, ud, ud, ud, ud, ud, ud, ud, ud, ud, ud, ud, ud, ud, ud, ud, ud, ud, ud, ud, ud, ud, ud, ud, ud, ud, ud, ud, ud, ud, ud, ud, ud, ud, ud, ud, ud, ud, ud] H) (R (.exit 4) [.slice list_a list_n list_e, ud, ud, ud, .pointer (some ⟨b1, 0, none⟩), ud, ud, .pointer (some ⟨b2, 0, none⟩), .bool found_8, ud, .float .f32 x1, .slice a1 r4 r5, .int .i64 r6, .int .i64 t50, .float .f32 q, ud, ud, ud, ud, ud, ud, ud, ud, ud, ud, ud, ud, ud, ud, ud, ud, ud, ud, .slice scales_a scales_n scales_e, .int .i64 (scales_n : Int), .int .i64 t35, ud, ud, ud, ud, ud, ud, ud, ud, ud, ud, ud, ud, ud, .int .i64 (list_n : Int), .int .i64 t50, ud, ud, ud, ud, ud, ud, ud, ud, ud, ud, ud, ud, ud, ud, ud, ud, ud, ud, ud, ud, ud, ud, ud, ud, ud, ud, ud, ud, ud, ud, ud, ud, ud, ud, ud, ud, ud, ud, ud, ud, ud, ud, ud, ud, ud, ud, ud, ud, ud, ud, ud, ud, ud, ud, ud, ud, ud, ud, ud, ud, ud, ud, ud, ud, ud, ud, ud, ud, ud, ud, ud, ud, ud, ud] H)) := by kernel_rfl
def impl_PursueOnce_I3 (a1 : Option Addr) (a2 : Option Addr) (b1 : Nat) (b2 : Nat) (found_8 : Bool) (list_a : Option Addr) (list_e : Nat) (list_n : Nat) (r4 : Nat) (r5 : Nat) (r6 : Int) (r7 : Nat) (r8 : Nat) (scales_a : Option Addr) (scales_e : Nat) (scales_n : Nat) (t35 : Int) (t50 : Int) (x1 : Nat) (Inv : Nat → Nat → Int → AHeap → Prop) : Nat → List Value → AHeap → Prop := fun μ tm H => ∃ (q : Nat), ∃ (t60 : Int), tm = (impl_PursueOnce_P3 a1 a2 b1 b2 found_8 list_a list_e list_n r4 r5 r6 r7 r8 scales_a scales_e scales_n t35 t50 x1 q t60) ∧ Inv μ q t60 H
theorem impl_PursueOnce_L3 (a1 : Option Addr) (a2 : Option Addr) (b1 : Nat) (b2 : Nat) (found_8 : Bool) (list_a : Option Addr) (list_e : Nat) (list_n : Nat) (r4 : Nat) (r5 : Nat) (r6 : Int) (r7 : Nat) (r8 : Nat) (scales_a : Option Addr) (scales_e : Nat) (scales_n : Nat) (t35 : Int) (t50 : Int) (x1 : Nat) {Q : Post} (Inv : Nat → Nat → Int → AHeap → Prop) (ν : Nat) (q : Nat) (t60 : Int)  (H : AHeap) (h0 : Inv ν q t60 H)
    (hs : ∀ (μ : Nat) (q : Nat) (t60 : Int)  (H : AHeap), Inv μ q t60 H → exL Try.prog E_impl_PursueOnce (cl (cl (cr (cl (cr (cr (cl (cl (cr (cr (cl (cl (cr (cr (cr (cr (cl (cl (cr (cr (cl (cl (cr (cl (cr (cr (cr (bodyC Try.f45)))))))))))))))))))))))))))) 2019301543051820433 112 [(4, 1688909989838225), (3, 1688909989813649), (2, 60129542545), (1, 60129542545), (0, 145)] (impl_PursueOnce_P3 a1 a2 b1 b2 found_8 list_a list_e list_n r4 r5 r6 r7 r8 scales_a scales_e scales_n t35 t50 x1 q t60) H (loopQ (impl_PursueOnce_I3 a1 a2 b1 b2 found_8 list_a list_e list_n r4 r5 r6 r7 r8 scales_a scales_e scales_n t35 t50 x1 Inv) μ Q)) : loopK (exL Try.prog E_impl_PursueOnce (cl (cl (cr (cl (cr (cr (cl (cl (cr (cr (cl (cl (cr (cr (cr (cr (cl (cl (cr (cr (cl (cl (cr (cl (cr (cr (cr (bodyC Try.f45)))))))))))))))))))))))))))) 2019301543051820433 112 [(4, 1688909989838225), (3, 1688909989813649), (2, 60129542545), (1, 60129542545), (0, 145)]) (impl_PursueOnce_P3 a1 a2 b1 b2 found_8 list_a list_e list_n r4 r5 r6 r7 r8 scales_a scales_e scales_n t35 t50 x1 q t60) H Q :=
  ⟨impl_PursueOnce_I3 a1 a2 b1 b2 found_8 list_a list_e list_n r4 r5 r6 r7 r8 scales_a scales_e scales_n t35 t50 x1 Inv, ν, ⟨q, t60, rfl, h0⟩, fun μ tm H h => by obtain ⟨q, t60, rfl, hI⟩ := h; exact hs μ q t60  H hI⟩
theorem impl_PursueOnce_n3 {a1 : Option Addr} {a2 : Option Addr} {b1 : Nat} {b2 : Nat} {found_8 : Bool} {list_a : Option Addr} {list_e : Nat} {list_n : Nat} {r4 : Nat} {r5 : Nat} {r6 : Int} {r7 : Nat} {r8 : Nat} {scales_a : Option Addr} {scales_e : Nat} {scales_n : Nat} {t35 : Int} {t50 : Int} {x1 : Nat} {Q : Post} {Inv : Nat → Nat → Int → AHeap → Prop} {μ : Nat} (μ' : Nat) {q : Nat} {t60 : Int}  {H : AHeap} (hm : μ' < μ) (hI : Inv μ' q t60 H) : loopQ (impl_PursueOnce_I3 a1 a2 b1 b2 found_8 list_a list_e list_n r4 r5 r6 r7 r8 scales_a scales_e scales_n t35 t50 x1 Inv) μ Q .normal (impl_PursueOnce_P3 a1 a2 b1 b2 found_8 list_a list_e list_n r4 r5 r6 r7 r8 scales_a scales_e scales_n t35 t50 x1 q t60) H := ⟨μ', hm, q, t60, rfl, hI⟩
theorem impl_PursueOnce_x3_4 (a1 : Option Addr) (b1 : Nat) (b2 : Nat) (found_8 : Bool) (list_a : Option Addr) (list_e : Nat) (list_n : Nat) (r4 : Nat) (r5 : Nat) (r6 : Int) (scales_a : Option Addr) (scales_e : Nat) (scales_n : Nat) (t35 : Int) (t50 : Int) (x1 : Nat) (q : Nat) (H : AHeap)  (R : Post) {I : Nat → List Value → AHeap → Prop} {μ : Nat} : loopQ I μ (blockQ 4 (seqQ (exL Try.prog E_impl_PursueOnce (cr (cr (cr (cl (cl (cr (cr (cl (cl (cr (cr (cr (cr (cl (cl (cr (cr (cl (cl (cr (cl (cr (cr (cr (bodyC Try.f45))))))))))))))))))))))))) 1688909989813649 112 [(3, 1688909989813649), (2, 60129542545), (1, 60129542545), (0, 145)]) (blockQ 3 (seqQ (exL Try.prog E_impl_PursueOnce (cr (cr (cr (cl (cl (cr (cr (cr (cr (cl (cl (cr (cr (cl (cl (cr (cl (cr (cr (cr (bodyC Try.f45))))))))))))))))))))) 1688909989813649 112 [(2, 60129542545), (1, 60129542545), (0, 145)]) (R))))) (.exit 4) [.slice list_a list_n list_e, ud, ud, ud, .pointer (some ⟨b1, 0, none⟩), ud, ud, .pointer (some ⟨b2, 0, none⟩), .bool found_8, ud, .float .f32 x1, .slice a1 r4 r5, .int .i64 r6, .int .i64 t50, .float .f32 q, ud, ud, ud, ud, ud, ud, ud, ud, ud, ud, ud, ud, ud, ud, ud, ud, ud, ud, .slice scales_a scales_n scales_e, .int .i64 (scales_n : Int), .int .i64 t35, ud, ud, ud, ud, ud, ud, ud, ud, ud, ud, ud, ud, ud, .int .i64 (list_n : Int), .int .i64 t50, ud, ud, ud, ud, ud, ud, ud, ud, ud, ud, ud, ud, ud, ud, ud, ud, ud, ud, ud, ud, ud, ud, ud, ud, ud, ud, ud, ud, ud, ud, ud, ud, ud, ud, ud, ud, ud, ud, ud, ud, ud, ud, ud, ud, ud, ud, ud, ud, ud, ud, ud, ud, ud, ud, ud, ud, ud, ud, ud, ud, ud, ud, ud, ud, ud, ud, ud, ud, ud, ud, ud, ud, ud, ud] H =
  (Br (!found_8) (isOwn H b2 ∧ (∃ l, rdN H b2 0 3 = some l) ∧ Lt (setN H b2 0 [.int .i64 t50, .float .f32 x1, .float .f32 q]) fun H12 => R .normal [.slice list_a list_n list_e, ud, ud, ud, .pointer (some ⟨b1, 0, none⟩), ud, ud, .pointer (some ⟨b2, 0, none⟩), .bool true, ud, .float .f32 x1, .slice a1 r4 r5, .int .i64 r6, ud, ud, ud, ud, ud, ud, ud, ud, ud, ud, ud, ud, ud, ud, ud, ud, ud, ud, ud, ud, .slice scales_a scales_n scales_e, .int .i64 (scales_n : Int), .int .i64 t35, ud, ud, ud, ud, ud, ud, ud, ud, ud, ud, ud, ud, ud, .int .i64 (list_n : Int), .int .i64 (IntKind.wrap .i64 (t50 + 1)), ud, ud, ud, ud, ud, ud, ud, ud, ud, ud, ud, ud, ud, ud, ud, ud, ud, ud, ud, ud, ud, ud, ud, ud, ud, ud, ud, ud, ud, ud, ud, ud, ud, ud, ud, ud, ud, ud, ud, ud, ud, ud, ud, ud, ud, ud, ud, ud, ud, ud, ud, ud, ud, ud, ud, ud, ud, ud, ud, ud, ud, ud, ud, ud, ud, ud, ud, ud, ud, ud, ud, ud, ud, ud] H12) (T_impl_size q H fun (r9 : Nat) (H13 : AHeap) => ∃ x4 : Nat,  rdC H13 b2 2 = some (.float .f32 x4) ∧ T_impl_size x4 H13 fun (r10 : Nat) (H14 : AHeap) => Br (flt .f32 r10 r9) (isOwn H14 b2 ∧ (∃ l, rdN H14 b2 0 3 = some l) ∧ Lt (setN H14 b2 0 [.int .i64 t50, .float .f32 x1, .float .f32 q]) fun H15 => R .normal [.slice list_a list_n list_e, ud, ud, ud, .pointer (some ⟨b1, 0, none⟩), ud, ud, .pointer (some ⟨b2, 0, none⟩), .bool true, ud, .float .f32 x1, .slice a1 r4 r5, .int .i64 r6, ud, ud, ud, ud, ud, ud, ud, ud, ud, ud, ud, ud, ud, ud, ud, ud, ud, ud, ud, ud, .slice scales_a scales_n scales_e, .int .i64 (scales_n : Int), .int .i64 t35, ud, ud, ud, ud, ud, ud, ud, ud, ud, ud, ud, ud, ud, .int .i64 (list_n : Int), .int .i64 (IntKind.wrap .i64 (t50 + 1)), ud, ud, ud, ud, ud, ud, ud, ud, ud, ud, ud, ud, ud, ud, ud, ud, ud, ud, ud, ud, ud, ud, ud, ud, ud, ud, ud, ud, ud, ud, ud, ud, ud, ud, ud, ud, ud, ud, ud, ud, ud, ud, ud, ud, ud, ud, ud, ud, ud, ud, ud, ud, ud, ud, ud, ud, ud, ud, ud, ud, ud, ud, ud, ud, ud, ud, ud, ud, ud, ud, ud, ud, ud, ud] H15) (R .normal [.slice list_a list_n list_e, ud, ud, ud, .pointer (some ⟨b1, 0, none⟩), ud, ud, .pointer (some ⟨b2, 0, none⟩), .bool found_8, ud, .float .f32 x1, .slice a1 r4 r5, .int .i64 r6, ud, ud, ud, ud, ud, ud, ud, ud, ud, ud, ud, ud, ud, ud, ud, ud, ud, ud, ud, ud, .slice scales_a scales_n scales_e, .int .i64 (scales_n : Int), .int .i64 t35, ud, ud, ud, ud, ud, ud, ud, ud, ud, ud, ud, ud, ud, .int .i64 (list_n : Int), .int .i64 (IntKind.wrap .i64 (t50 + 1)), ud, ud, ud, ud, ud, ud, ud, ud, ud, ud, ud, ud, ud, ud, ud, ud, ud, ud, ud, ud, ud, ud, ud, ud, ud, ud, ud, ud, ud, ud, ud, ud, ud, ud, ud, ud, ud, ud, ud, ud, ud, ud, ud, ud, ud, ud, ud, ud, ud, ud, ud, ud, ud, ud, ud, ud, ud, ud, ud, ud, ud, ud, ud, ud, ud, ud, ud, ud, ud, ud, ud, ud, ud, ud] H14))) := by kernel_rfl
abbrev impl_PursueOnce_P4 (a3 : Option Addr) (b1 : Nat) (b2 : Nat) (list_a : Option Addr) (list_e : Nat) (list_n : Nat) (r11 : Nat) (r12 : Nat) (rest_a : Option Addr) (rest_n : Nat) (rest_e : Nat) (t103 : Int)  : List Value := [ud, ud, ud, ud, .pointer (some ⟨b1, 0, none⟩), ud, ud, .pointer (some ⟨b2, 0, none⟩), ud, ud, ud, ud, ud, ud, ud, ud, ud, .slice a3 r11 r12, ud, .slice rest_a rest_n rest_e, ud, ud, ud, ud, ud, ud, ud, ud, ud, ud, ud, ud, ud, ud, ud, ud, ud, ud, ud, ud, ud, ud, ud, ud, ud, ud, ud, ud, ud, ud, ud, ud, ud, ud, ud, ud, ud, ud, ud, ud, ud, ud, ud, ud, ud, ud, ud, ud, ud, ud, ud, ud, ud, ud, ud, ud, ud, ud, ud, ud, ud, ud, ud, ud, ud, ud, ud, ud, ud, ud, ud, ud, ud, ud, ud, ud, ud, ud, ud, ud, ud, .slice list_a list_n list_e, .int .i64 (list_n : Int), .int .i64 t103, ud, ud, ud, ud, ud, ud, ud, ud, ud, ud, ud, ud, ud, ud, ud, ud, ud, ud, ud, ud, ud]
theorem impl_PursueOnce_r4 (a3 : Option Addr) (b1 : Nat) (b2 : Nat) (list_a : Option Addr) (list_e : Nat) (list_n : Nat) (r11 : Nat) (r12 : Nat) (rest_a : Option Addr) (rest_n : Nat) (rest_e : Nat) (t103 : Int)  (H : AHeap) (R : Post) : exL Try.prog E_impl_PursueOnce (cl (cl (cr (cl (cr (cr (cr (cr (cr (cr (cr (bodyC Try.f45)))))))))))) 17747108403195211620953845530768 112 [(6, 524432)] (impl_PursueOnce_P4 a3 b1 b2 list_a list_e list_n r11 r12 rest_a rest_n rest_e t103) H R =
  (Br (decide ((t103 : Int) < (list_n : Int))) ((0 : Int) ≤ t103 ∧ t103 < (list_n : Int) ∧ ∃ b7 f4, (list_a : Option Addr) = some ⟨b7, f4, none⟩ ∧ ∃ x5 : Nat,  rdC H b7 (f4 + (t103 : Int).toNat * 1) = some (.float .f32 x5) ∧ (0 : Int) ≤ t103 ∧ t103 < (r11 : Int) ∧ ∃ b8 f5, (a3 : Option Addr) = some ⟨b8, f5, none⟩ ∧ ∃ x6 : Nat,  rdC H b8 (f5 + (t103 : Int).toNat * 1) = some (.float .f32 x6) ∧ Al [.float .f32 (fsub .f32 x5 x6)] H fun b9 H19 => ∃ o1 w1 : List Value, ownB H19 rest_a rest_n rest_e 1 = some o1 ∧ rdS H19 (some ⟨b9, 0, none⟩) (1 * 1) = some w1 ∧ ((rest_a : Option Addr) = none → 0 < (1 : Nat)) ∧ (rest_n : Nat) + 1 < most ∧ Ap H19 (killB H19 rest_a ++ [some ⟨o1 ++ w1, true⟩]) fun b10 H20 => R .normal [ud, ud, ud, ud, .pointer (some ⟨b1, 0, none⟩), ud, ud, .pointer (some ⟨b2, 0, none⟩), ud, ud, ud, ud, ud, ud, ud, ud, ud, .slice a3 r11 r12, ud, .slice (some ⟨b10, 0, none⟩) (rest_n + 1) 1, ud, ud, ud, ud, ud, ud, ud, ud, ud, ud, ud, ud, ud, ud, ud, ud, ud, ud, ud, ud, ud, ud, ud, ud, ud, ud, ud, ud, ud, ud, ud, ud, ud, ud, ud, ud, ud, ud, ud, ud, ud, ud, ud, ud, ud, ud, ud, ud, ud, ud, ud, ud, ud, ud, ud, ud, ud, ud, ud, ud, ud, ud, ud, ud, ud, ud, ud, ud, ud, ud, ud, ud, ud, ud, ud, ud, ud, ud, ud, ud, ud, .slice list_a list_n list_e, .int .i64 (list_n : Int), .int .i64 (IntKind.wrap .i64 (t103 + 1)), ud, ud, ud, ud, ud, ud, ud, ud, ud, ud, ud, ud, ud, ud, ud, ud, ud, ud, ud, ud, ud] H20) (R (.exit 6) [ud, ud, ud, ud, .pointer (some ⟨b1, 0, none⟩), ud, ud, .pointer (some ⟨b2, 0, none⟩), ud, ud, ud, ud, ud, ud, ud, ud, ud, ud, ud, .slice rest_a rest_n rest_e, ud, ud, ud, ud, ud, ud, ud, ud, ud, ud, ud, ud, ud, ud, ud, ud, ud, ud, ud, ud, ud, ud, ud, ud, ud, ud, ud, ud, ud, ud, ud, ud, ud, ud, ud, ud, ud, ud, ud, ud, ud, ud, ud, ud, ud, ud, ud, ud, ud, ud, ud, ud, ud, ud, ud, ud, ud, ud, ud, ud, ud, ud, ud, ud, ud, ud, ud, ud, ud, ud, ud, ud, ud, ud, ud, ud, ud, ud, ud, ud, ud, ud, ud, ud, ud, ud, ud, ud, ud, ud, ud, ud, ud, ud, ud, ud, ud, ud, ud, ud, ud, ud, ud, ud, ud] H)) := by kernel_rfl
def impl_PursueOnce_I4 (a3 : Option Addr) (b1 : Nat) (b2 : Nat) (list_a : Option Addr) (list_e : Nat) (list_n : Nat) (r11 : Nat) (r12 : Nat) (Inv : Nat → (Option Addr) → Nat → Nat → Int → AHeap → Prop) : Nat → List Value → AHeap → Prop := fun μ tm H => ∃ (rest_a : Option Addr), ∃ (rest_n : Nat), ∃ (rest_e : Nat), ∃ (t103 : Int), tm = (impl_PursueOnce_P4 a3 b1 b2 list_a list_e list_n r11 r12 rest_a rest_n rest_e t103) ∧ Inv μ rest_a rest_n rest_e t103 H
theorem impl_PursueOnce_L4 (a3 : Option Addr) (b1 : Nat) (b2 : Nat) (list_a : Option Addr) (list_e : Nat) (list_n : Nat) (r11 : Nat) (r12 : Nat) {Q : Post} (Inv : Nat → (Option Addr) → Nat → Nat → Int → AHeap → Prop) (ν : Nat) (rest_a : Option Addr) (rest_n : Nat) (rest_e : Nat) (t103 : Int)  (H : AHeap) (h0 : Inv ν rest_a rest_n rest_e t103 H)
    (hs : ∀ (μ : Nat) (rest_a : Option Addr) (rest_n : Nat) (rest_e : Nat) (t103 : Int)  (H : AHeap), Inv μ rest_a rest_n rest_e t103 H → exL Try.prog E_impl_PursueOnce (cl (cl (cr (cl (cr (cr (cr (cr (cr (cr (cr (bodyC Try.f45)))))))))))) 17747108403195211620953845530768 112 [(6, 524432)] (impl_PursueOnce_P4 a3 b1 b2 list_a list_e list_n r11 r12 rest_a rest_n rest_e t103) H (loopQ (impl_PursueOnce_I4 a3 b1 b2 list_a list_e list_n r11 r12 Inv) μ Q)) : loopK (exL Try.prog E_impl_PursueOnce (cl (cl (cr (cl (cr (cr (cr (cr (cr (cr (cr (bodyC Try.f45)))))))))))) 17747108403195211620953845530768 112 [(6, 524432)]) (impl_PursueOnce_P4 a3 b1 b2 list_a list_e list_n r11 r12 rest_a rest_n rest_e t103) H Q :=
  ⟨impl_PursueOnce_I4 a3 b1 b2 list_a list_e list_n r11 r12 Inv, ν, ⟨rest_a, rest_n, rest_e, t103, rfl, h0⟩, fun μ tm H h => by obtain ⟨rest_a, rest_n, rest_e, t103, rfl, hI⟩ := h; exact hs μ rest_a rest_n rest_e t103  H hI⟩
theorem impl_PursueOnce_n4 {a3 : Option Addr} {b1 : Nat} {b2 : Nat} {list_a : Option Addr} {list_e : Nat} {list_n : Nat} {r11 : Nat} {r12 : Nat} {Q : Post} {Inv : Nat → (Option Addr) → Nat → Nat → Int → AHeap → Prop} {μ : Nat} (μ' : Nat) {rest_a : Option Addr} {rest_n : Nat} {rest_e : Nat} {t103 : Int}  {H : AHeap} (hm : μ' < μ) (hI : Inv μ' rest_a rest_n rest_e t103 H) : loopQ (impl_PursueOnce_I4 a3 b1 b2 list_a list_e list_n r11 r12 Inv) μ Q .normal (impl_PursueOnce_P4 a3 b1 b2 list_a list_e list_n r11 r12 rest_a rest_n rest_e t103) H := ⟨μ', hm, rest_a, rest_n, rest_e, t103, rfl, hI⟩
theorem impl_PursueOnce_x4_6 (b1 : Nat) (b2 : Nat) (rest_a : Option Addr) (rest_n : Nat) (rest_e : Nat) (H : AHeap) (K : Value → AHeap → Prop)  {I : Nat → List Value → AHeap → Prop} {μ : Nat} : loopQ I μ (blockQ 6 (seqQ (exL Try.prog E_impl_PursueOnce (cr (cr (cr (cr (cr (cr (cr (cr (bodyC Try.f45))))))))) 112 112 []) (retK Try.prog Try.f45 K))) (.exit 6) [ud, ud, ud, ud, .pointer (some ⟨b1, 0, none⟩), ud, ud, .pointer (some ⟨b2, 0, none⟩), ud, ud, ud, ud, ud, ud, ud, ud, ud, ud, ud, .slice rest_a rest_n rest_e, ud, ud, ud, ud, ud, ud, ud, ud, ud, ud, ud, ud, ud, ud, ud, ud, ud, ud, ud, ud, ud, ud, ud, ud, ud, ud, ud, ud, ud, ud, ud, ud, ud, ud, ud, ud, ud, ud, ud, ud, ud, ud, ud, ud, ud, ud, ud, ud, ud, ud, ud, ud, ud, ud, ud, ud, ud, ud, ud, ud, ud, ud, ud, ud, ud, ud, ud, ud, ud, ud, ud, ud, ud, ud, ud, ud, ud, ud, ud, ud, ud, ud, ud, ud, ud, ud, ud, ud, ud, ud, ud, ud, ud, ud, ud, ud, ud, ud, ud, ud, ud, ud, ud, ud, ud] H =
  (Al [.slice rest_a rest_n rest_e] H fun b11 H21 => T_impl_areFinite (some ⟨b11, 0, none⟩) 1 1 H21 fun (r14 : Bool) (H22 : AHeap) => Br (!r14) (isOwn H22 b1 ∧ (∃ l, rdN H22 b1 0 3 = some l) ∧ Lt (setN H22 b1 0 [.int .i64 0, .float .f32 0, .float .f32 0]) fun H23 => ∃ c13 : Int, ∃ c14 : Nat, ∃ c15 : Nat,  rdN H23 b1 0 3 = some [.int .i64 c13, .float .f32 c14, .float .f32 c15] ∧ K (.tuple #[.agg #[.int .i64 c13, .float .f32 c14, .float .f32 c15], .slice none 0 0, .bool false]) H23) (∃ c16 : Int, ∃ c17 : Nat, ∃ c18 : Nat,  rdN H22 b2 0 3 = some [.int .i64 c16, .float .f32 c17, .float .f32 c18] ∧ isOwn H22 b1 ∧ (∃ l, rdN H22 b1 0 3 = some l) ∧ Lt (setN H22 b1 0 [.int .i64 c16, .float .f32 c17, .float .f32 c18]) fun H24 => ∃ c19 : Int, ∃ c20 : Nat, ∃ c21 : Nat,  rdN H24 b1 0 3 = some [.int .i64 c19, .float .f32 c20, .float .f32 c21] ∧ K (.tuple #[.agg #[.int .i64 c19, .float .f32 c20, .float .f32 c21], .slice rest_a rest_n rest_e, .bool true]) H24)) := by kernel_rfl
theorem E_impl_PursueOnce_ok : ∀ g, FnOk Try.prog g (E_impl_PursueOnce g) := FnOk.envOf (by
  intro x hx
  simp only [List.mem_cons, List.not_mem_nil, or_false] at hx
  rcases hx with rfl | rfl | rfl | rfl | rfl | rfl | rfl | rfl
  · exact impl_isLong_ok
  · exact impl_within_ok
  · exact impl_isScale_ok
  · exact impl_realKernel_ok
  · exact impl_atomBy_ok
  · exact impl_size_ok
  · exact impl_AtomList_ok
  · exact impl_areFinite_ok)
set_option maxHeartbeats 1000000 in
theorem impl_PursueOnce_main (list_a : Option Addr) (list_n : Nat) (list_e : Nat) (scales_a : Option Addr) (scales_n : Nat) (scales_e : Nat) (H : AHeap) (K : Value → AHeap → Prop) (h : T_impl_PursueOnce list_a list_n list_e scales_a scales_n scales_e H fun (r1_Place : Int) (r1_Scale : Nat) (r1_Size : Nat) (r2_a : Option Addr) (r2_n : Nat) (r2_e : Nat) (r3 : Bool) (H' : AHeap) => K (.tuple #[.agg #[.int .i64 r1_Place, .float .f32 r1_Scale, .float .f32 r1_Size], .slice r2_a r2_n r2_e, .bool r3]) H') : bodyL Try.prog E_impl_PursueOnce Try.f45 [.slice list_a list_n list_e, .slice scales_a scales_n scales_e] H K := by
  rw [impl_PursueOnce_vc]
  obtain ⟨l_list, l_scales, i_list, i_scales, bd_314, bd_315, hk⟩ := h
  obtain rfl := i_list.eqn
  obtain rfl := i_scales.eqn
  have e : (p_impl_PursueOnce l_list l_scales) = _ := rfl
  have e := e.trans (p_impl_PursueOnce_eq l_list l_scales)
  have g0 := Grow.refl H
  refine Al.intro (fun b_1 H_1 hb_2 hl_3 g_4 o_5 => ?_)
  have l_7 := g_4.1
  have g_8 := g0.trans g_4
  have l_9 := g_8.1
  have w_313 := o_5.lt
  refine T_impl_isLong_i ⟨_, (i_list.grow g_8), o0, fun  H_2 g_10  => ?_⟩
  have l_11 := g_10.1
  have g_12 := g_8.trans g_10
  have l_13 := g_12.1
  have o_14 := o_5.grow g_10
  have w_15 := o_14.lt
  refine Br.intro (fun c_16 => ?_) (fun c_16 => ?_)
  · have e := e.trans (cond_t c_16)
    have c_16n := nf_of_t c_16
    refine Lt.setN (n := 3) o_14 (Nat.le_of_ble_eq_true rfl) rfl (fun H_3 hl_17 o_19 k_18 => ?_)
    have o_19 : Own H_3 b_1 [.int .i64 0, .float .f32 0, .float .f32 0] := o_19
    have l_20 := k_18.1
    have g_21 := g_12.keep (b := b_1) o3 k_18
    have l_22 := g_21.1
    have w_23 := o_19.lt
    refine ⟨0, 0, 0, (o_19.rdN (Nat.le_of_ble_eq_true rfl)).trans rfl, ?_⟩
    rw [e] at hk
    exact hk _ _ _ H_3 g_21 o13
  · have e := e.trans (cond_f c_16)
    have c_16n := nt_of_f c_16
    have c_16n' := impl_isLong_t c_16n
    refine T_impl_within_i ?_
    refine Br.intro (fun c_24 => ?_) (fun c_24 => ?_)
    · have e := e.trans (cond_t c_24)
      have c_24n := nf_of_t c_24
      refine Lt.setN (n := 3) o_14 (Nat.le_of_ble_eq_true rfl) rfl (fun H_4 hl_25 o_27 k_26 => ?_)
      have o_27 : Own H_4 b_1 [.int .i64 0, .float .f32 0, .float .f32 0] := o_27
      have l_28 := k_26.1
      have g_29 := g_12.keep (b := b_1) o3 k_26
      have l_30 := g_29.1
      have w_31 := o_27.lt
      refine ⟨0, 0, 0, (o_27.rdN (Nat.le_of_ble_eq_true rfl)).trans rfl, ?_⟩
      rw [e] at hk
      exact hk _ _ _ H_4 g_29 o13
    · have e := e.trans (cond_f c_24)
      have c_24n := nt_of_f c_24
      have c_24n' := impl_within_t c_24n
      refine Al.intro (fun b_32 H_5 hb_33 hl_34 g_35 o_36 => ?_)
      have l_38 := g_35.1
      have g_39 := g_12.trans g_35
      have l_40 := g_39.1
      have o_41 := o_14.grow g_35
      have w_42 := o_41.lt
      have w_312 := o_36.lt
      refine Lt.setN (n := 3) o_36 (Nat.le_of_ble_eq_true rfl) rfl (fun H_6 hl_43 o_45 k_44 => ?_)
      have o_45 : Own H_6 b_32 [.int .i64 0, .float .f32 0, .float .f32 0] := o_45
      have l_46 := k_44.1
      have g_47 := g_39.keep (b := b_32) o3 k_44
      have l_48 := g_47.1
      have o_49 := o_41.keep o3 k_44
      have w_50 := o_49.lt
      have w_311 := o_45.lt
      refine impl_PursueOnce_L1 _ _ _ _ _ _ _ _ (fun (μ : Nat) (found : Bool) (t35 : Int) (H_7 : AHeap) => ∃ (t6 : Bool), ∃ (q1_1 : Int), ∃ (q1_2 : Nat), ∃ (q1_3 : Nat), ∃ (q1_4 : Int), ∃ (q1_5 : Nat), ∃ (q1_6 : Nat), Own H_7 b_1 [.int .i64 q1_1, .float .f32 q1_2, .float .f32 q1_3] ∧ Own H_7 b_32 [.int .i64 q1_4, .float .f32 q1_5, .float .f32 q1_6] ∧ (b_32 ≠ b_1) ∧ Grow H H_7 ∧ (0 : Int) ≤ t35 ∧ t35 ≤ (l_scales.length : Int) ∧ (l_scales.length : Int) - t35 ≤ (μ : Int) ∧ p_impl_PursueOnce l_list l_scales = p_impl_PursueOnce_l1 l_list l_scales (μ + 1) t6 found t35 q1_1 q1_2 q1_3 q1_4 q1_5 q1_6) (Int.toNat ((l_scales.length : Int) - (0 : Int))) _ _ H_6 ?_ ?_
      · exact ⟨_, _, _, _, _, _, _, o_49, o_45, o3, g_47, o6, o6, o3, e⟩
      · intro μ found t35  H_7 hI
        obtain ⟨t6, q1_1, q1_2, q1_3, q1_4, q1_5, q1_6, o_51, o_52, n_53, g_54, v_55, v_56, hμ, e⟩ := hI
        rw [impl_PursueOnce_r1]
        have e := e.trans (p_impl_PursueOnce_l1_s l_list l_scales μ t6 found t35 q1_1 q1_2 q1_3 q1_4 q1_5 q1_6)
        have w_57 := o_51.lt
        have w_58 := o_52.lt
        have l_59 := g_54.1
        refine Br.intro (fun c_60 => ?_) (fun c_60 => ?_)
        · have e := e.trans (cond_t c_60)
          have c_60' := of_decide_eq_true c_60
          obtain ⟨b_61, f_62, q_63⟩ := ((i_scales.grow g_54)).pos o0
          refine ⟨by omega, by omega, b_61, f_62, q_63, ?_⟩
          refine ⟨((l_scales).getD (t35 : Int).toNat 0), (i_scales).rd g_54 q_63 o3 _, ?_⟩
          refine T_impl_isScale_i ?_
          refine Br.intro (fun c_64 => ?_) (fun c_64 => ?_)
          · have e := e.trans (cond_t c_64)
            have c_64n := nf_of_t c_64
            refine Lt.setN (n := 3) o_51 (Nat.le_of_ble_eq_true rfl) rfl (fun H_8 hl_65 o_67 k_66 => ?_)
            have o_67 : Own H_8 b_1 [.int .i64 0, .float .f32 0, .float .f32 0] := o_67
            have l_68 := k_66.1
            have g_69 := g_54.keep (b := b_1) o3 k_66
            have l_70 := g_69.1
            have o_71 := o_52.keep o3 k_66
            have w_72 := o_71.lt
            have w_73 := o_67.lt
            rw [impl_PursueOnce_x1_ret]
            refine ⟨0, 0, 0, (o_67.rdN (Nat.le_of_ble_eq_true rfl)).trans rfl, ?_⟩
            rw [e] at hk
            exact hk _ _ _ H_8 g_69 o13
          · have e := e.trans (cond_f c_64)
            have c_64n := nt_of_f c_64
            refine T_impl_realKernel_i ⟨o18, fun a_74 n_75 e_76 H_9 g_79 r_77 => ?_⟩
            have z_78 := impl_realKernel_len (((l_scales).getD (t35 : Int).toNat 0)) o37
            have l_80 := g_79.1
            have g_81 := g_54.trans g_79
            have l_82 := g_81.1
            have o_83 := o_51.grow g_79
            have w_84 := o_83.lt
            have o_85 := o_52.grow g_79
            have w_86 := o_85.lt
            obtain rfl := r_77.isL.eqn
            have u_87 := r_77.up
            have u_88 := r_77.lo
            refine impl_PursueOnce_L2 _ _ _ _ _ _ _ _ _ _ _ _ _ _ (fun (μ2 : Nat) (found_8 : Bool) (t50 : Int) (H_10 : AHeap) => ∃ (q2_1 : Int), ∃ (q2_2 : Nat), ∃ (q2_3 : Nat), Own H_10 b_1 ([.int .i64 q1_1, .float .f32 q1_2, .float .f32 q1_3]) ∧ Own H_10 b_32 [.int .i64 q2_1, .float .f32 q2_2, .float .f32 q2_3] ∧ OwnS fF H_10 H_7.length a_74 (((p_impl_realKernel (((l_scales).getD (t35 : Int).toNat 0))).1).length) e_76 ((p_impl_realKernel (((l_scales).getD (t35 : Int).toNat 0))).1) ∧ (b_32 ≠ b_1) ∧ H_9.length ≤ H_10.length ∧ Grow H H_10 ∧ (0 : Int) ≤ t50 ∧ t50 ≤ (l_list.length : Int) ∧ (l_list.length : Int) - t50 ≤ (μ2 : Int) ∧ p_impl_PursueOnce l_list l_scales = p_impl_PursueOnce_l2 l_list l_scales t6 found t35 q1_1 q1_2 q1_3 q1_4 q1_5 q1_6 (fun (found_8 : Bool) (t50 : Int) (q2_1 : Int) (q2_2 : Nat) (q2_3 : Nat) => (p_impl_PursueOnce_l1 l_list l_scales μ t6 found_8 (t35 + 1) q1_1 q1_2 q1_3 q2_1 q2_2 q2_3)) (μ2 + 1) found_8 t50 q2_1 q2_2 q2_3) (Int.toNat ((l_list.length : Int) - (0 : Int))) _ _ H_9 ?_ ?_
            · exact ⟨_, _, _, o_83, o_85, r_77, o3, o3, g_81, o6, o6, o3, e⟩
            · intro μ2 found_8 t50  H_10 hI
              obtain ⟨q2_1, q2_2, q2_3, o_90, o_91, r_92, n_93, n_94, g_95, v_96, v_97, hμ, e⟩ := hI
              rw [impl_PursueOnce_r2]
              have e := e.trans (p_impl_PursueOnce_l2_s l_list l_scales t6 found t35 q1_1 q1_2 q1_3 q1_4 q1_5 q1_6 (fun (found_8 : Bool) (t50 : Int) (q2_1 : Int) (q2_2 : Nat) (q2_3 : Nat) => (p_impl_PursueOnce_l1 l_list l_scales μ t6 found_8 (t35 + 1) q1_1 q1_2 q1_3 q2_1 q2_2 q2_3)) μ2 found_8 t50 q2_1 q2_2 q2_3)
              have w_98 := o_90.lt
              have w_99 := o_91.lt
              have l_100 := g_95.1
              refine Br.intro (fun c_101 => ?_) (fun c_101 => ?_)
              · have e := e.trans (cond_t c_101)
                have c_101' := of_decide_eq_true c_101
                refine T_impl_atomBy_i ⟨_, r_92.isL, o0, o18, o18, o18, o18, o18, o18, fun a_102 n_103 e_104 H_11 g_107 r_105 => ?_⟩
                have z_106 := impl_atomBy_full ((p_impl_realKernel (((l_scales).getD (t35 : Int).toNat 0))).1) ((p_impl_realKernel (((l_scales).getD (t35 : Int).toNat 0))).2) (l_list.length : Int) t50 1065353216
                have l_108 := g_107.1
                have g_109 := g_95.trans g_107
                have l_110 := g_109.1
                have o_111 := o_90.grow g_107
                have w_112 := o_111.lt
                have o_113 := o_91.grow g_107
                have w_114 := o_113.lt
                have r_115 := r_92.grow g_107
                obtain rfl := r_105.isL.eqn
                have u_116 := r_105.up
                have u_117 := r_105.lo
                refine impl_PursueOnce_L3 _ _ _ _ _ _ _ _ _ _ _ _ _ _ _ _ _ _ _ (fun (μ3 : Nat) (q : Nat) (t60 : Int) (H_12 : AHeap) => ∃ (q3_1 : Int), ∃ (q3_2 : Nat), ∃ (q3_3 : Nat), Own H_12 b_1 ([.int .i64 q1_1, .float .f32 q1_2, .float .f32 q1_3]) ∧ Own H_12 b_32 [.int .i64 q3_1, .float .f32 q3_2, .float .f32 q3_3] ∧ OwnS fF H_12 H_7.length a_74 (((p_impl_realKernel (((l_scales).getD (t35 : Int).toNat 0))).1).length) e_76 ((p_impl_realKernel (((l_scales).getD (t35 : Int).toNat 0))).1) ∧ OwnS fF H_12 H_10.length a_102 (((p_impl_atomBy ((p_impl_realKernel (((l_scales).getD (t35 : Int).toNat 0))).1) ((p_impl_realKernel (((l_scales).getD (t35 : Int).toNat 0))).2) (l_list.length : Int) t50 1065353216)).length) e_104 ((p_impl_atomBy ((p_impl_realKernel (((l_scales).getD (t35 : Int).toNat 0))).1) ((p_impl_realKernel (((l_scales).getD (t35 : Int).toNat 0))).2) (l_list.length : Int) t50 1065353216)) ∧ (b_32 ≠ b_1) ∧ H_9.length ≤ H_12.length ∧ H_11.length ≤ H_12.length ∧ Grow H H_12 ∧ (0 : Int) ≤ t60 ∧ t60 ≤ (((p_impl_atomBy ((p_impl_realKernel (((l_scales).getD (t35 : Int).toNat 0))).1) ((p_impl_realKernel (((l_scales).getD (t35 : Int).toNat 0))).2) (l_list.length : Int) t50 1065353216)).length : Int) ∧ (((p_impl_atomBy ((p_impl_realKernel (((l_scales).getD (t35 : Int).toNat 0))).1) ((p_impl_realKernel (((l_scales).getD (t35 : Int).toNat 0))).2) (l_list.length : Int) t50 1065353216)).length : Int) - t60 ≤ (μ3 : Int) ∧ p_impl_PursueOnce l_list l_scales = p_impl_PursueOnce_l3 l_list l_scales t6 found t35 q1_1 q1_2 q1_3 q1_4 q1_5 q1_6 found_8 t50 q2_1 q2_2 q2_3 (fun (q : Nat) (t60 : Int) (q3_1 : Int) (q3_2 : Nat) (q3_3 : Nat) => (bif !found_8 then (p_impl_PursueOnce_l2 l_list l_scales t6 found t35 q1_1 q1_2 q1_3 q1_4 q1_5 q1_6 (fun (found_8 : Bool) (t50 : Int) (q2_1 : Int) (q2_2 : Nat) (q2_3 : Nat) => (p_impl_PursueOnce_l1 l_list l_scales μ t6 found_8 (t35 + 1) q1_1 q1_2 q1_3 q2_1 q2_2 q2_3)) μ2 true (t50 + 1) t50 (((l_scales).getD (t35 : Int).toNat 0)) q) else (bif flt .f32 (p_impl_size q3_3) (p_impl_size q) then (p_impl_PursueOnce_l2 l_list l_scales t6 found t35 q1_1 q1_2 q1_3 q1_4 q1_5 q1_6 (fun (found_8 : Bool) (t50 : Int) (q2_1 : Int) (q2_2 : Nat) (q2_3 : Nat) => (p_impl_PursueOnce_l1 l_list l_scales μ t6 found_8 (t35 + 1) q1_1 q1_2 q1_3 q2_1 q2_2 q2_3)) μ2 true (t50 + 1) t50 (((l_scales).getD (t35 : Int).toNat 0)) q) else (p_impl_PursueOnce_l2 l_list l_scales t6 found t35 q1_1 q1_2 q1_3 q1_4 q1_5 q1_6 (fun (found_8 : Bool) (t50 : Int) (q2_1 : Int) (q2_2 : Nat) (q2_3 : Nat) => (p_impl_PursueOnce_l1 l_list l_scales μ t6 found_8 (t35 + 1) q1_1 q1_2 q1_3 q2_1 q2_2 q2_3)) μ2 found_8 (t50 + 1) q3_1 q3_2 q3_3)))) (μ3 + 1) q t60 q3_1 q3_2 q3_3) (Int.toNat ((((p_impl_atomBy ((p_impl_realKernel (((l_scales).getD (t35 : Int).toNat 0))).1) ((p_impl_realKernel (((l_scales).getD (t35 : Int).toNat 0))).2) (l_list.length : Int) t50 1065353216)).length : Int) - (0 : Int))) _ _ H_11 ?_ ?_
                · exact ⟨_, _, _, o_111, o_113, r_115, r_105, o3, o3, o3, g_109, o6, o6, o3, e⟩
                · intro μ3 q t60  H_12 hI
                  obtain ⟨q3_1, q3_2, q3_3, o_119, o_120, r_121, r_122, n_123, n_124, n_125, g_126, v_127, v_128, hμ, e⟩ := hI
                  rw [impl_PursueOnce_r3]
                  have e := e.trans (p_impl_PursueOnce_l3_s l_list l_scales t6 found t35 q1_1 q1_2 q1_3 q1_4 q1_5 q1_6 found_8 t50 q2_1 q2_2 q2_3 (fun (q : Nat) (t60 : Int) (q3_1 : Int) (q3_2 : Nat) (q3_3 : Nat) => (bif !found_8 then (p_impl_PursueOnce_l2 l_list l_scales t6 found t35 q1_1 q1_2 q1_3 q1_4 q1_5 q1_6 (fun (found_8 : Bool) (t50 : Int) (q2_1 : Int) (q2_2 : Nat) (q2_3 : Nat) => (p_impl_PursueOnce_l1 l_list l_scales μ t6 found_8 (t35 + 1) q1_1 q1_2 q1_3 q2_1 q2_2 q2_3)) μ2 true (t50 + 1) t50 (((l_scales).getD (t35 : Int).toNat 0)) q) else (bif flt .f32 (p_impl_size q3_3) (p_impl_size q) then (p_impl_PursueOnce_l2 l_list l_scales t6 found t35 q1_1 q1_2 q1_3 q1_4 q1_5 q1_6 (fun (found_8 : Bool) (t50 : Int) (q2_1 : Int) (q2_2 : Nat) (q2_3 : Nat) => (p_impl_PursueOnce_l1 l_list l_scales μ t6 found_8 (t35 + 1) q1_1 q1_2 q1_3 q2_1 q2_2 q2_3)) μ2 true (t50 + 1) t50 (((l_scales).getD (t35 : Int).toNat 0)) q) else (p_impl_PursueOnce_l2 l_list l_scales t6 found t35 q1_1 q1_2 q1_3 q1_4 q1_5 q1_6 (fun (found_8 : Bool) (t50 : Int) (q2_1 : Int) (q2_2 : Nat) (q2_3 : Nat) => (p_impl_PursueOnce_l1 l_list l_scales μ t6 found_8 (t35 + 1) q1_1 q1_2 q1_3 q2_1 q2_2 q2_3)) μ2 found_8 (t50 + 1) q3_1 q3_2 q3_3)))) μ3 q t60 q3_1 q3_2 q3_3)
                  have w_129 := o_119.lt
                  have w_130 := o_120.lt
                  have l_131 := g_126.1
                  refine Br.intro (fun c_132 => ?_) (fun c_132 => ?_)
                  · have e := e.trans (cond_t c_132)
                    have c_132' := of_decide_eq_true c_132
                    obtain ⟨b_133, f_134, q_135⟩ := (r_122.isL).pos o0
                    refine ⟨by omega, by omega, b_133, f_134, q_135, ?_⟩
                    refine ⟨(((p_impl_atomBy ((p_impl_realKernel (((l_scales).getD (t35 : Int).toNat 0))).1) ((p_impl_realKernel (((l_scales).getD (t35 : Int).toNat 0))).2) (l_list.length : Int) t50 1065353216)).getD (t60 : Int).toNat 0), (r_122.isL).rd (Grow.refl _) q_135 o3 _, ?_⟩
                    obtain ⟨b_136, f_137, q_138⟩ := ((i_list.grow g_126)).pos o0
                    refine ⟨by omega, by omega, b_136, f_137, q_138, ?_⟩
                    refine ⟨((l_list).getD (t60 : Int).toNat 0), (i_list).rd g_126 q_138 o3 _, ?_⟩
                    rw [show IntKind.wrap .i64 (t60 + 1) = (t60 + 1) from wrap64 o3 o3]
                    refine impl_PursueOnce_n3 (μ3 - 1) o12 ⟨_, _, _, o_119, o_120, r_121, r_122, o3, o3, o3, g_126, o1, o1, o12, (by rw [show μ3 - 1 + 1 = μ3 from by first | omega]; exact e)⟩
                  · have e := e.trans (cond_f c_132)
                    have c_132' := of_decide_eq_false c_132
                    rw [impl_PursueOnce_x3_4]
                    refine Br.intro (fun c_139 => ?_) (fun c_139 => ?_)
                    · have e := e.trans (cond_t c_139)
                      have c_139n := nf_of_t c_139
                      refine Lt.setN (n := 3) o_120 (Nat.le_of_ble_eq_true rfl) rfl (fun H_13 hl_140 o_142 k_141 => ?_)
                      have o_142 : Own H_13 b_32 [.int .i64 t50, .float .f32 (((l_scales).getD (t35 : Int).toNat 0)), .float .f32 q] := o_142
                      have l_143 := k_141.1
                      have g_144 := g_126.keep (b := b_32) o3 k_141
                      have l_145 := g_144.1
                      have o_146 := o_119.keep o3 k_141
                      have w_147 := o_146.lt
                      have r_148 := r_121.keep u_87 o3 k_141
                      have r_149 := r_122.keep u_116 o3 k_141
                      have w_150 := o_142.lt
                      rw [show IntKind.wrap .i64 (t50 + 1) = (t50 + 1) from wrap64 o3 o3]
                      refine impl_PursueOnce_n2 (μ2 - 1) o12 ⟨_, _, _, o_146, o_142, r_148, o3, o3, g_144, o1, o1, o12, (by rw [show μ2 - 1 + 1 = μ2 from by first | omega]; exact e)⟩
                    · have e := e.trans (cond_f c_139)
                      have c_139n := nt_of_f c_139
                      refine T_impl_size_i ?_
                      refine ⟨q3_3, (o_120.rdC _).trans rfl, ?_⟩
                      refine T_impl_size_i ?_
                      refine Br.intro (fun c_151 => ?_) (fun c_151 => ?_)
                      · have e := e.trans (cond_t c_151)
                        refine Lt.setN (n := 3) o_120 (Nat.le_of_ble_eq_true rfl) rfl (fun H_14 hl_152 o_154 k_153 => ?_)
                        have o_154 : Own H_14 b_32 [.int .i64 t50, .float .f32 (((l_scales).getD (t35 : Int).toNat 0)), .float .f32 q] := o_154
                        have l_155 := k_153.1
                        have g_156 := g_126.keep (b := b_32) o3 k_153
                        have l_157 := g_156.1
                        have o_158 := o_119.keep o3 k_153
                        have w_159 := o_158.lt
                        have r_160 := r_121.keep u_87 o3 k_153
                        have r_161 := r_122.keep u_116 o3 k_153
                        have w_162 := o_154.lt
                        rw [show IntKind.wrap .i64 (t50 + 1) = (t50 + 1) from wrap64 o3 o3]
                        refine impl_PursueOnce_n2 (μ2 - 1) o12 ⟨_, _, _, o_158, o_154, r_160, o3, o3, g_156, o1, o1, o12, (by rw [show μ2 - 1 + 1 = μ2 from by first | omega]; exact e)⟩
                      · have e := e.trans (cond_f c_151)
                        rw [show IntKind.wrap .i64 (t50 + 1) = (t50 + 1) from wrap64 o3 o3]
                        refine impl_PursueOnce_n2 (μ2 - 1) o12 ⟨_, _, _, o_119, o_120, r_121, o3, o3, g_126, o1, o1, o12, (by rw [show μ2 - 1 + 1 = μ2 from by first | omega]; exact e)⟩
              · have e := e.trans (cond_f c_101)
                have c_101' := of_decide_eq_false c_101
                rw [impl_PursueOnce_x2_2]
                rw [show IntKind.wrap .i64 (t35 + 1) = (t35 + 1) from wrap64 o3 o3]
                refine impl_PursueOnce_n1 (μ - 1) o12 ⟨_, _, _, _, _, _, _, o_90, o_91, o3, g_95, o1, o1, o12, (by rw [show μ - 1 + 1 = μ from by first | omega]; exact e)⟩
        · have e := e.trans (cond_f c_60)
          have c_60' := of_decide_eq_false c_60
          rw [impl_PursueOnce_x1_0]
          refine ⟨q1_4, q1_5, q1_6, (o_52.rdN (Nat.le_of_ble_eq_true rfl)).trans rfl, ?_⟩
          refine T_impl_AtomList_i (fun a_163 n_164 e_165 H_15 g_168 r_166 => ?_)
          have z_167 := impl_AtomList_len (l_list.length : Int) q1_4 q1_5 q1_6
          have l_169 := g_168.1
          have g_170 := g_54.trans g_168
          have l_171 := g_170.1
          have o_172 := o_51.grow g_168
          have w_173 := o_172.lt
          have o_174 := o_52.grow g_168
          have w_175 := o_174.lt
          obtain rfl := r_166.isL.eqn
          have u_176 := r_166.up
          have u_177 := r_166.lo
          refine Br.intro (fun c_179 => ?_) (fun c_179 => ?_)
          · have e := e.trans (cond_t c_179)
            have c_179n := nf_of_t c_179
            refine Lt.setN (n := 3) o_172 (Nat.le_of_ble_eq_true rfl) rfl (fun H_16 hl_180 o_182 k_181 => ?_)
            have o_182 : Own H_16 b_1 [.int .i64 0, .float .f32 0, .float .f32 0] := o_182
            have l_183 := k_181.1
            have g_184 := g_170.keep (b := b_1) o3 k_181
            have l_185 := g_184.1
            have o_186 := o_174.keep o3 k_181
            have w_187 := o_186.lt
            have r_188 := r_166.keep u_176 o3 k_181
            have w_189 := o_182.lt
            refine ⟨0, 0, 0, (o_182.rdN (Nat.le_of_ble_eq_true rfl)).trans rfl, ?_⟩
            rw [e] at hk
            exact hk _ _ _ H_16 g_184 o13
          · have e := e.trans (cond_f c_179)
            have c_179n := nt_of_f c_179
            refine Al.intro (fun b_190 H_17 hb_191 hl_192 g_193 o_194 => ?_)
            have o_194 : Own H_17 b_190 ((([] : List Nat)).map fF) := o_194
            have l_196 := g_193.1
            have g_197 := g_170.trans g_193
            have l_198 := g_197.1
            have o_199 := o_172.grow g_193
            have w_200 := o_199.lt
            have o_201 := o_174.grow g_193
            have w_202 := o_201.lt
            have r_203 := r_166.grow g_193
            have w_310 := o_194.lt
            refine impl_PursueOnce_L4 _ _ _ _ _ _ _ _ (fun (μ4 : Nat) (rest_a : Option Addr) (rest_n : Nat) (rest_e : Nat) (t103 : Int) (H_18 : AHeap) => ∃ (l_rest : List Nat), ∃ (b_204 : Nat), ∃ (q4_1 : Int), ∃ (q4_2 : Nat), ∃ (q4_3 : Nat), rest_a = some ⟨b_204, 0, none⟩ ∧ rest_n = l_rest.length ∧ rest_e = 1 ∧ Own H_18 b_204 (l_rest.map fF) ∧ Own H_18 b_1 [.int .i64 q4_1, .float .f32 q4_2, .float .f32 q4_3] ∧ Own H_18 b_32 ([.int .i64 q1_4, .float .f32 q1_5, .float .f32 q1_6]) ∧ OwnS fF H_18 H_7.length a_163 (((p_impl_AtomList (l_list.length : Int) q1_4 q1_5 q1_6).1).length) e_165 ((p_impl_AtomList (l_list.length : Int) q1_4 q1_5 q1_6).1) ∧ (b_32 ≠ b_1) ∧ (b_204 ≠ b_1) ∧ (b_204 ≠ b_32) ∧ H_15.length ≤ H_18.length ∧ (b_204 < H_7.length ∨ H_15.length ≤ b_204) ∧ Grow H H_18 ∧ H.length ≤ b_204 ∧ (0 : Int) ≤ t103 ∧ t103 ≤ (l_list.length : Int) ∧ (l_rest.length : Int) ≤ t103 - (0 : Int) + 0 ∧ (l_list.length : Int) - t103 ≤ (μ4 : Int) ∧ p_impl_PursueOnce l_list l_scales = p_impl_PursueOnce_l4 l_list l_scales t6 found t35 q1_1 q1_2 q1_3 q1_4 q1_5 q1_6 (fun (l_rest : List Nat) (t103 : Int) (q4_1 : Int) (q4_2 : Nat) (q4_3 : Nat) => (bif !((p_impl_areFinite ([l_rest]))) then ((0 : Int), 0, 0, [], false) else (q1_4, q1_5, q1_6, l_rest, true))) (μ4 + 1) l_rest t103 q4_1 q4_2 q4_3) (Int.toNat ((l_list.length : Int) - (0 : Int))) _ _ _ _ H_17 ?_ ?_
            · exact ⟨_, _, _, _, _, rfl, o8, rfl, o_194, o_199, o_201, r_203, o3, o3, o3, o3, o3, g_197, o3, o6, o6, o6, o3, e⟩
            · intro μ4 rest_a rest_n rest_e t103  H_18 hI
              obtain ⟨l_rest, b_204, q4_1, q4_2, q4_3, rfl, rfl, rfl, o_205, o_206, o_207, r_208, n_209, n_210, n_211, n_212, n_213, g_214, l_215, v_216, v_217, v_218, hμ, e⟩ := hI
              rw [impl_PursueOnce_r4]
              have e := e.trans (p_impl_PursueOnce_l4_s l_list l_scales t6 found t35 q1_1 q1_2 q1_3 q1_4 q1_5 q1_6 (fun (l_rest : List Nat) (t103 : Int) (q4_1 : Int) (q4_2 : Nat) (q4_3 : Nat) => (bif !((p_impl_areFinite ([l_rest]))) then ((0 : Int), 0, 0, [], false) else (q1_4, q1_5, q1_6, l_rest, true))) μ4 l_rest t103 q4_1 q4_2 q4_3)
              have hz := impl_AtomList_full (by assumption)
              have w_219 := o_206.lt
              have w_220 := o_207.lt
              have w_221 := o_205.lt
              have l_222 := g_214.1
              refine Br.intro (fun c_223 => ?_) (fun c_223 => ?_)
              · have e := e.trans (cond_t c_223)
                have c_223' := of_decide_eq_true c_223
                obtain ⟨b_224, f_225, q_226⟩ := ((i_list.grow g_214)).pos o0
                refine ⟨by omega, by omega, b_224, f_225, q_226, ?_⟩
                refine ⟨((l_list).getD (t103 : Int).toNat 0), (i_list).rd g_214 q_226 o3 _, ?_⟩
                obtain ⟨b_227, f_228, q_229⟩ := (r_208.isL).pos o0
                refine ⟨by omega, by omega, b_227, f_228, q_229, ?_⟩
                refine ⟨(((p_impl_AtomList (l_list.length : Int) q1_4 q1_5 q1_6).1).getD (t103 : Int).toNat 0), (r_208.isL).rd (Grow.refl _) q_229 o3 _, ?_⟩
                refine Al.intro (fun b_230 H_19 hb_231 hl_232 g_233 o_234 => ?_)
                have o_234 : Own H_19 b_230 (([(fsub .f32 (((l_list).getD (t103 : Int).toNat 0)) ((((p_impl_AtomList (l_list.length : Int) q1_4 q1_5 q1_6).1).getD (t103 : Int).toNat 0)))]).map fF) := o_234
                have l_236 := g_233.1
                have g_237 := g_214.trans g_233
                have l_238 := g_237.1
                have o_239 := o_206.grow g_233
                have w_240 := o_239.lt
                have o_241 := o_207.grow g_233
                have w_242 := o_241.lt
                have o_243 := o_205.grow g_233
                have w_244 := o_243.lt
                have r_245 := r_208.grow g_233
                have w_263 := o_234.lt
                refine ⟨_, _, o_243.ownB o10 rfl, (isl_rdS (o_234.isL o8)), (fun h => by cases h), o28, ?_⟩
                refine Ap.app o_243 rfl rfl (fun b_250 H_20 q_261 hl_246 o_247 k_248 => ?_)
                have o_247 := map_snoc o_247
                have l_251 := k_248.1
                have g_252 := g_237.keep (b := b_204) o3 k_248
                have l_253 := g_252.1
                have o_254 := o_239.keep o3 k_248
                have w_255 := o_254.lt
                have o_256 := o_241.keep o3 k_248
                have w_257 := o_256.lt
                have o_258 := o_234.keep o3 k_248
                have w_259 := o_258.lt
                have r_260 := r_245.keep u_176 o3 k_248
                have w_262 := o_247.lt
                rw [show IntKind.wrap .i64 (t103 + 1) = (t103 + 1) from wrap64 o3 o3]
                refine impl_PursueOnce_n4 (μ4 - 1) o12 ⟨_, _, _, _, _, rfl, o9, rfl, o_247, o_254, o_256, r_260, o3, o3, o3, o3, o3, g_252, o3, o1, o1, o1, o12, (by rw [show μ4 - 1 + 1 = μ4 from by first | omega]; exact e)⟩
              · have e := e.trans (cond_f c_223)
                have c_223' := of_decide_eq_false c_223
                rw [impl_PursueOnce_x4_6]
                refine Al.intro (fun b_264 H_21 hb_265 hl_266 g_267 o_268 => ?_)
                have l_270 := g_267.1
                have g_271 := g_214.trans g_267
                have l_272 := g_271.1
                have o_273 := o_206.grow g_267
                have w_274 := o_273.lt
                have o_275 := o_207.grow g_267
                have w_276 := o_275.lt
                have o_277 := o_205.grow g_267
                have w_278 := o_277.lt
                have r_279 := r_208.grow g_267
                have w_309 := o_268.lt
                refine T_impl_areFinite_i ⟨[l_rest], ⟨_, o_268.rdAll rfl, LLc.cons (o_277.isL o8) (LLc.nil _ _)⟩, o0, (by first | assumption | (intro y hy; simp only [List.mem_cons, List.not_mem_nil, or_false] at hy; first | omega | (subst hy; omega) | (rcases hy with rfl | rfl <;> omega) | (rcases hy with rfl | rfl | rfl <;> omega))), ?_⟩
                refine Br.intro (fun c_280 => ?_) (fun c_280 => ?_)
                · have e := e.trans (cond_t c_280)
                  have c_280n := nf_of_t c_280
                  refine Lt.setN (n := 3) o_273 (Nat.le_of_ble_eq_true rfl) rfl (fun H_22 hl_281 o_283 k_282 => ?_)
                  have o_283 : Own H_22 b_1 [.int .i64 0, .float .f32 0, .float .f32 0] := o_283
                  have l_284 := k_282.1
                  have g_285 := g_271.keep (b := b_1) o3 k_282
                  have l_286 := g_285.1
                  have o_287 := o_275.keep o3 k_282
                  have w_288 := o_287.lt
                  have o_289 := o_277.keep o3 k_282
                  have w_290 := o_289.lt
                  have o_291 := o_268.keep o3 k_282
                  have w_292 := o_291.lt
                  have r_293 := r_279.keep u_176 o3 k_282
                  have w_294 := o_283.lt
                  refine ⟨0, 0, 0, (o_283.rdN (Nat.le_of_ble_eq_true rfl)).trans rfl, ?_⟩
                  rw [e] at hk
                  exact hk _ _ _ H_22 g_285 o13
                · have e := e.trans (cond_f c_280)
                  have c_280n := nt_of_f c_280
                  refine ⟨q1_4, q1_5, q1_6, (o_275.rdN (Nat.le_of_ble_eq_true rfl)).trans rfl, ?_⟩
                  refine Lt.setN (n := 3) o_273 (Nat.le_of_ble_eq_true rfl) rfl (fun H_23 hl_295 o_297 k_296 => ?_)
                  have o_297 : Own H_23 b_1 [.int .i64 q1_4, .float .f32 q1_5, .float .f32 q1_6] := o_297
                  have l_298 := k_296.1
                  have g_299 := g_271.keep (b := b_1) o3 k_296
                  have l_300 := g_299.1
                  have o_301 := o_275.keep o3 k_296
                  have w_302 := o_301.lt
                  have o_303 := o_277.keep o3 k_296
                  have w_304 := o_303.lt
                  have o_305 := o_268.keep o3 k_296
                  have w_306 := o_305.lt
                  have r_307 := r_279.keep u_176 o3 k_296
                  have w_308 := o_297.lt
                  refine ⟨q1_4, q1_5, q1_6, (o_297.rdN (Nat.le_of_ble_eq_true rfl)).trans rfl, ?_⟩
                  rw [e] at hk
                  exact hk _ _ _ H_23 g_299 (o_303.ownS o8 o3)
theorem impl_PursueOnce_ok : FnOk Try.prog 45 S_impl_PursueOnce := by
  refine FnOk.body mix_ok E_impl_PursueOnce_ok Try.func45 rfl (by kernel_rfl) (by kernel_rfl) ?_ ?_ ?_ ?_ ?_
  · intro args H K K' h hk
    simp only [S_impl_PursueOnce] at *
    unfold F_impl_PursueOnce at *
    split at hk
    · obtain ⟨l_list, l_scales, i_list, i_scales, bd_314, bd_315, k⟩ := hk
      exact ⟨l_list, l_scales, i_list, i_scales, bd_314, bd_315, (fun r2_a r2_n r2_e H' gg ow0 => h _ _ (k r2_a r2_n r2_e H' gg ow0))⟩
    · exact hk.elim
  · intro hq; cases hq
  · intro args H K hk
    simp only [S_impl_PursueOnce] at *
    unfold F_impl_PursueOnce at *
    split at hk
    · obtain ⟨l_list, l_scales, i_list, i_scales, bd_314, bd_315, k⟩ := hk
      exact liveS fun a n e H1 g o => ⟨_, _, k a n e H1 g o⟩
    · exact hk.elim
  · intro _ args H K hk
    simp only [S_impl_PursueOnce] at *
    unfold F_impl_PursueOnce at *
    split at hk
    · obtain ⟨l_list, l_scales, i_list, i_scales, bd_314, bd_315, k⟩ := hk
      exact ⟨l_list, l_scales, i_list, i_scales, bd_314, bd_315, (fun r2_a r2_n r2_e H' gg ow0 => ⟨gg, k r2_a r2_n r2_e H' gg ow0⟩)⟩
    · exact hk.elim
  · have mm := @impl_PursueOnce_main
    have ml := fun (args : List Value) (H : AHeap) (K : Value → AHeap → Prop) => bodyL_body (P := Try.prog) (env := E_impl_PursueOnce ) (fn := Try.f45) (args := args) (H := H) (K := K) E_impl_PursueOnce_ok 
    revert mm ml
    generalize bodyK Try.prog E_impl_PursueOnce Try.f45 = Q
    generalize bodyL Try.prog E_impl_PursueOnce Try.f45 = QL
    intro mm ml args H K hk
    simp only [S_impl_PursueOnce] at *
    unfold F_impl_PursueOnce at *
    split at hk
    · exact ml _ H K (mm _ _ _ _ _ _ H K hk)
    · exact hk.elim

def p_impl_Pursue_l2 (l_list : List Nat) (l_scales : List Nat) (count : Int) (t8 : Bool) (t32 : Int) (k2_2 : Bool → (List (Int × Nat × Nat)) → (List Nat) → Int → ((List (Int × Nat × Nat)) × (List Nat) × Bool)) : Nat → Bool → (List (Int × Nat × Nat)) → (List Nat) → Int → (List (Int × Nat × Nat)) × (List Nat) × Bool
  | 0, _, _, _, _ => ([], [], false)
  | μ2 + 1, t8_8, l_atoms, l_rest, t44 => (bif decide ((t44 : Int) < count) then (bif !((p_impl_PursueOnce l_rest l_scales).2.2.2.2) then ([], [], false) else (p_impl_Pursue_l2 l_list l_scales count t8 t32 k2_2 μ2 t8_8 ((l_atoms ++ [(((p_impl_PursueOnce l_rest l_scales).1 : Int), ((p_impl_PursueOnce l_rest l_scales).2.1), ((p_impl_PursueOnce l_rest l_scales).2.2.1))])) ((p_impl_PursueOnce l_rest l_scales).2.2.2.1) (t44 + 1))) else (k2_2 t8_8 l_atoms l_rest t44))
def p_impl_Pursue_l2_s := fun l_list l_scales count t8 t32 k2_2 μ2 t8_8 l_atoms l_rest t44 => @p_impl_Pursue_l2.eq_2 l_list l_scales count t8 t32 k2_2 t8_8 l_atoms l_rest t44 μ2
def p_impl_Pursue_l1 (l_list : List Nat) (l_scales : List Nat) (count : Int) : Nat → Bool → Int → (List (Int × Nat × Nat)) × (List Nat) × Bool
  | 0, _, _ => ([], [], false)
  | μ + 1, t8, t32 => (bif decide ((t32 : Int) < (l_scales.length : Int)) then (bif !((p_impl_isScale (((l_scales).getD (t32 : Int).toNat 0)))) then ([], [], false) else (p_impl_Pursue_l1 l_list l_scales count μ t8 (t32 + 1))) else (p_impl_Pursue_l2 l_list l_scales count t8 t32 (fun (t8_8 : Bool) (l_atoms : List (Int × Nat × Nat)) (l_rest : List Nat) (t44 : Int) => (l_atoms, l_rest, true)) (Int.toNat (count - (0 : Int)) + 1) t8 (([] : List (Int × Nat × Nat))) (p_impl_copyOf l_list) (0 : Int)))
def p_impl_Pursue_l1_s := fun l_list l_scales count μ t8 t32 => @p_impl_Pursue_l1.eq_2 l_list l_scales count t8 t32 μ
def p_impl_Pursue (l_list : List Nat) (l_scales : List Nat) (count : Int) : (List (Int × Nat × Nat)) × (List Nat) × Bool := (bif !(p_impl_isLong l_list) then ([], [], false) else (bif !((p_impl_within (l_scales.length : Int) (1 : Int) (12 : Int))) then ([], [], false) else (bif !((p_impl_within count (0 : Int) (16 : Int))) then ([], [], false) else (p_impl_Pursue_l1 l_list l_scales count (Int.toNat ((l_scales.length : Int) - (0 : Int)) + 1) false (0 : Int)))))
def p_impl_Pursue_eq := @p_impl_Pursue.eq_1
def T_impl_Pursue (list_a : Option Addr) (list_n : Nat) (list_e : Nat) (scales_a : Option Addr) (scales_n : Nat) (scales_e : Nat) (count : Int) (H : AHeap) (K : (Option Addr) → Nat → Nat → (Option Addr) → Nat → Nat → Bool → AHeap → Prop) : Prop := ∃ (l_list : List Nat), ∃ (l_scales : List Nat), IsL fF H list_a list_n l_list ∧ IsL fF H scales_a scales_n l_scales ∧ l_list.length < 1073741824 ∧ l_scales.length < 1073741824 ∧ ((∀ (r1_a : Option Addr) (r1_n r1_e : Nat), ∀ (r2_a : Option Addr) (r2_n r2_e : Nat), ∀ H' : AHeap, Grow H H' → OwnT fA H' H.length r1_a r1_n r1_e ((p_impl_Pursue l_list l_scales count).1) → OwnS fF H' H.length r2_a r2_n r2_e ((p_impl_Pursue l_list l_scales count).2.1) → SepA r1_a r2_a → K r1_a r1_n r1_e r2_a r2_n r2_e ((p_impl_Pursue l_list l_scales count).2.2) H'))
theorem T_impl_Pursue_i {list_a : Option Addr} {list_n : Nat} {list_e : Nat} {scales_a : Option Addr} {scales_n : Nat} {scales_e : Nat} {count : Int} {H : AHeap} {K : (Option Addr) → Nat → Nat → (Option Addr) → Nat → Nat → Bool → AHeap → Prop} (h : ∃ (l_list : List Nat), ∃ (l_scales : List Nat), IsL fF H list_a list_n l_list ∧ IsL fF H scales_a scales_n l_scales ∧ l_list.length < 1073741824 ∧ l_scales.length < 1073741824 ∧ ((∀ (r1_a : Option Addr) (r1_n r1_e : Nat), ∀ (r2_a : Option Addr) (r2_n r2_e : Nat), ∀ H' : AHeap, Grow H H' → OwnT fA H' H.length r1_a r1_n r1_e ((p_impl_Pursue l_list l_scales count).1) → OwnS fF H' H.length r2_a r2_n r2_e ((p_impl_Pursue l_list l_scales count).2.1) → SepA r1_a r2_a → K r1_a r1_n r1_e r2_a r2_n r2_e ((p_impl_Pursue l_list l_scales count).2.2) H'))) : T_impl_Pursue list_a list_n list_e scales_a scales_n scales_e count H K := h
def PR (N : Nat) (r : (List (Int × Nat × Nat)) × (List Nat) × Bool) : Prop := r.1.length ≤ 16 ∧ r.2.1.length ≤ N
theorem impl_Pursue_l2_len (l sc : List Nat) (c : Int) (t8 : Bool) (t32 : Int) (hc : c ≤ 16) : ∀ (μ : Nat) (t : Bool) (a : List (Int × Nat × Nat)) (r : List Nat) (k : Int), (a.length : Int) ≤ k → k ≤ 16 → r.length ≤ l.length →
    PR l.length (p_impl_Pursue_l2 l sc c t8 t32 (fun (t8_8 : Bool) (l_atoms : List (Int × Nat × Nat)) (l_rest : List Nat) (t44 : Int) => (l_atoms, l_rest, true)) μ t a r k) := by
  intro μ
  induction μ with
  | zero => intro t a r k h1 h2 h3; exact ⟨Nat.zero_le _, Nat.zero_le _⟩
  | succ μ ih =>
    intro t a r k h1 h2 h3
    rw [p_impl_Pursue_l2_s]
    refine cnb (P := PR l.length) (fun hk => ?_) (fun _ => ⟨by show a.length ≤ 16; omega, h3⟩)
    have hk := of_decide_eq_true hk
    refine cnb (P := PR l.length) (fun _ => ⟨Nat.zero_le _, Nat.zero_le _⟩) (fun _ => ?_)
    exact ih _ _ _ _ o25 o3 (Nat.le_trans (impl_PursueOnce_len _ _) h3)
theorem impl_Pursue_len (l sc : List Nat) (c : Int) : (p_impl_Pursue l sc c).1.length ≤ 16 ∧ (p_impl_Pursue l sc c).2.1.length ≤ l.length := by
  have z : PR l.length ([], [], false) := ⟨Nat.zero_le _, Nat.zero_le _⟩
  have go : ∀ (hc : c ≤ 16) (μ : Nat) (t : Bool) (k : Int), PR l.length (p_impl_Pursue_l1 l sc c μ t k) := by
    intro hc μ
    induction μ with
    | zero => intro t k; exact z
    | succ μ ih =>
      intro t k
      rw [p_impl_Pursue_l1_s]
      refine cnb (P := PR l.length) (fun _ => cnb (P := PR l.length) (fun _ => z) (fun _ => ih _ _)) (fun _ => ?_)
      exact impl_Pursue_l2_len l sc c _ _ hc _ _ _ _ _ (by rw [List.length_nil]; decide) o23 (by rw [impl_copyOf_is]; exact Nat.le_refl _)
  rw [p_impl_Pursue_eq]
  refine cnb (P := PR l.length) (fun _ => z) (fun _ => cnb (P := PR l.length) (fun _ => z) (fun _ => cnb (P := PR l.length) (fun _ => z) (fun hc => ?_)))
  have hc := within_t (nt_of_f hc)
  exact go hc.2 _ _ _
/-! impl_Pursue: function 48 -/
def E_impl_Pursue : Env := envOf [(75, S_impl_isLong), (54, S_impl_within), (55, S_impl_isScale), (82, S_impl_copyOf), (45, S_impl_PursueOnce)]
def F_impl_Pursue : List Value → AHeap → (Value → AHeap → Prop) → Prop
  | [.slice list_a list_n list_e, .slice scales_a scales_n scales_e, .int .i64 count], H, K => T_impl_Pursue list_a list_n list_e scales_a scales_n scales_e count H fun (r1_a : Option Addr) (r1_n : Nat) (r1_e : Nat) (r2_a : Option Addr) (r2_n : Nat) (r2_e : Nat) (r3 : Bool) (H' : AHeap) => K (.tuple #[.slice r1_a r1_n r1_e, .slice r2_a r2_n r2_e, .bool r3]) H'
  | _, _, _ => False
def S_impl_Pursue : FSpec := { F := F_impl_Pursue, quiet := false, tame := true }
theorem impl_Pursue_vc (list_a : Option Addr) (list_n : Nat) (list_e : Nat) (scales_a : Option Addr) (scales_n : Nat) (scales_e : Nat) (count : Int) (H : AHeap) (K : Value → AHeap → Prop) : bodyL Try.prog E_impl_Pursue Try.f48 [.slice list_a list_n list_e, .slice scales_a scales_n scales_e, .int .i64 count] H K =
  (T_impl_isLong list_a list_n list_e H fun (r1 : Bool) (H1 : AHeap) => Br (!r1) (K (.tuple #[.slice none 0 0, .slice none 0 0, .bool false]) H1) (T_impl_within (scales_n : Int) 1 12 H1 fun (r2 : Bool) (H2 : AHeap) => Br (!r2) (K (.tuple #[.slice none 0 0, .slice none 0 0, .bool false]) H2) (T_impl_within count 0 16 H2 fun (r3 : Bool) (H3 : AHeap) => Br (!r3) (K (.tuple #[.slice none 0 0, .slice none 0 0, .bool false]) H3) (loopK (exL Try.prog E_impl_Pursue (cl (cl (cr (cl (cr (cr (bodyC Try.f48))))))) 7516192775 448 [(0, 7)]) [.slice list_a list_n list_e, .slice scales_a scales_n scales_e, .int .i64 count, ud, ud, ud, ud, ud, ud, ud, ud, ud, ud, ud, ud, ud, ud, ud, ud, ud, ud, ud, ud, ud, ud, ud, ud, ud, ud, ud, .slice scales_a scales_n scales_e, .int .i64 (scales_n : Int), .int .i64 0, ud, ud, ud, ud, ud, ud, ud, ud, ud, ud, ud, ud, ud, ud, ud, ud, ud, ud, ud, ud, ud, ud, ud, ud, ud, ud, ud, ud, ud, ud] H3 (blockQ 0 (seqQ (exL Try.prog E_impl_Pursue (cr (cr (cr (bodyC Try.f48)))) 448 448 []) (retK Try.prog Try.f48 K))))))) := by kernel_rfl
abbrev impl_Pursue_P1 (count : Int) (list_a : Option Addr) (list_e : Nat) (list_n : Nat) (scales_a : Option Addr) (scales_e : Nat) (scales_n : Nat) (t32 : Int)  : List Value := [.slice list_a list_n list_e, .slice scales_a scales_n scales_e, .int .i64 count, ud, ud, ud, ud, ud, ud, ud, ud, ud, ud, ud, ud, ud, ud, ud, ud, ud, ud, ud, ud, ud, ud, ud, ud, ud, ud, ud, .slice scales_a scales_n scales_e, .int .i64 (scales_n : Int), .int .i64 t32, ud, ud, ud, ud, ud, ud, ud, ud, ud, ud, ud, ud, ud, ud, ud, ud, ud, ud, ud, ud, ud, ud, ud, ud, ud, ud, ud, ud, ud, ud]
theorem impl_Pursue_r1 (count : Int) (list_a : Option Addr) (list_e : Nat) (list_n : Nat) (scales_a : Option Addr) (scales_e : Nat) (scales_n : Nat) (t32 : Int)  (H : AHeap) (R : Post) : exL Try.prog E_impl_Pursue (cl (cl (cr (cl (cr (cr (bodyC Try.f48))))))) 7516192775 448 [(0, 7)] (impl_Pursue_P1 count list_a list_e list_n scales_a scales_e scales_n t32) H R =
  (Br (decide ((t32 : Int) < (scales_n : Int))) ((0 : Int) ≤ t32 ∧ t32 < (scales_n : Int) ∧ ∃ b1 f1, (scales_a : Option Addr) = some ⟨b1, f1, none⟩ ∧ ∃ x1 : Nat,  rdC H b1 (f1 + (t32 : Int).toNat * 1) = some (.float .f32 x1) ∧ T_impl_isScale x1 H fun (r4 : Bool) (H4 : AHeap) => Br (!r4) (R .ret [ud, ud, ud, ud, ud, ud, .slice none 0 0, .slice none 0 0, .bool false, ud, ud, ud, ud, ud, ud, ud, ud, ud, ud, ud, ud, ud, ud, ud, ud, ud, ud, ud, ud, ud, ud, ud, ud, ud, ud, ud, ud, ud, ud, ud, ud, ud, ud, ud, ud, ud, ud, ud, ud, ud, ud, ud, ud, ud, ud, ud, ud, ud, ud, ud, ud, ud, ud] H4) (R .normal [.slice list_a list_n list_e, .slice scales_a scales_n scales_e, .int .i64 count, ud, ud, ud, ud, ud, ud, ud, ud, ud, ud, ud, ud, ud, ud, ud, ud, ud, ud, ud, ud, ud, ud, ud, ud, ud, ud, ud, .slice scales_a scales_n scales_e, .int .i64 (scales_n : Int), .int .i64 (IntKind.wrap .i64 (t32 + 1)), ud, ud, ud, ud, ud, ud, ud, ud, ud, ud, ud, ud, ud, ud, ud, ud, ud, ud, ud, ud, ud, ud, ud, ud, ud, ud, ud, ud, ud, ud] H4)) (R (.exit 0) [.slice list_a list_n list_e, .slice scales_a scales_n scales_e, .int .i64 count, ud, ud, ud, ud, ud, ud, ud, ud, ud, ud, ud, ud, ud, ud, ud, ud, ud, ud, ud, ud, ud, ud, ud, ud, ud, ud, ud, ud, ud, ud, ud, ud, ud, ud, ud, ud, ud, ud, ud, ud, ud, ud, ud, ud, ud, ud, ud, ud, ud, ud, ud, ud, ud, ud, ud, ud, ud, ud, ud, ud] H)) := by kernel_rfl
def impl_Pursue_I1 (count : Int) (list_a : Option Addr) (list_e : Nat) (list_n : Nat) (scales_a : Option Addr) (scales_e : Nat) (scales_n : Nat) (Inv : Nat → Int → AHeap → Prop) : Nat → List Value → AHeap → Prop := fun μ tm H => ∃ (t32 : Int), tm = (impl_Pursue_P1 count list_a list_e list_n scales_a scales_e scales_n t32) ∧ Inv μ t32 H
theorem impl_Pursue_L1 (count : Int) (list_a : Option Addr) (list_e : Nat) (list_n : Nat) (scales_a : Option Addr) (scales_e : Nat) (scales_n : Nat) {Q : Post} (Inv : Nat → Int → AHeap → Prop) (ν : Nat) (t32 : Int)  (H : AHeap) (h0 : Inv ν t32 H)
    (hs : ∀ (μ : Nat) (t32 : Int)  (H : AHeap), Inv μ t32 H → exL Try.prog E_impl_Pursue (cl (cl (cr (cl (cr (cr (bodyC Try.f48))))))) 7516192775 448 [(0, 7)] (impl_Pursue_P1 count list_a list_e list_n scales_a scales_e scales_n t32) H (loopQ (impl_Pursue_I1 count list_a list_e list_n scales_a scales_e scales_n Inv) μ Q)) : loopK (exL Try.prog E_impl_Pursue (cl (cl (cr (cl (cr (cr (bodyC Try.f48))))))) 7516192775 448 [(0, 7)]) (impl_Pursue_P1 count list_a list_e list_n scales_a scales_e scales_n t32) H Q :=
  ⟨impl_Pursue_I1 count list_a list_e list_n scales_a scales_e scales_n Inv, ν, ⟨t32, rfl, h0⟩, fun μ tm H h => by obtain ⟨t32, rfl, hI⟩ := h; exact hs μ t32  H hI⟩
theorem impl_Pursue_n1 {count : Int} {list_a : Option Addr} {list_e : Nat} {list_n : Nat} {scales_a : Option Addr} {scales_e : Nat} {scales_n : Nat} {Q : Post} {Inv : Nat → Int → AHeap → Prop} {μ : Nat} (μ' : Nat) {t32 : Int}  {H : AHeap} (hm : μ' < μ) (hI : Inv μ' t32 H) : loopQ (impl_Pursue_I1 count list_a list_e list_n scales_a scales_e scales_n Inv) μ Q .normal (impl_Pursue_P1 count list_a list_e list_n scales_a scales_e scales_n t32) H := ⟨μ', hm, t32, rfl, hI⟩
theorem impl_Pursue_x1_0 (count : Int) (list_a : Option Addr) (list_e : Nat) (list_n : Nat) (scales_a : Option Addr) (scales_e : Nat) (scales_n : Nat) (H : AHeap) (K : Value → AHeap → Prop)  {I : Nat → List Value → AHeap → Prop} {μ : Nat} : loopQ I μ (blockQ 0 (seqQ (exL Try.prog E_impl_Pursue (cr (cr (cr (bodyC Try.f48)))) 448 448 []) (retK Try.prog Try.f48 K))) (.exit 0) [.slice list_a list_n list_e, .slice scales_a scales_n scales_e, .int .i64 count, ud, ud, ud, ud, ud, ud, ud, ud, ud, ud, ud, ud, ud, ud, ud, ud, ud, ud, ud, ud, ud, ud, ud, ud, ud, ud, ud, ud, ud, ud, ud, ud, ud, ud, ud, ud, ud, ud, ud, ud, ud, ud, ud, ud, ud, ud, ud, ud, ud, ud, ud, ud, ud, ud, ud, ud, ud, ud, ud, ud] H =
  (Al [] H fun b2 H5 => T_impl_copyOf list_a list_n list_e H5 fun (a1 : Option Addr) (r5 : Nat) (r6 : Nat) (H6 : AHeap) => loopK (exL Try.prog E_impl_Pursue (cl (cl (cr (cl (cr (cr (cr (cr (bodyC Try.f48))))))))) 26388279072770 448 [(2, 6144)]) [ud, .slice scales_a scales_n scales_e, ud, ud, ud, ud, ud, ud, ud, ud, ud, .slice (some ⟨b2, 0, none⟩) 0 3, .slice a1 r5 r6, ud, ud, ud, ud, ud, ud, ud, ud, ud, ud, ud, ud, ud, ud, ud, ud, ud, ud, ud, ud, ud, ud, ud, ud, ud, ud, ud, ud, ud, ud, .int .i64 count, .int .i64 0, ud, ud, ud, ud, ud, ud, ud, ud, ud, ud, ud, ud, ud, ud, ud, ud, ud, ud] H6 (blockQ 2 (seqQ (exL Try.prog E_impl_Pursue (cr (cr (cr (cr (cr (bodyC Try.f48)))))) 448 448 []) (retK Try.prog Try.f48 K)))) := by kernel_rfl
theorem impl_Pursue_x1_ret (t6_a : Option Addr) (t6_n : Nat) (t6_e : Nat) (t7_a : Option Addr) (t7_n : Nat) (t7_e : Nat) (t8 : Bool) (H : AHeap) (K : Value → AHeap → Prop)  {I : Nat → List Value → AHeap → Prop} {μ : Nat} : loopQ I μ (blockQ 0 (seqQ (exL Try.prog E_impl_Pursue (cr (cr (cr (bodyC Try.f48)))) 448 448 []) (retK Try.prog Try.f48 K))) .ret [ud, ud, ud, ud, ud, ud, .slice t6_a t6_n t6_e, .slice t7_a t7_n t7_e, .bool t8, ud, ud, ud, ud, ud, ud, ud, ud, ud, ud, ud, ud, ud, ud, ud, ud, ud, ud, ud, ud, ud, ud, ud, ud, ud, ud, ud, ud, ud, ud, ud, ud, ud, ud, ud, ud, ud, ud, ud, ud, ud, ud, ud, ud, ud, ud, ud, ud, ud, ud, ud, ud, ud, ud] H =
  (K (.tuple #[.slice t6_a t6_n t6_e, .slice t7_a t7_n t7_e, .bool t8]) H) := by kernel_rfl
abbrev impl_Pursue_P2 (count : Int) (scales_a : Option Addr) (scales_e : Nat) (scales_n : Nat) (atoms_a : Option Addr) (atoms_n : Nat) (atoms_e : Nat) (rest_a : Option Addr) (rest_n : Nat) (rest_e : Nat) (t44 : Int)  : List Value := [ud, .slice scales_a scales_n scales_e, ud, ud, ud, ud, ud, ud, ud, ud, ud, .slice atoms_a atoms_n atoms_e, .slice rest_a rest_n rest_e, ud, ud, ud, ud, ud, ud, ud, ud, ud, ud, ud, ud, ud, ud, ud, ud, ud, ud, ud, ud, ud, ud, ud, ud, ud, ud, ud, ud, ud, ud, .int .i64 count, .int .i64 t44, ud, ud, ud, ud, ud, ud, ud, ud, ud, ud, ud, ud, ud, ud, ud, ud, ud, ud]
theorem impl_Pursue_r2 (count : Int) (scales_a : Option Addr) (scales_e : Nat) (scales_n : Nat) (atoms_a : Option Addr) (atoms_n : Nat) (atoms_e : Nat) (rest_a : Option Addr) (rest_n : Nat) (rest_e : Nat) (t44 : Int)  (H : AHeap) (R : Post) : exL Try.prog E_impl_Pursue (cl (cl (cr (cl (cr (cr (cr (cr (bodyC Try.f48))))))))) 26388279072770 448 [(2, 6144)] (impl_Pursue_P2 count scales_a scales_e scales_n atoms_a atoms_n atoms_e rest_a rest_n rest_e t44) H R =
  (Br (decide ((t44 : Int) < count)) (T_impl_PursueOnce rest_a rest_n rest_e scales_a scales_n scales_e H fun (r7 : Int) (r8 : Nat) (r9 : Nat) (a2 : Option Addr) (r10 : Nat) (r11 : Nat) (r12 : Bool) (H7 : AHeap) => Al [.int .i64 0, .float .f32 0, .float .f32 0] H7 fun b3 H8 => isOwn H8 b3 ∧ (∃ l, rdN H8 b3 0 3 = some l) ∧ Lt (setN H8 b3 0 [.int .i64 r7, .float .f32 r8, .float .f32 r9]) fun H9 => Br (!r12) (R .ret [ud, ud, ud, ud, ud, ud, .slice none 0 0, .slice none 0 0, .bool false, ud, ud, ud, ud, ud, ud, ud, ud, ud, ud, ud, ud, ud, ud, ud, ud, ud, ud, ud, ud, ud, ud, ud, ud, ud, ud, ud, ud, ud, ud, ud, ud, ud, ud, ud, ud, ud, ud, ud, ud, ud, ud, ud, ud, ud, ud, ud, ud, ud, ud, ud, ud, ud, ud] H9) (∃ c1 : Int, ∃ c2 : Nat, ∃ c3 : Nat,  rdN H9 b3 0 3 = some [.int .i64 c1, .float .f32 c2, .float .f32 c3] ∧ Al [.int .i64 c1, .float .f32 c2, .float .f32 c3] H9 fun b4 H10 => ∃ o1 w1 : List Value, ownB H10 atoms_a atoms_n atoms_e 3 = some o1 ∧ rdS H10 (some ⟨b4, 0, none⟩) (1 * 3) = some w1 ∧ ((atoms_a : Option Addr) = none → 0 < (1 : Nat)) ∧ (atoms_n : Nat) + 1 < most ∧ Ap H10 (killB H10 atoms_a ++ [some ⟨o1 ++ w1, true⟩]) fun b5 H11 => R .normal [ud, .slice scales_a scales_n scales_e, ud, ud, ud, ud, ud, ud, ud, ud, ud, .slice (some ⟨b5, 0, none⟩) (atoms_n + 1) 3, .slice a2 r10 r11, ud, ud, ud, ud, ud, ud, ud, ud, ud, ud, ud, ud, ud, ud, ud, ud, ud, ud, ud, ud, ud, ud, ud, ud, ud, ud, ud, ud, ud, ud, .int .i64 count, .int .i64 (IntKind.wrap .i64 (t44 + 1)), ud, ud, ud, ud, ud, ud, ud, ud, ud, ud, ud, ud, ud, ud, ud, ud, ud, ud] H11)) (R (.exit 2) [ud, ud, ud, ud, ud, ud, ud, ud, ud, ud, ud, .slice atoms_a atoms_n atoms_e, .slice rest_a rest_n rest_e, ud, ud, ud, ud, ud, ud, ud, ud, ud, ud, ud, ud, ud, ud, ud, ud, ud, ud, ud, ud, ud, ud, ud, ud, ud, ud, ud, ud, ud, ud, ud, ud, ud, ud, ud, ud, ud, ud, ud, ud, ud, ud, ud, ud, ud, ud, ud, ud, ud, ud] H)) := by kernel_rfl
def impl_Pursue_I2 (count : Int) (scales_a : Option Addr) (scales_e : Nat) (scales_n : Nat) (Inv : Nat → (Option Addr) → Nat → Nat → (Option Addr) → Nat → Nat → Int → AHeap → Prop) : Nat → List Value → AHeap → Prop := fun μ tm H => ∃ (atoms_a : Option Addr), ∃ (atoms_n : Nat), ∃ (atoms_e : Nat), ∃ (rest_a : Option Addr), ∃ (rest_n : Nat), ∃ (rest_e : Nat), ∃ (t44 : Int), tm = (impl_Pursue_P2 count scales_a scales_e scales_n atoms_a atoms_n atoms_e rest_a rest_n rest_e t44) ∧ Inv μ atoms_a atoms_n atoms_e rest_a rest_n rest_e t44 H
theorem impl_Pursue_L2 (count : Int) (scales_a : Option Addr) (scales_e : Nat) (scales_n : Nat) {Q : Post} (Inv : Nat → (Option Addr) → Nat → Nat → (Option Addr) → Nat → Nat → Int → AHeap → Prop) (ν : Nat) (atoms_a : Option Addr) (atoms_n : Nat) (atoms_e : Nat) (rest_a : Option Addr) (rest_n : Nat) (rest_e : Nat) (t44 : Int)  (H : AHeap) (h0 : Inv ν atoms_a atoms_n atoms_e rest_a rest_n rest_e t44 H)
    (hs : ∀ (μ : Nat) (atoms_a : Option Addr) (atoms_n : Nat) (atoms_e : Nat) (rest_a : Option Addr) (rest_n : Nat) (rest_e : Nat) (t44 : Int)  (H : AHeap), Inv μ atoms_a atoms_n atoms_e rest_a rest_n rest_e t44 H → exL Try.prog E_impl_Pursue (cl (cl (cr (cl (cr (cr (cr (cr (bodyC Try.f48))))))))) 26388279072770 448 [(2, 6144)] (impl_Pursue_P2 count scales_a scales_e scales_n atoms_a atoms_n atoms_e rest_a rest_n rest_e t44) H (loopQ (impl_Pursue_I2 count scales_a scales_e scales_n Inv) μ Q)) : loopK (exL Try.prog E_impl_Pursue (cl (cl (cr (cl (cr (cr (cr (cr (bodyC Try.f48))))))))) 26388279072770 448 [(2, 6144)]) (impl_Pursue_P2 count scales_a scales_e scales_n atoms_a atoms_n atoms_e rest_a rest_n rest_e t44) H Q :=
  ⟨impl_Pursue_I2 count scales_a scales_e scales_n Inv, ν, ⟨atoms_a, atoms_n, atoms_e, rest_a, rest_n, rest_e, t44, rfl, h0⟩, fun μ tm H h => by obtain ⟨atoms_a, atoms_n, atoms_e, rest_a, rest_n, rest_e, t44, rfl, hI⟩ := h; exact hs μ atoms_a atoms_n atoms_e rest_a rest_n rest_e t44  H hI⟩
theorem impl_Pursue_n2 {count : Int} {scales_a : Option Addr} {scales_e : Nat} {scales_n : Nat} {Q : Post} {Inv : Nat → (Option Addr) → Nat → Nat → (Option Addr) → Nat → Nat → Int → AHeap → Prop} {μ : Nat} (μ' : Nat) {atoms_a : Option Addr} {atoms_n : Nat} {atoms_e : Nat} {rest_a : Option Addr} {rest_n : Nat} {rest_e : Nat} {t44 : Int}  {H : AHeap} (hm : μ' < μ) (hI : Inv μ' atoms_a atoms_n atoms_e rest_a rest_n rest_e t44 H) : loopQ (impl_Pursue_I2 count scales_a scales_e scales_n Inv) μ Q .normal (impl_Pursue_P2 count scales_a scales_e scales_n atoms_a atoms_n atoms_e rest_a rest_n rest_e t44) H := ⟨μ', hm, atoms_a, atoms_n, atoms_e, rest_a, rest_n, rest_e, t44, rfl, hI⟩
theorem impl_Pursue_x2_2 (atoms_a : Option Addr) (atoms_n : Nat) (atoms_e : Nat) (rest_a : Option Addr) (rest_n : Nat) (rest_e : Nat) (H : AHeap) (K : Value → AHeap → Prop)  {I : Nat → List Value → AHeap → Prop} {μ : Nat} : loopQ I μ (blockQ 2 (seqQ (exL Try.prog E_impl_Pursue (cr (cr (cr (cr (cr (bodyC Try.f48)))))) 448 448 []) (retK Try.prog Try.f48 K))) (.exit 2) [ud, ud, ud, ud, ud, ud, ud, ud, ud, ud, ud, .slice atoms_a atoms_n atoms_e, .slice rest_a rest_n rest_e, ud, ud, ud, ud, ud, ud, ud, ud, ud, ud, ud, ud, ud, ud, ud, ud, ud, ud, ud, ud, ud, ud, ud, ud, ud, ud, ud, ud, ud, ud, ud, ud, ud, ud, ud, ud, ud, ud, ud, ud, ud, ud, ud, ud, ud, ud, ud, ud, ud, ud] H =
  (K (.tuple #[.slice atoms_a atoms_n atoms_e, .slice rest_a rest_n rest_e, .bool true]) H) := by kernel_rfl
theorem impl_Pursue_x2_ret (t6_a : Option Addr) (t6_n : Nat) (t6_e : Nat) (t7_a : Option Addr) (t7_n : Nat) (t7_e : Nat) (t8_8 : Bool) (H : AHeap) (K : Value → AHeap → Prop)  {I : Nat → List Value → AHeap → Prop} {μ : Nat} : loopQ I μ (blockQ 2 (seqQ (exL Try.prog E_impl_Pursue (cr (cr (cr (cr (cr (bodyC Try.f48)))))) 448 448 []) (retK Try.prog Try.f48 K))) .ret [ud, ud, ud, ud, ud, ud, .slice t6_a t6_n t6_e, .slice t7_a t7_n t7_e, .bool t8_8, ud, ud, ud, ud, ud, ud, ud, ud, ud, ud, ud, ud, ud, ud, ud, ud, ud, ud, ud, ud, ud, ud, ud, ud, ud, ud, ud, ud, ud, ud, ud, ud, ud, ud, ud, ud, ud, ud, ud, ud, ud, ud, ud, ud, ud, ud, ud, ud, ud, ud, ud, ud, ud, ud] H =
  (K (.tuple #[.slice t6_a t6_n t6_e, .slice t7_a t7_n t7_e, .bool t8_8]) H) := by kernel_rfl
theorem E_impl_Pursue_ok : ∀ g, FnOk Try.prog g (E_impl_Pursue g) := FnOk.envOf (by
  intro x hx
  simp only [List.mem_cons, List.not_mem_nil, or_false] at hx
  rcases hx with rfl | rfl | rfl | rfl | rfl
  · exact impl_isLong_ok
  · exact impl_within_ok
  · exact impl_isScale_ok
  · exact impl_copyOf_ok
  · exact impl_PursueOnce_ok)
set_option maxHeartbeats 1000000 in
theorem impl_Pursue_main (list_a : Option Addr) (list_n : Nat) (list_e : Nat) (scales_a : Option Addr) (scales_n : Nat) (scales_e : Nat) (count : Int) (H : AHeap) (K : Value → AHeap → Prop) (h : T_impl_Pursue list_a list_n list_e scales_a scales_n scales_e count H fun (r1_a : Option Addr) (r1_n : Nat) (r1_e : Nat) (r2_a : Option Addr) (r2_n : Nat) (r2_e : Nat) (r3 : Bool) (H' : AHeap) => K (.tuple #[.slice r1_a r1_n r1_e, .slice r2_a r2_n r2_e, .bool r3]) H') : bodyL Try.prog E_impl_Pursue Try.f48 [.slice list_a list_n list_e, .slice scales_a scales_n scales_e, .int .i64 count] H K := by
  rw [impl_Pursue_vc]
  obtain ⟨l_list, l_scales, i_list, i_scales, bd_131, bd_132, hk⟩ := h
  obtain rfl := i_list.eqn
  obtain rfl := i_scales.eqn
  have e : (p_impl_Pursue l_list l_scales count) = _ := rfl
  have e := e.trans (p_impl_Pursue_eq l_list l_scales count)
  have g0 := Grow.refl H
  refine T_impl_isLong_i ⟨_, (i_list.grow g0), o0, fun  H_1 g_1  => ?_⟩
  have l_2 := g_1.1
  have g_3 := g0.trans g_1
  have l_4 := g_3.1
  refine Br.intro (fun c_5 => ?_) (fun c_5 => ?_)
  · have e := e.trans (cond_t c_5)
    have c_5n := nf_of_t c_5
    rw [e] at hk
    exact hk _ _ _ _ _ _ H_1 g_3 o13 o13 (fun x y hx hy => by cases hx)
  · have e := e.trans (cond_f c_5)
    have c_5n := nt_of_f c_5
    have c_5n' := impl_isLong_t c_5n
    refine T_impl_within_i ?_
    refine Br.intro (fun c_6 => ?_) (fun c_6 => ?_)
    · have e := e.trans (cond_t c_6)
      have c_6n := nf_of_t c_6
      rw [e] at hk
      exact hk _ _ _ _ _ _ H_1 g_3 o13 o13 (fun x y hx hy => by cases hx)
    · have e := e.trans (cond_f c_6)
      have c_6n := nt_of_f c_6
      have c_6n' := impl_within_t c_6n
      refine T_impl_within_i ?_
      refine Br.intro (fun c_7 => ?_) (fun c_7 => ?_)
      · have e := e.trans (cond_t c_7)
        have c_7n := nf_of_t c_7
        rw [e] at hk
        exact hk _ _ _ _ _ _ H_1 g_3 o13 o13 (fun x y hx hy => by cases hx)
      · have e := e.trans (cond_f c_7)
        have c_7n := nt_of_f c_7
        have c_7n' := impl_within_t c_7n
        refine impl_Pursue_L1 _ _ _ _ _ _ _ (fun (μ : Nat) (t32 : Int) (H_2 : AHeap) => ∃ (t8 : Bool), Grow H H_2 ∧ (0 : Int) ≤ t32 ∧ t32 ≤ (l_scales.length : Int) ∧ (l_scales.length : Int) - t32 ≤ (μ : Int) ∧ p_impl_Pursue l_list l_scales count = p_impl_Pursue_l1 l_list l_scales count (μ + 1) t8 t32) (Int.toNat ((l_scales.length : Int) - (0 : Int))) _ H_1 ?_ ?_
        · exact ⟨_, g_3, o6, o6, o3, e⟩
        · intro μ t32  H_2 hI
          obtain ⟨t8, g_8, v_9, v_10, hμ, e⟩ := hI
          rw [impl_Pursue_r1]
          have e := e.trans (p_impl_Pursue_l1_s l_list l_scales count μ t8 t32)
          have l_11 := g_8.1
          refine Br.intro (fun c_12 => ?_) (fun c_12 => ?_)
          · have e := e.trans (cond_t c_12)
            have c_12' := of_decide_eq_true c_12
            obtain ⟨b_13, f_14, q_15⟩ := ((i_scales.grow g_8)).pos o0
            refine ⟨by omega, by omega, b_13, f_14, q_15, ?_⟩
            refine ⟨((l_scales).getD (t32 : Int).toNat 0), (i_scales).rd g_8 q_15 o3 _, ?_⟩
            refine T_impl_isScale_i ?_
            refine Br.intro (fun c_16 => ?_) (fun c_16 => ?_)
            · have e := e.trans (cond_t c_16)
              have c_16n := nf_of_t c_16
              rw [impl_Pursue_x1_ret]
              rw [e] at hk
              exact hk _ _ _ _ _ _ H_2 g_8 o13 o13 (fun x y hx hy => by cases hx)
            · have e := e.trans (cond_f c_16)
              have c_16n := nt_of_f c_16
              rw [show IntKind.wrap .i64 (t32 + 1) = (t32 + 1) from wrap64 o3 o3]
              refine impl_Pursue_n1 (μ - 1) o12 ⟨_, g_8, o1, o1, o12, (by rw [show μ - 1 + 1 = μ from by first | omega]; exact e)⟩
          · have e := e.trans (cond_f c_12)
            have c_12' := of_decide_eq_false c_12
            rw [impl_Pursue_x1_0]
            refine Al.intro (fun b_17 H_3 hb_18 hl_19 g_20 o_21 => ?_)
            have o_21 : Own H_3 b_17 ((([] : List (Int × Nat × Nat))).flatMap fA) := o_21
            have l_23 := g_20.1
            have g_24 := g_8.trans g_20
            have l_25 := g_24.1
            have w_130 := o_21.lt
            refine T_impl_copyOf_i ⟨_, (i_list.grow g_24), o0, fun a_26 n_27 e_28 H_4 g_31 r_29 => ?_⟩
            have z_30 := impl_copyOf_len l_list
            have l_32 := g_31.1
            have g_33 := g_24.trans g_31
            have l_34 := g_33.1
            have o_35 := o_21.grow g_31
            have w_36 := o_35.lt
            obtain rfl := r_29.isL.eqn
            have u_37 := r_29.up
            have u_38 := r_29.lo
            refine impl_Pursue_L2 _ _ _ _ (fun (μ2 : Nat) (atoms_a : Option Addr) (atoms_n : Nat) (atoms_e : Nat) (rest_a : Option Addr) (rest_n : Nat) (rest_e : Nat) (t44 : Int) (H_5 : AHeap) => ∃ (t8_8 : Bool), ∃ (l_atoms : List (Int × Nat × Nat)), ∃ (b_40 : Nat), ∃ (l_rest : List Nat), atoms_a = some ⟨b_40, 0, none⟩ ∧ atoms_n = l_atoms.length ∧ atoms_e = 3 ∧ Own H_5 b_40 (l_atoms.flatMap fA) ∧ rest_n = l_rest.length ∧ OwnS fF H_5 H_3.length rest_a l_rest.length rest_e l_rest ∧ H_3.length ≤ H_5.length ∧ (∀ y, rest_a = some y → y.block ≠ b_40) ∧ Grow H H_5 ∧ H.length ≤ b_40 ∧ (0 : Int) ≤ t44 ∧ ((t44 ≤ count ∨ t44 ≤ (0 : Int))) ∧ (l_atoms.length : Int) ≤ t44 - (0 : Int) + 0 ∧ l_rest.length ≤ l_list.length ∧ count - t44 ≤ (μ2 : Int) ∧ p_impl_Pursue l_list l_scales count = p_impl_Pursue_l2 l_list l_scales count t8 t32 (fun (t8_8 : Bool) (l_atoms : List (Int × Nat × Nat)) (l_rest : List Nat) (t44 : Int) => (l_atoms, l_rest, true)) (μ2 + 1) t8_8 l_atoms l_rest t44) (Int.toNat (count - (0 : Int))) _ _ _ _ _ _ _ H_4 ?_ ?_
            · exact ⟨_, _, _, _, rfl, o8, rfl, o_35, rfl, r_29, o3, (fun y hy => by have := u_37 y hy; have := u_38 y hy; omega), g_33, o3, o6, o6, o6, o6, o3, e⟩
            · intro μ2 atoms_a atoms_n atoms_e rest_a rest_n rest_e t44  H_5 hI
              obtain ⟨t8_8, l_atoms, b_40, l_rest, rfl, rfl, rfl, o_41, rfl, r_43, n_46, n_47, g_48, l_49, v_50, v_51, v_52, v_53, hμ, e⟩ := hI
              rw [impl_Pursue_r2]
              have e := e.trans (p_impl_Pursue_l2_s l_list l_scales count t8 t32 (fun (t8_8 : Bool) (l_atoms : List (Int × Nat × Nat)) (l_rest : List Nat) (t44 : Int) => (l_atoms, l_rest, true)) μ2 t8_8 l_atoms l_rest t44)
              have u_44 := r_43.up
              have u_45 := r_43.lo
              have w_54 := o_41.lt
              have l_55 := g_48.1
              refine Br.intro (fun c_56 => ?_) (fun c_56 => ?_)
              · have e := e.trans (cond_t c_56)
                have c_56' := of_decide_eq_true c_56
                refine T_impl_PursueOnce_i ⟨_, _, r_43.isL, (i_scales.grow g_48), o0, o0, fun a_57 n_58 e_59 H_6 g_62 r_60 => ?_⟩
                have z_61 := impl_PursueOnce_len l_rest l_scales
                have l_63 := g_62.1
                have g_64 := g_48.trans g_62
                have l_65 := g_64.1
                have o_66 := o_41.grow g_62
                have w_67 := o_66.lt
                have r_68 := r_43.grow g_62
                obtain rfl := r_60.isL.eqn
                have u_69 := r_60.up
                have u_70 := r_60.lo
                refine Al.intro (fun b_72 H_7 hb_73 hl_74 g_75 o_76 => ?_)
                have l_78 := g_75.1
                have g_79 := g_64.trans g_75
                have l_80 := g_79.1
                have o_81 := o_66.grow g_75
                have w_82 := o_81.lt
                have r_83 := r_68.grow g_75
                have r_84 := r_60.grow g_75
                have w_129 := o_76.lt
                refine Lt.setN (n := 3) o_76 (Nat.le_of_ble_eq_true rfl) rfl (fun H_8 hl_85 o_87 k_86 => ?_)
                have o_87 : Own H_8 b_72 [.int .i64 ((p_impl_PursueOnce l_rest l_scales).1), .float .f32 ((p_impl_PursueOnce l_rest l_scales).2.1), .float .f32 ((p_impl_PursueOnce l_rest l_scales).2.2.1)] := o_87
                have l_88 := k_86.1
                have g_89 := g_79.keep (b := b_72) o3 k_86
                have l_90 := g_89.1
                have o_91 := o_81.keep o3 k_86
                have w_92 := o_91.lt
                have r_93 := r_83.keep u_44 o3 k_86
                have r_94 := r_84.keep u_69 o3 k_86
                have w_128 := o_87.lt
                refine Br.intro (fun c_95 => ?_) (fun c_95 => ?_)
                · have e := e.trans (cond_t c_95)
                  have c_95n := nf_of_t c_95
                  rw [impl_Pursue_x2_ret]
                  rw [e] at hk
                  exact hk _ _ _ _ _ _ H_8 g_89 o13 o13 (fun x y hx hy => by cases hx)
                · have e := e.trans (cond_f c_95)
                  have c_95n := nt_of_f c_95
                  refine ⟨(p_impl_PursueOnce l_rest l_scales).1, (p_impl_PursueOnce l_rest l_scales).2.1, (p_impl_PursueOnce l_rest l_scales).2.2.1, (o_87.rdN (Nat.le_of_ble_eq_true rfl)).trans rfl, ?_⟩
                  refine Al.intro (fun b_96 H_9 hb_97 hl_98 g_99 o_100 => ?_)
                  have o_100 : Own H_9 b_96 (([(((p_impl_PursueOnce l_rest l_scales).1 : Int), ((p_impl_PursueOnce l_rest l_scales).2.1), ((p_impl_PursueOnce l_rest l_scales).2.2.1))]).flatMap fA) := o_100
                  have l_102 := g_99.1
                  have g_103 := g_89.trans g_99
                  have l_104 := g_103.1
                  have o_105 := o_91.grow g_99
                  have w_106 := o_105.lt
                  have o_107 := o_87.grow g_99
                  have w_108 := o_107.lt
                  have r_109 := r_93.grow g_99
                  have r_110 := r_94.grow g_99
                  have w_127 := o_100.lt
                  refine ⟨_, _, o_105.ownB o31 rfl, isT_rdS (o_100.isT o8), (fun h => by cases h), o28, ?_⟩
                  refine Ap.app o_105 rfl rfl (fun b_115 H_10 q_125 hl_111 o_112 k_113 => ?_)
                  have o_112 := flat_snoc o_112
                  have l_116 := k_113.1
                  have g_117 := g_103.keep (b := b_40) o3 k_113
                  have l_118 := g_117.1
                  have o_119 := o_107.keep o3 k_113
                  have w_120 := o_119.lt
                  have o_121 := o_100.keep o3 k_113
                  have w_122 := o_121.lt
                  have r_123 := r_109.keepA (fun x y hx hy => by cases hx; intro hh; exact n_47 y hy hh.symm) (OwnS.keep1 k_113)
                  have r_124 := r_110.keep u_69 o3 k_113
                  have w_126 := o_112.lt
                  rw [show IntKind.wrap .i64 (t44 + 1) = (t44 + 1) from wrap64 o3 o3]
                  refine impl_Pursue_n2 (μ2 - 1) o12 ⟨_, _, _, _, rfl, o9, rfl, o_112, rfl, (r_124.weak o3), o3, (by first | assumption | (intro y hy; have := u_69 y hy; have := u_70 y hy; omega)), g_117, o3, o1, o1, o1, o1, o12, (by rw [show μ2 - 1 + 1 = μ2 from by first | omega]; exact e)⟩
              · have e := e.trans (cond_f c_56)
                have c_56' := of_decide_eq_false c_56
                rw [impl_Pursue_x2_2]
                rw [e] at hk
                exact hk _ _ _ _ _ _ H_5 g_48 (o_41.ownT o8 o3) (r_43.weak o3) (fun x y hx hy => by cases hx; intro hh; exact n_47 y hy hh.symm)
theorem impl_Pursue_ok : FnOk Try.prog 48 S_impl_Pursue := by
  refine FnOk.body mix_ok E_impl_Pursue_ok Try.func48 rfl (by kernel_rfl) (by kernel_rfl) ?_ ?_ ?_ ?_ ?_
  · intro args H K K' h hk
    simp only [S_impl_Pursue] at *
    unfold F_impl_Pursue at *
    split at hk
    · obtain ⟨l_list, l_scales, i_list, i_scales, bd_131, bd_132, k⟩ := hk
      exact ⟨l_list, l_scales, i_list, i_scales, bd_131, bd_132, (fun r1_a r1_n r1_e r2_a r2_n r2_e H' gg ow0 ow1 sp0_1 => h _ _ (k r1_a r1_n r1_e r2_a r2_n r2_e H' gg ow0 ow1 sp0_1))⟩
    · exact hk.elim
  · intro hq; cases hq
  · intro args H K hk
    simp only [S_impl_Pursue] at *
    unfold F_impl_Pursue at *
    split at hk
    · obtain ⟨l_list, l_scales, i_list, i_scales, bd_131, bd_132, k⟩ := hk
      exact liveTS fun a n e a2 n2 e2 H1 g o o2 sp => ⟨_, _, k a n e a2 n2 e2 H1 g o o2 sp⟩
    · exact hk.elim
  · intro _ args H K hk
    simp only [S_impl_Pursue] at *
    unfold F_impl_Pursue at *
    split at hk
    · obtain ⟨l_list, l_scales, i_list, i_scales, bd_131, bd_132, k⟩ := hk
      exact ⟨l_list, l_scales, i_list, i_scales, bd_131, bd_132, (fun r1_a r1_n r1_e r2_a r2_n r2_e H' gg ow0 ow1 sp0_1 => ⟨gg, k r1_a r1_n r1_e r2_a r2_n r2_e H' gg ow0 ow1 sp0_1⟩)⟩
    · exact hk.elim
  · have mm := @impl_Pursue_main
    have ml := fun (args : List Value) (H : AHeap) (K : Value → AHeap → Prop) => bodyL_body (P := Try.prog) (env := E_impl_Pursue ) (fn := Try.f48) (args := args) (H := H) (K := K) E_impl_Pursue_ok 
    revert mm ml
    generalize bodyK Try.prog E_impl_Pursue Try.f48 = Q
    generalize bodyL Try.prog E_impl_Pursue Try.f48 = QL
    intro mm ml args H K hk
    simp only [S_impl_Pursue] at *
    unfold F_impl_Pursue at *
    split at hk
    · exact ml _ H K (mm _ _ _ _ _ _ _ H K hk)
    · exact hk.elim
def p_laws_sameFloat (a : Nat) (b : Nat) : Bool := ((bif !(feq .f64 a a) then (bif !(feq .f64 a a) then !(feq .f64 b b) else false) else (bif !(feq .f64 b b) then (bif !(feq .f64 a a) then !(feq .f64 b b) else false) else (bif feq .f64 a 0 then (bif feq .f64 b 0 then (flt .f64 0 (fdiv .f64 4607182418800017408 a)) == (flt .f64 0 (fdiv .f64 4607182418800017408 b)) else feq .f64 a b) else feq .f64 a b))))
def p_laws_sameFloat_eq := @p_laws_sameFloat.eq_1
def T_laws_sameFloat (a : Nat) (b : Nat) (H : AHeap) (K : Bool → AHeap → Prop) : Prop := K (p_laws_sameFloat a b) H

theorem T_laws_sameFloat_i {a : Nat} {b : Nat} {H : AHeap} {K : Bool → AHeap → Prop} (h : K (p_laws_sameFloat a b) H) : T_laws_sameFloat a b H K := h
/-! laws_sameFloat: function 60 -/
def E_laws_sameFloat : Env := envOf []
def F_laws_sameFloat : List Value → AHeap → (Value → AHeap → Prop) → Prop
  | [.float .f64 a, .float .f64 b], H, K => T_laws_sameFloat a b H fun (r1 : Bool) (H' : AHeap) => K (.bool r1) H'
  | _, _, _ => False
def S_laws_sameFloat : FSpec := { F := F_laws_sameFloat, quiet := true, tame := false }
theorem laws_sameFloat_vc (a : Nat) (b : Nat) (H : AHeap) (K : Value → AHeap → Prop) : bodyL Try.prog E_laws_sameFloat Try.f60 [.float .f64 a, .float .f64 b] H K =
  (Br (!(feq .f64 a a)) (Br (!(feq .f64 a a)) (K (.bool (!(feq .f64 b b))) H) (K (.bool false) H)) (Br (!(feq .f64 b b)) (Br (!(feq .f64 a a)) (K (.bool (!(feq .f64 b b))) H) (K (.bool false) H)) (Br (feq .f64 a 0) (Br (feq .f64 b 0) (K (.bool ((flt .f64 0 (fdiv .f64 4607182418800017408 a)) == (flt .f64 0 (fdiv .f64 4607182418800017408 b)))) H) (K (.bool (feq .f64 a b)) H)) (K (.bool (feq .f64 a b)) H)))) := by kernel_rfl
theorem E_laws_sameFloat_ok : ∀ g, FnOk Try.prog g (E_laws_sameFloat g) := FnOk.envOf (by
  intro x hx; cases hx)
set_option maxHeartbeats 1000000 in
theorem laws_sameFloat_main (a : Nat) (b : Nat) (H : AHeap) (K : Value → AHeap → Prop) (h : T_laws_sameFloat a b H fun (r1 : Bool) (H' : AHeap) => K (.bool r1) H') : bodyL Try.prog E_laws_sameFloat Try.f60 [.float .f64 a, .float .f64 b] H K := by
  rw [laws_sameFloat_vc]
  unfold T_laws_sameFloat p_laws_sameFloat at h
  repeat' (first | exact h | (exfalso; simp_all; done) | (refine ⟨by decide, ?_⟩) | (refine Br.intro (fun hb => ?_) (fun hb => ?_) <;> (try simp only [hb, cond_true, cond_false, Bool.not_true, Bool.not_false] at h)))
theorem laws_sameFloat_ok : FnOk Try.prog 60 S_laws_sameFloat := by
  refine FnOk.body mix_ok E_laws_sameFloat_ok Try.func60 rfl (by kernel_rfl) (by kernel_rfl) ?_ ?_ ?_ ?_ ?_
  · intro args H K K' h hk
    simp only [S_laws_sameFloat] at *
    unfold F_laws_sameFloat at *
    split at hk
    · have k := hk
      exact h _ _ k
    · exact hk.elim
  · intro _ args H K hk
    simp only [S_laws_sameFloat] at *
    unfold F_laws_sameFloat at *
    split at hk
    · have k := hk
      exact ⟨_, k, fun K' k' => k'⟩
    · exact hk.elim
  · intro args H K hk
    simp only [S_laws_sameFloat] at *
    unfold F_laws_sameFloat at *
    split at hk
    · have k := hk
      exact ⟨_, _, k⟩
    · exact hk.elim
  · intro hq; cases hq
  · have mm := @laws_sameFloat_main
    have ml := fun (args : List Value) (H : AHeap) (K : Value → AHeap → Prop) => bodyL_body (P := Try.prog) (env := E_laws_sameFloat ) (fn := Try.f60) (args := args) (H := H) (K := K) E_laws_sameFloat_ok 
    revert mm ml
    generalize bodyK Try.prog E_laws_sameFloat Try.f60 = Q
    generalize bodyL Try.prog E_laws_sameFloat Try.f60 = QL
    intro mm ml args H K hk
    simp only [S_laws_sameFloat] at *
    unfold F_laws_sameFloat at *
    split at hk
    · exact ml _ H K (mm _ _ H K hk)
    · exact hk.elim

def p_laws_eqAtom (a_Place : Int) (a_Scale : Nat) (a_Size : Nat) (b_Place : Int) (b_Scale : Nat) (b_Size : Nat) : Bool := ((bif (a_Place : Int) != b_Place then false else (bif !((p_laws_sameFloat (fwide a_Scale) (fwide b_Scale))) then false else (bif !((p_laws_sameFloat (fwide a_Size) (fwide b_Size))) then false else true))))
def p_laws_eqAtom_eq := @p_laws_eqAtom.eq_1
def T_laws_eqAtom (a_Place : Int) (a_Scale : Nat) (a_Size : Nat) (b_Place : Int) (b_Scale : Nat) (b_Size : Nat) (H : AHeap) (K : Bool → AHeap → Prop) : Prop := ((∀ H' : AHeap, Grow H H' → K (p_laws_eqAtom a_Place a_Scale a_Size b_Place b_Scale b_Size) H'))
theorem T_laws_eqAtom_i {a_Place : Int} {a_Scale : Nat} {a_Size : Nat} {b_Place : Int} {b_Scale : Nat} {b_Size : Nat} {H : AHeap} {K : Bool → AHeap → Prop} (h : ((∀ H' : AHeap, Grow H H' → K (p_laws_eqAtom a_Place a_Scale a_Size b_Place b_Scale b_Size) H'))) : T_laws_eqAtom a_Place a_Scale a_Size b_Place b_Scale b_Size H K := h

/-! laws_eqAtom: function 46 -/
def E_laws_eqAtom : Env := envOf [(60, S_laws_sameFloat)]
def F_laws_eqAtom : List Value → AHeap → (Value → AHeap → Prop) → Prop
  | [.agg ⟨[.int .i64 a_Place, .float .f32 a_Scale, .float .f32 a_Size]⟩, .agg ⟨[.int .i64 b_Place, .float .f32 b_Scale, .float .f32 b_Size]⟩], H, K => T_laws_eqAtom a_Place a_Scale a_Size b_Place b_Scale b_Size H fun (r1 : Bool) (H' : AHeap) => K (.bool r1) H'
  | _, _, _ => False
def S_laws_eqAtom : FSpec := { F := F_laws_eqAtom, quiet := false, tame := true }
theorem laws_eqAtom_vc (a_Place : Int) (a_Scale : Nat) (a_Size : Nat) (b_Place : Int) (b_Scale : Nat) (b_Size : Nat) (H : AHeap) (K : Value → AHeap → Prop) : bodyL Try.prog E_laws_eqAtom Try.f46 [.agg #[.int .i64 a_Place, .float .f32 a_Scale, .float .f32 a_Size], .agg #[.int .i64 b_Place, .float .f32 b_Scale, .float .f32 b_Size]] H K =
  (Al [.int .i64 a_Place, .float .f32 a_Scale, .float .f32 a_Size] H fun b1 H1 => Al [.int .i64 b_Place, .float .f32 b_Scale, .float .f32 b_Size] H1 fun b2 H2 => ∃ x1 : Int,  rdC H2 b1 0 = some (.int .i64 x1) ∧ ∃ x2 : Int,  rdC H2 b2 0 = some (.int .i64 x2) ∧ Br ((x1 : Int) != x2) (K (.bool false) H2) (∃ x3 : Nat,  rdC H2 b1 1 = some (.float .f32 x3) ∧ ∃ x4 : Nat,  rdC H2 b2 1 = some (.float .f32 x4) ∧ T_laws_sameFloat (fwide x3) (fwide x4) H2 fun (r1 : Bool) (H3 : AHeap) => Br (!r1) (K (.bool false) H3) (∃ x5 : Nat,  rdC H3 b1 2 = some (.float .f32 x5) ∧ ∃ x6 : Nat,  rdC H3 b2 2 = some (.float .f32 x6) ∧ T_laws_sameFloat (fwide x5) (fwide x6) H3 fun (r2 : Bool) (H4 : AHeap) => Br (!r2) (K (.bool false) H4) (K (.bool true) H4)))) := by kernel_rfl
theorem E_laws_eqAtom_ok : ∀ g, FnOk Try.prog g (E_laws_eqAtom g) := FnOk.envOf (by
  intro x hx
  simp only [List.mem_cons, List.not_mem_nil, or_false] at hx
  subst hx; exact laws_sameFloat_ok)
set_option maxHeartbeats 1000000 in
theorem laws_eqAtom_main (a_Place : Int) (a_Scale : Nat) (a_Size : Nat) (b_Place : Int) (b_Scale : Nat) (b_Size : Nat) (H : AHeap) (K : Value → AHeap → Prop) (h : T_laws_eqAtom a_Place a_Scale a_Size b_Place b_Scale b_Size H fun (r1 : Bool) (H' : AHeap) => K (.bool r1) H') : bodyL Try.prog E_laws_eqAtom Try.f46 [.agg #[.int .i64 a_Place, .float .f32 a_Scale, .float .f32 a_Size], .agg #[.int .i64 b_Place, .float .f32 b_Scale, .float .f32 b_Size]] H K := by
  rw [laws_eqAtom_vc]
  have hk := h
  unfold T_laws_eqAtom at hk
  have e : (p_laws_eqAtom a_Place a_Scale a_Size b_Place b_Scale b_Size) = _ := rfl
  have e := e.trans (p_laws_eqAtom_eq a_Place a_Scale a_Size b_Place b_Scale b_Size)
  have g0 := Grow.refl H
  refine Al.intro (fun b_1 H_1 hb_2 hl_3 g_4 o_5 => ?_)
  have l_7 := g_4.1
  have g_8 := g0.trans g_4
  have l_9 := g_8.1
  have w_25 := o_5.lt
  refine Al.intro (fun b_10 H_2 hb_11 hl_12 g_13 o_14 => ?_)
  have l_16 := g_13.1
  have g_17 := g_8.trans g_13
  have l_18 := g_17.1
  have o_19 := o_5.grow g_13
  have w_20 := o_19.lt
  have w_24 := o_14.lt
  refine ⟨a_Place, (o_19.rdC _).trans rfl, ?_⟩
  refine ⟨b_Place, (o_14.rdC _).trans rfl, ?_⟩
  refine Br.intro (fun c_21 => ?_) (fun c_21 => ?_)
  · have e := e.trans (cond_t c_21)
    have c_21' := ine_t c_21
    rw [e] at hk
    exact hk  H_2 g_17 
  · have e := e.trans (cond_f c_21)
    have c_21' := ine_f c_21
    refine ⟨a_Scale, (o_19.rdC _).trans rfl, ?_⟩
    refine ⟨b_Scale, (o_14.rdC _).trans rfl, ?_⟩
    refine T_laws_sameFloat_i ?_
    refine Br.intro (fun c_22 => ?_) (fun c_22 => ?_)
    · have e := e.trans (cond_t c_22)
      have c_22n := nf_of_t c_22
      rw [e] at hk
      exact hk  H_2 g_17 
    · have e := e.trans (cond_f c_22)
      have c_22n := nt_of_f c_22
      refine ⟨a_Size, (o_19.rdC _).trans rfl, ?_⟩
      refine ⟨b_Size, (o_14.rdC _).trans rfl, ?_⟩
      refine T_laws_sameFloat_i ?_
      refine Br.intro (fun c_23 => ?_) (fun c_23 => ?_)
      · have e := e.trans (cond_t c_23)
        have c_23n := nf_of_t c_23
        rw [e] at hk
        exact hk  H_2 g_17 
      · have e := e.trans (cond_f c_23)
        have c_23n := nt_of_f c_23
        rw [e] at hk
        exact hk  H_2 g_17 
theorem laws_eqAtom_ok : FnOk Try.prog 46 S_laws_eqAtom := by
  refine FnOk.body mix_ok E_laws_eqAtom_ok Try.func46 rfl (by kernel_rfl) (by kernel_rfl) ?_ ?_ ?_ ?_ ?_
  · intro args H K K' h hk
    simp only [S_laws_eqAtom] at *
    unfold F_laws_eqAtom at *
    split at hk
    · have k := hk
      exact fun  H' gg  => h _ _ (k  H' gg )
    · exact hk.elim
  · intro hq; cases hq
  · intro args H K hk
    simp only [S_laws_eqAtom] at *
    unfold F_laws_eqAtom at *
    split at hk
    · have k := hk
      exact ⟨_, _, k H (Grow.refl H)⟩
    · exact hk.elim
  · intro _ args H K hk
    simp only [S_laws_eqAtom] at *
    unfold F_laws_eqAtom at *
    split at hk
    · have k := hk
      exact fun  H' gg  => ⟨gg, k  H' gg ⟩
    · exact hk.elim
  · have mm := @laws_eqAtom_main
    have ml := fun (args : List Value) (H : AHeap) (K : Value → AHeap → Prop) => bodyL_body (P := Try.prog) (env := E_laws_eqAtom ) (fn := Try.f46) (args := args) (H := H) (K := K) E_laws_eqAtom_ok 
    revert mm ml
    generalize bodyK Try.prog E_laws_eqAtom Try.f46 = Q
    generalize bodyL Try.prog E_laws_eqAtom Try.f46 = QL
    intro mm ml args H K hk
    simp only [S_laws_eqAtom] at *
    unfold F_laws_eqAtom at *
    split at hk
    · exact ml _ H K (mm _ _ _ _ _ _ H K hk)
    · exact hk.elim
end Go.Proofs.Ytghkkclonabpkab.Ai
