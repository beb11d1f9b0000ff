/- What functions of the program come to on the abstract machine, and that they do so; printed by a program of mine around proofs of mine. -/
import Derived.Test.YtghkkclonabpkabFFnExactPursueOnce1
set_option linter.unusedVariables false
set_option linter.unusedSimpArgs false
set_option linter.defProp false
set_option maxRecDepth 100000
namespace Go.Proofs.Ytghkkclonabpkab.Ai
open Go
attribute [local irreducible] bodyK

def p_impl_expWide_l2 (x : Nat) (p : Nat) (k : Nat) (k2_3 : Nat → Int → Nat) : Nat → Nat → Int → Nat
  | 0, _, _ => 0
  | μ2 + 1, p_4, t25 => (bif decide ((t25 : Int) < 8) then (p_impl_expWide_l2 x p k k2_3 μ2 (fmul .f64 p_4 p_4) (t25 + 1)) else (k2_3 p_4 t25))
def p_impl_expWide_l2_s := fun x p k k2_3 μ2 p_4 t25 => @p_impl_expWide_l2.eq_2 x p k k2_3 p_4 t25 μ2
def p_impl_expWide_l1 (x : Nat) : Nat → Nat → Nat → Nat
  | 0, _, _ => 0
  | μ + 1, p, k => (bif fle .f64 4607182418800017408 k then (p_impl_expWide_l1 x μ (fadd .f64 4607182418800017408 (fdiv .f64 (fmul .f64 (fdiv .f64 x 4643211215818981376) p) k)) (fsub .f64 k 4607182418800017408)) else (p_impl_expWide_l2 x p k (fun (p_4 : Nat) (t25 : Int) => p_4) (Int.toNat (8 - (0 : Int)) + 1) p (0 : Int)))
def p_impl_expWide_l1_s := fun x μ p k => @p_impl_expWide_l1.eq_2 x p k μ
def p_impl_expWide (x : Nat) : Nat := (bif flt .f64 4641240890982006784 x then (p_math_Inf (1 : Int)) else (bif flt .f64 x 13864612927836782592 then 0 else (p_impl_expWide_l1 x (Int.toNat (cnt 4622945017495814144) + 1) 4607182418800017408 4622945017495814144)))
def p_impl_expWide_eq := @p_impl_expWide.eq_1
def T_impl_expWide (x : Nat) (H : AHeap) (K : Nat → AHeap → Prop) : Prop := K (p_impl_expWide x) H
theorem T_impl_expWide_i {x : Nat} {H : AHeap} {K : Nat → AHeap → Prop} (h : K (p_impl_expWide x) H) : T_impl_expWide x H K := h
theorem impl_expWide_sq {y P K : Nat} {k : Int} : ∀ (μ p : Nat) (i : Int), Bd .f64 1074 p → (FloatKind.f64.format.read p).neg = false → Bd .f64 1074 (p_impl_expWide_l2 y P K (fun (p : Nat) (t : Int) => p) μ p i) ∧ (FloatKind.f64.format.read (p_impl_expWide_l2 y P K (fun (p : Nat) (t : Int) => p) μ p i)).neg = false := by
  intro μ
  induction μ with
  | zero => intro p i _ _; exact ⟨⟨fin_zero _, by show (sv .f64 0).natAbs ≤ _; rw [sv_zero]; exact Nat.zero_le _⟩, by show (FloatKind.f64.format.read 0).neg = false; rw [read_zero]; rfl⟩
  | succ μ ih =>
    intro p i hp hs
    rw [p_impl_expWide_l2_s]
    cases decide (i < (8 : Int))
    · exact ⟨hp, hs⟩
    · have := Bd.mul (T := 1022) hp hp (top64 o22) o32
      rw [fb64, hs] at this
      exact ih _ _ this.1 this.2
theorem impl_expWide_ser {y : Nat} (hy : Bd .f64 (8 + 1074) y) (hn : (FloatKind.f64.format.read y).neg = true) : ∀ (μ p : Nat) (n : Int), n ≤ 12 → -1 ≤ n → Bd .f64 1074 p → (FloatKind.f64.format.read p).neg = false → Bd .f64 1074 (p_impl_expWide_l1 y μ p (FloatKind.nearest .f64 n)) := by
  intro μ
  induction μ with
  | zero => intro p n _ _ _ _; exact ⟨fin_zero _, by show (sv .f64 0).natAbs ≤ _; rw [sv_zero]; exact Nat.zero_le _⟩
  | succ μ ih =>
    intro p n h1 h0 hp hs
    rw [p_impl_expWide_l1_s]
    rw [(cnt_at (n := n) o3 o3).2.1]
    by_cases hc : (1 : Int) ≤ n
    · rw [decide_eq_true hc, cond_true]
      have t1 := Bd.div (T := 1022) (B := 1082) hy (y := 4643211215818981376) o26 o26 (top64 o22) o32
      rw [fb64, hn, show (FloatKind.f64.format.read 4643211215818981376).neg = false from by decide +kernel] at t1
      have t2 := Bd.mul (T := 1022) t1.1 hp (top64 o22) o32
      rw [fb64, t1.2, hs] at t2
      have c := cnt_sv hc o3
      have t3 := Bd.div (T := 1022) (B := 1074) t2.1 c.1 c.2.1 (top64 o22) o32
      rw [fb64, t2.2, c.2.2, show 52 + 1022 = 1074 from rfl] at t3
      have hz := sv_le_zero t3.2
      have hone : sv .f64 4607182418800017408 = 2 ^ 1074 := by decide +kernel
      have habs := t3.1.2
      generalize hq : fdiv .f64 (fmul .f64 (fdiv .f64 y 4643211215818981376) p) (FloatKind.nearest .f64 n) = q at *
      have hpow := pow_cast 1074
      have hsum : (sv .f64 4607182418800017408 + sv .f64 q).natAbs ≤ 2 ^ (FloatKind.f64.format.fractionBits + 1022) := by
        rw [hone, fb64, ← hpow, show 52 + 1022 = 1074 from rfl]
        obtain ⟨W, hW⟩ : ∃ W : Nat, W = 2 ^ 1074 := ⟨_, rfl⟩
        rw [← hW] at habs ⊢
        clear hpow hW
        omega
      have t4 := Bd.add (T := 1022) (x := 4607182418800017408) (y := q) o26 t3.1.1 (top64 o22) hsum
      rw [fb64] at t4
      have hneg : (FloatKind.f64.format.read (fadd .f64 4607182418800017408 q)).neg = false := by
        rw [t4.2]
        split
        · rw [show (FloatKind.f64.format.read 4607182418800017408).neg = false from by decide +kernel]; rfl
        · refine decide_eq_false ?_
          rw [hone, ← hpow]
          generalize (2 ^ 1074 : Nat) = W at *
          omega
      rw [(cnt_at (n := n) o3 o3).2.2.1]; exact ih _ (n - 1) o3 o3 t4.1 hneg
    · rw [decide_eq_false hc, cond_false]
      exact (impl_expWide_sq (k := 0) _ _ _ hp hs).1
theorem impl_expWide_nar {x : Nat} (hx : (FloatKind.f32.format.read x).isNaN = true ∨ (FloatKind.f32.format.read x).neg = true) : fnarrow (p_impl_expWide (fwide x)) ≠ none := by
  cases hr : FloatKind.f32.format.read x with
  | nan s t =>
    have e : fwide x = qnan .f64 := by
      unfold fwide
      rw [show FloatKind.f32.decode x = FloatKind.f32.format.read x from rfl, hr]
    rw [e]; decide +kernel
  | infinity s =>
    have hs : s = true := by
      rw [hr] at hx
      rcases hx with h | h
      · cases h
      · exact h
    have e : fwide x = FloatKind.f64.encode (.infinity true) := by
      unfold fwide
      rw [show FloatKind.f32.decode x = FloatKind.f32.format.read x from rfl, hr, hs]
    rw [e]; decide +kernel
  | number s m i =>
    have hf : fin .f32 x = true := by unfold fin; rw [hr]
    have hs : (FloatKind.f32.format.read x).neg = true := by
      rcases hx with h | h
      · rw [hr] at h; cases h
      · exact h
    have wf := wide_fin hf
    have wn := wide_neg (x := x) (fin_nn hf)
    rw [hs] at wn
    have z := sv_le_zero wn
    rw [p_impl_expWide_eq]
    
    rw [flt_fin o26 wf, flt_fin wf o26]
    have e1 : sv .f64 4641240890982006784 = 200 * 2 ^ 1074 := by decide +kernel
    have e2 : sv .f64 13864612927836782592 = -200 * 2 ^ 1074 := by decide +kernel
    have hpow := pow_cast 1074
    rw [e1, e2, ← hpow]
    have hp := Nat.two_pow_pos 1074
    rw [decide_eq_false (by generalize (2 ^ 1074 : Nat) = W at *; omega), cond_false]
    by_cases hc : sv .f64 (fwide x) < -200 * ((2 ^ 1074 : Nat) : Int)
    · rw [decide_eq_true hc, cond_true]; decide +kernel
    · rw [decide_eq_false hc, cond_false]
      have hy : Bd .f64 (8 + 1074) (fwide x) := by
        refine ⟨wf, ?_⟩
        have e3 : (2 : Nat) ^ (8 + 1074) = 2 ^ 8 * 2 ^ 1074 := Nat.pow_add 2 8 1074
        rw [e3]
        generalize (2 ^ 1074 : Nat) = W at *
        omega
      have one : Bd .f64 1074 4607182418800017408 := ⟨by decide +kernel, by decide +kernel⟩
      have e5 : (4622945017495814144 : Nat) = FloatKind.nearest .f64 12 := by decide +kernel
      have b := impl_expWide_ser hy wn (Int.toNat (cnt 4622945017495814144) + 1) 4607182418800017408 12 o22 o22 one o26
      rw [← e5] at b
      exact narrow_ok (b.mono o22)
/-! impl_expWide: function 184 -/
def E_impl_expWide : Env := envOf [(182, S_math_Inf)]
def F_impl_expWide : List Value → AHeap → (Value → AHeap → Prop) → Prop
  | [.float .f64 x], H, K => T_impl_expWide x H fun (r1 : Nat) (H' : AHeap) => K (.float .f64 r1) H'
  | _, _, _ => False
def S_impl_expWide : FSpec := { F := F_impl_expWide, quiet := true, tame := false }
theorem impl_expWide_vc (x : Nat) (H : AHeap) (K : Value → AHeap → Prop) : bodyK Try.prog E_impl_expWide Try.f184 [.float .f64 x] H K =
  (Br (flt .f64 4641240890982006784 x) (T_math_Inf 1 H fun (r1 : Nat) (H1 : AHeap) => K (.float .f64 r1) H1) (Br (flt .f64 x 13864612927836782592) (K (.float .f64 0) H) (loopK (exK Try.prog E_impl_expWide (cl (cl (cr (cl (cr (cr (cr (cr (bodyC Try.f184)))))))))) [.float .f64 x, undef, .float .f64 0, .float .f64 (fdiv .f64 x 4643211215818981376), .float .f64 4607182418800017408, .float .f64 4622945017495814144, .bool (flt .f64 4641240890982006784 x), .float .f64 x, .bool (flt .f64 4641240890982006784 x), undef, .bool (flt .f64 x 13864612927836782592), .float .f64 x, .bool (flt .f64 x 13864612927836782592), .float .f64 x, .float .f64 (fdiv .f64 x 4643211215818981376), undef, undef, undef, undef, undef, undef, undef, undef, undef, undef, undef, undef, undef, undef, undef, undef, undef] H (blockQ 1 (seqQ (exK Try.prog E_impl_expWide (cr (cr (cr (cr (cr (bodyC Try.f184))))))) (retK Try.prog Try.f184 K)))))) := by kernel_rfl
abbrev impl_expWide_P1 (x : Nat) (p : Nat) (k : Nat) (g15 g16 g17 g18 g19 g20 g21 g22 g23 g24 : Value) : List Value := [.float .f64 x, undef, .float .f64 0, .float .f64 (fdiv .f64 x 4643211215818981376), .float .f64 p, .float .f64 k, .bool (flt .f64 4641240890982006784 x), .float .f64 x, .bool (flt .f64 4641240890982006784 x), undef, .bool (flt .f64 x 13864612927836782592), .float .f64 x, .bool (flt .f64 x 13864612927836782592), .float .f64 x, .float .f64 (fdiv .f64 x 4643211215818981376), g15, g16, g17, g18, g19, g20, g21, g22, g23, g24, undef, undef, undef, undef, undef, undef, undef]
theorem impl_expWide_r1 (x : Nat) (p : Nat) (k : Nat) (g15 g16 g17 g18 g19 g20 g21 g22 g23 g24 : Value) (H : AHeap) (R : Post) : exK Try.prog E_impl_expWide (cl (cl (cr (cl (cr (cr (cr (cr (bodyC Try.f184))))))))) (impl_expWide_P1 x p k g15 g16 g17 g18 g19 g20 g21 g22 g23 g24) H R =
  (Br (fle .f64 4607182418800017408 k) (R .normal [.float .f64 x, undef, .float .f64 0, .float .f64 (fdiv .f64 x 4643211215818981376), .float .f64 (fadd .f64 4607182418800017408 (fdiv .f64 (fmul .f64 (fdiv .f64 x 4643211215818981376) p) k)), .float .f64 (fsub .f64 k 4607182418800017408), .bool (flt .f64 4641240890982006784 x), .float .f64 x, .bool (flt .f64 4641240890982006784 x), undef, .bool (flt .f64 x 13864612927836782592), .float .f64 x, .bool (flt .f64 x 13864612927836782592), .float .f64 x, .float .f64 (fdiv .f64 x 4643211215818981376), .float .f64 k, .bool (fle .f64 4607182418800017408 k), .float .f64 k, .float .f64 (fsub .f64 k 4607182418800017408), .float .f64 (fdiv .f64 x 4643211215818981376), .float .f64 p, .float .f64 (fmul .f64 (fdiv .f64 x 4643211215818981376) p), .float .f64 k, .float .f64 (fdiv .f64 (fmul .f64 (fdiv .f64 x 4643211215818981376) p) k), .float .f64 (fadd .f64 4607182418800017408 (fdiv .f64 (fmul .f64 (fdiv .f64 x 4643211215818981376) p) k)), undef, undef, undef, undef, undef, undef, undef] H) (R (.exit 1) [.float .f64 x, undef, .float .f64 0, .float .f64 (fdiv .f64 x 4643211215818981376), .float .f64 p, .float .f64 k, .bool (flt .f64 4641240890982006784 x), .float .f64 x, .bool (flt .f64 4641240890982006784 x), undef, .bool (flt .f64 x 13864612927836782592), .float .f64 x, .bool (flt .f64 x 13864612927836782592), .float .f64 x, .float .f64 (fdiv .f64 x 4643211215818981376), .float .f64 k, .bool (fle .f64 4607182418800017408 k), g17, g18, g19, g20, g21, g22, g23, g24, undef, undef, undef, undef, undef, undef, undef] H)) := by kernel_rfl
def impl_expWide_I1 (x : Nat) (Inv : Nat → Nat → Nat → AHeap → Prop) : Nat → List Value → AHeap → Prop := fun μ tm H => ∃ (p : Nat), ∃ (k : Nat), ∃ g15 g16 g17 g18 g19 g20 g21 g22 g23 g24, tm = (impl_expWide_P1 x p k g15 g16 g17 g18 g19 g20 g21 g22 g23 g24) ∧ Inv μ p k H
theorem impl_expWide_L1 (x : Nat) {Q : Post} (Inv : Nat → Nat → Nat → AHeap → Prop) (ν : Nat) (p : Nat) (k : Nat) (g15 g16 g17 g18 g19 g20 g21 g22 g23 g24 : Value) (H : AHeap) (h0 : Inv ν p k H)
    (hs : ∀ (μ : Nat) (p : Nat) (k : Nat) (g15 g16 g17 g18 g19 g20 g21 g22 g23 g24 : Value) (H : AHeap), Inv μ p k H → exK Try.prog E_impl_expWide (cl (cl (cr (cl (cr (cr (cr (cr (bodyC Try.f184))))))))) (impl_expWide_P1 x p k g15 g16 g17 g18 g19 g20 g21 g22 g23 g24) H (loopQ (impl_expWide_I1 x Inv) μ Q)) : loopK (exK Try.prog E_impl_expWide (cl (cl (cr (cl (cr (cr (cr (cr (bodyC Try.f184)))))))))) (impl_expWide_P1 x p k g15 g16 g17 g18 g19 g20 g21 g22 g23 g24) H Q :=
  ⟨impl_expWide_I1 x Inv, ν, ⟨p, k, g15, g16, g17, g18, g19, g20, g21, g22, g23, g24, rfl, h0⟩, fun μ tm H h => by obtain ⟨p, k, g15, g16, g17, g18, g19, g20, g21, g22, g23, g24, rfl, hI⟩ := h; exact hs μ p k g15 g16 g17 g18 g19 g20 g21 g22 g23 g24 H hI⟩
theorem impl_expWide_n1 {x : Nat} {Q : Post} {Inv : Nat → Nat → Nat → AHeap → Prop} {μ : Nat} (μ' : Nat) {p : Nat} {k : Nat} {g15 g16 g17 g18 g19 g20 g21 g22 g23 g24 : Value} {H : AHeap} (hm : μ' < μ) (hI : Inv μ' p k H) : loopQ (impl_expWide_I1 x Inv) μ Q .normal (impl_expWide_P1 x p k g15 g16 g17 g18 g19 g20 g21 g22 g23 g24) H := ⟨μ', hm, p, k, g15, g16, g17, g18, g19, g20, g21, g22, g23, g24, rfl, hI⟩
theorem impl_expWide_x1_1 (x : Nat) (p : Nat) (k : Nat) (g15 g16 g17 g18 g19 g20 g21 g22 g23 g24 : Value) (H : AHeap) (K : Value → AHeap → Prop)  {I : Nat → List Value → AHeap → Prop} {μ : Nat} : loopQ I μ (blockQ 1 (seqQ (exK Try.prog E_impl_expWide (cr (cr (cr (cr (cr (bodyC Try.f184))))))) (retK Try.prog Try.f184 K))) (.exit 1) (impl_expWide_P1 x p k g15 g16 g17 g18 g19 g20 g21 g22 g23 g24) H =
  (loopK (exK Try.prog E_impl_expWide (cl (cl (cr (cl (cr (cr (cr (cr (cr (bodyC Try.f184))))))))))) [.float .f64 x, undef, .float .f64 0, .float .f64 (fdiv .f64 x 4643211215818981376), .float .f64 p, .float .f64 k, .bool (flt .f64 4641240890982006784 x), .float .f64 x, .bool (flt .f64 4641240890982006784 x), undef, .bool (flt .f64 x 13864612927836782592), .float .f64 x, .bool (flt .f64 x 13864612927836782592), .float .f64 x, .float .f64 (fdiv .f64 x 4643211215818981376), g15, g16, g17, g18, g19, g20, g21, g22, g23, g24, .int .i64 0, undef, undef, undef, undef, undef, undef] H (blockQ 3 (seqQ (exK Try.prog E_impl_expWide (cr (cr (cr (cr (cr (cr (bodyC Try.f184)))))))) (retK Try.prog Try.f184 K)))) := by kernel_rfl
abbrev impl_expWide_P2 (g15 : Value) (g16 : Value) (g17 : Value) (g18 : Value) (g19 : Value) (g20 : Value) (g21 : Value) (g22 : Value) (g23 : Value) (g24 : Value) (k : Nat) (x : Nat) (p_4 : Nat) (t25 : Int) (g26 g27 g28 g29 g30 : Value) : List Value := [.float .f64 x, undef, .float .f64 0, .float .f64 (fdiv .f64 x 4643211215818981376), .float .f64 p_4, .float .f64 k, .bool (flt .f64 4641240890982006784 x), .float .f64 x, .bool (flt .f64 4641240890982006784 x), undef, .bool (flt .f64 x 13864612927836782592), .float .f64 x, .bool (flt .f64 x 13864612927836782592), .float .f64 x, .float .f64 (fdiv .f64 x 4643211215818981376), g15, g16, g17, g18, g19, g20, g21, g22, g23, g24, .int .i64 t25, g26, g27, g28, g29, g30, undef]
theorem impl_expWide_r2 (g15 : Value) (g16 : Value) (g17 : Value) (g18 : Value) (g19 : Value) (g20 : Value) (g21 : Value) (g22 : Value) (g23 : Value) (g24 : Value) (k : Nat) (x : Nat) (p_4 : Nat) (t25 : Int) (g26 g27 g28 g29 g30 : Value) (H : AHeap) (R : Post) : exK Try.prog E_impl_expWide (cl (cl (cr (cl (cr (cr (cr (cr (cr (bodyC Try.f184)))))))))) (impl_expWide_P2 g15 g16 g17 g18 g19 g20 g21 g22 g23 g24 k x p_4 t25 g26 g27 g28 g29 g30) H R =
  (Br (decide ((t25 : Int) < 8)) (R .normal [.float .f64 x, undef, .float .f64 0, .float .f64 (fdiv .f64 x 4643211215818981376), .float .f64 (fmul .f64 p_4 p_4), .float .f64 k, .bool (flt .f64 4641240890982006784 x), .float .f64 x, .bool (flt .f64 4641240890982006784 x), undef, .bool (flt .f64 x 13864612927836782592), .float .f64 x, .bool (flt .f64 x 13864612927836782592), .float .f64 x, .float .f64 (fdiv .f64 x 4643211215818981376), g15, g16, g17, g18, g19, g20, g21, g22, g23, g24, .int .i64 (IntKind.wrap .i64 (t25 + 1)), .bool (decide ((t25 : Int) < 8)), .float .f64 p_4, .float .f64 p_4, .float .f64 (fmul .f64 p_4 p_4), .int .i64 (IntKind.wrap .i64 (t25 + 1)), undef] H) (R (.exit 3) [.float .f64 x, undef, .float .f64 0, .float .f64 (fdiv .f64 x 4643211215818981376), .float .f64 p_4, .float .f64 k, .bool (flt .f64 4641240890982006784 x), .float .f64 x, .bool (flt .f64 4641240890982006784 x), undef, .bool (flt .f64 x 13864612927836782592), .float .f64 x, .bool (flt .f64 x 13864612927836782592), .float .f64 x, .float .f64 (fdiv .f64 x 4643211215818981376), g15, g16, g17, g18, g19, g20, g21, g22, g23, g24, .int .i64 t25, .bool (decide ((t25 : Int) < 8)), g27, g28, g29, g30, undef] H)) := by kernel_rfl
def impl_expWide_I2 (g15 : Value) (g16 : Value) (g17 : Value) (g18 : Value) (g19 : Value) (g20 : Value) (g21 : Value) (g22 : Value) (g23 : Value) (g24 : Value) (k : Nat) (x : Nat) (Inv : Nat → Nat → Int → AHeap → Prop) : Nat → List Value → AHeap → Prop := fun μ tm H => ∃ (p_4 : Nat), ∃ (t25 : Int), ∃ g26 g27 g28 g29 g30, tm = (impl_expWide_P2 g15 g16 g17 g18 g19 g20 g21 g22 g23 g24 k x p_4 t25 g26 g27 g28 g29 g30) ∧ Inv μ p_4 t25 H
theorem impl_expWide_L2 (g15 : Value) (g16 : Value) (g17 : Value) (g18 : Value) (g19 : Value) (g20 : Value) (g21 : Value) (g22 : Value) (g23 : Value) (g24 : Value) (k : Nat) (x : Nat) {Q : Post} (Inv : Nat → Nat → Int → AHeap → Prop) (ν : Nat) (p_4 : Nat) (t25 : Int) (g26 g27 g28 g29 g30 : Value) (H : AHeap) (h0 : Inv ν p_4 t25 H)
    (hs : ∀ (μ : Nat) (p_4 : Nat) (t25 : Int) (g26 g27 g28 g29 g30 : Value) (H : AHeap), Inv μ p_4 t25 H → exK Try.prog E_impl_expWide (cl (cl (cr (cl (cr (cr (cr (cr (cr (bodyC Try.f184)))))))))) (impl_expWide_P2 g15 g16 g17 g18 g19 g20 g21 g22 g23 g24 k x p_4 t25 g26 g27 g28 g29 g30) H (loopQ (impl_expWide_I2 g15 g16 g17 g18 g19 g20 g21 g22 g23 g24 k x Inv) μ Q)) : loopK (exK Try.prog E_impl_expWide (cl (cl (cr (cl (cr (cr (cr (cr (cr (bodyC Try.f184))))))))))) (impl_expWide_P2 g15 g16 g17 g18 g19 g20 g21 g22 g23 g24 k x p_4 t25 g26 g27 g28 g29 g30) H Q :=
  ⟨impl_expWide_I2 g15 g16 g17 g18 g19 g20 g21 g22 g23 g24 k x Inv, ν, ⟨p_4, t25, g26, g27, g28, g29, g30, rfl, h0⟩, fun μ tm H h => by obtain ⟨p_4, t25, g26, g27, g28, g29, g30, rfl, hI⟩ := h; exact hs μ p_4 t25 g26 g27 g28 g29 g30 H hI⟩
theorem impl_expWide_n2 {g15 : Value} {g16 : Value} {g17 : Value} {g18 : Value} {g19 : Value} {g20 : Value} {g21 : Value} {g22 : Value} {g23 : Value} {g24 : Value} {k : Nat} {x : Nat} {Q : Post} {Inv : Nat → Nat → Int → AHeap → Prop} {μ : Nat} (μ' : Nat) {p_4 : Nat} {t25 : Int} {g26 g27 g28 g29 g30 : Value} {H : AHeap} (hm : μ' < μ) (hI : Inv μ' p_4 t25 H) : loopQ (impl_expWide_I2 g15 g16 g17 g18 g19 g20 g21 g22 g23 g24 k x Inv) μ Q .normal (impl_expWide_P2 g15 g16 g17 g18 g19 g20 g21 g22 g23 g24 k x p_4 t25 g26 g27 g28 g29 g30) H := ⟨μ', hm, p_4, t25, g26, g27, g28, g29, g30, rfl, hI⟩
theorem impl_expWide_x2_3 (g15 : Value) (g16 : Value) (g17 : Value) (g18 : Value) (g19 : Value) (g20 : Value) (g21 : Value) (g22 : Value) (g23 : Value) (g24 : Value) (k : Nat) (x : Nat) (p_4 : Nat) (t25 : Int) (g26 g27 g28 g29 g30 : Value) (H : AHeap) (K : Value → AHeap → Prop)  {I : Nat → List Value → AHeap → Prop} {μ : Nat} : loopQ I μ (blockQ 3 (seqQ (exK Try.prog E_impl_expWide (cr (cr (cr (cr (cr (cr (bodyC Try.f184)))))))) (retK Try.prog Try.f184 K))) (.exit 3) (impl_expWide_P2 g15 g16 g17 g18 g19 g20 g21 g22 g23 g24 k x p_4 t25 g26 g27 g28 g29 g30) H =
  (K (.float .f64 p_4) H) := by kernel_rfl
theorem E_impl_expWide_ok : ∀ g, FnOk Try.prog g (E_impl_expWide g) := FnOk.envOf (by
  intro x hx
  simp only [List.mem_cons, List.not_mem_nil, or_false] at hx
  subst hx; exact math_Inf_ok)
theorem o17 {P : Prop} (h : P := by first | omega | (have := down1 (by assumption) (by assumption); omega)) : P := h
set_option maxHeartbeats 1000000 in
theorem impl_expWide_main (x : Nat) (H : AHeap) (K : Value → AHeap → Prop) (h : T_impl_expWide x H fun (r1 : Nat) (H' : AHeap) => K (.float .f64 r1) H') : bodyK Try.prog E_impl_expWide Try.f184 [.float .f64 x] H K := by
  rw [impl_expWide_vc]
  have hk := h
  unfold T_impl_expWide at hk
  have e : (p_impl_expWide x) = _ := rfl
  have e := e.trans (p_impl_expWide_eq x)
  have g0 := Grow.refl H
  refine Br.intro (fun c_1 => ?_) (fun c_1 => ?_)
  · have e := e.trans (cond_t c_1)
    refine T_math_Inf_i ?_
    rw [e] at hk
    exact hk
  · have e := e.trans (cond_f c_1)
    refine Br.intro (fun c_2 => ?_) (fun c_2 => ?_)
    · have e := e.trans (cond_t c_2)
      rw [e] at hk
      exact hk
    · have e := e.trans (cond_f c_2)
      refine impl_expWide_L1 _ (fun (μ : Nat) (p : Nat) (k : Nat) (H_1 : AHeap) => H = H_1 ∧ isCnt k ∧ cnt k ≤ (μ : Int) ∧ p_impl_expWide x = p_impl_expWide_l1 x (μ + 1) p k) (Int.toNat (cnt 4622945017495814144)) _ _ _ _ _ _ _ _ _ _ _ _ H ?_ ?_
      · exact ⟨rfl, (by first | omega | (simp; done) | (simp; omega) | (first | exact isCnt.of (n := 12) (by decide) (by decide) | exact (down1 (by assumption) (by assumption)).1)), o3, e⟩
      · intro μ p k g15 g16 g17 g18 g19 g20 g21 g22 g23 g24 H_1 hI
        obtain ⟨rfl, v_3, hμ, e⟩ := hI
        rw [impl_expWide_r1]
        have e := e.trans (p_impl_expWide_l1_s x μ p k)
        have l_4 := g0.1
        refine Br.intro (fun c_5 => ?_) (fun c_5 => ?_)
        · have e := e.trans (cond_t c_5)
          refine impl_expWide_n1 (μ - 1) o17 ⟨rfl, (by first | omega | (first | exact isCnt.of (n := 12) (by decide) (by decide) | exact (down1 (by assumption) (by assumption)).1) | (simp only [List.length_append, List.length_cons, List.length_nil, List.length_set]; done) | (simp only [List.length_append, List.length_cons, List.length_nil, List.length_set]; omega)), o17, (by rw [show μ - 1 + 1 = μ from by first | omega | (have := down1 (by assumption) (by assumption); omega)]; exact e)⟩
        · have e := e.trans (cond_f c_5)
          rw [impl_expWide_x1_1]
          refine impl_expWide_L2 _ _ _ _ _ _ _ _ _ _ _ _ (fun (μ2 : Nat) (p_4 : Nat) (t25 : Int) (H_2 : AHeap) => H = H_2 ∧ (0 : Int) ≤ t25 ∧ ((t25 ≤ 8 ∨ t25 ≤ (0 : Int))) ∧ 8 - t25 ≤ (μ2 : Int) ∧ p_impl_expWide x = p_impl_expWide_l2 x p k (fun (p_4 : Nat) (t25 : Int) => p_4) (μ2 + 1) p_4 t25) (Int.toNat (8 - (0 : Int))) _ _ _ _ _ _ _ H ?_ ?_
          · exact ⟨rfl, o6, o6, o3, e⟩
          · intro μ2 p_4 t25 g26 g27 g28 g29 g30 H_2 hI
            obtain ⟨rfl, v_6, v_7, hμ, e⟩ := hI
            rw [impl_expWide_r2]
            have e := e.trans (p_impl_expWide_l2_s x p k (fun (p_4 : Nat) (t25 : Int) => p_4) μ2 p_4 t25)
            have l_8 := g0.1
            refine Br.intro (fun c_9 => ?_) (fun c_9 => ?_)
            · have e := e.trans (cond_t c_9)
              have c_9' := of_decide_eq_true c_9
              rw [show IntKind.wrap .i64 (t25 + 1) = (t25 + 1) from wrap64 o3 o3]
              refine impl_expWide_n2 (μ2 - 1) o11 ⟨rfl, o1, o1, o11, (by rw [show μ2 - 1 + 1 = μ2 from by first | omega]; exact e)⟩
            · have e := e.trans (cond_f c_9)
              have c_9' := of_decide_eq_false c_9
              rw [impl_expWide_x2_3]
              rw [e] at hk
              exact hk
theorem impl_expWide_ok : FnOk Try.prog 184 S_impl_expWide := by
  refine FnOk.body mix_ok E_impl_expWide_ok Try.func184 rfl (by kernel_rfl) (by kernel_rfl) ?_ ?_ ?_ ?_ ?_
  · intro args H K K' h hk
    simp only [S_impl_expWide] at *
    unfold F_impl_expWide at *
    split at hk
    · have k := hk
      exact h _ _ k
    · exact hk.elim
  · intro _ args H K hk
    simp only [S_impl_expWide] at *
    unfold F_impl_expWide at *
    split at hk
    · have k := hk
      exact ⟨_, k, fun K' k' => k'⟩
    · exact hk.elim
  · intro args H K hk
    simp only [S_impl_expWide] at *
    unfold F_impl_expWide at *
    split at hk
    · have k := hk
      exact ⟨_, _, k⟩
    · exact hk.elim
  · intro hq; cases hq
  · have mm := @impl_expWide_main
    revert mm
    generalize bodyK Try.prog E_impl_expWide Try.f184 = Q
    intro mm args H K hk
    simp only [S_impl_expWide] at *
    unfold F_impl_expWide at *
    split at hk
    · exact mm _ H K hk
    · exact hk.elim

def p_impl_expOf (x : Nat) : Nat := (p_impl_expWide (fwide x))
def p_impl_expOf_eq := @p_impl_expOf.eq_1
def T_impl_expOf (x : Nat) (H : AHeap) (K : Nat → AHeap → Prop) : Prop := K (p_impl_expOf x) H
theorem T_impl_expOf_i {x : Nat} {H : AHeap} {K : Nat → AHeap → Prop} (h : K (p_impl_expOf x) H) : T_impl_expOf x H K := h

/-! impl_expOf: function 157 -/
def E_impl_expOf : Env := envOf [(184, S_impl_expWide)]
def F_impl_expOf : List Value → AHeap → (Value → AHeap → Prop) → Prop
  | [.float .f32 x], H, K => T_impl_expOf x H fun (r1 : Nat) (H' : AHeap) => K (.float .f64 r1) H'
  | _, _, _ => False
def S_impl_expOf : FSpec := { F := F_impl_expOf, quiet := true, tame := false }
theorem impl_expOf_vc (x : Nat) (H : AHeap) (K : Value → AHeap → Prop) : bodyK Try.prog E_impl_expOf Try.f157 [.float .f32 x] H K =
  (T_impl_expWide (fwide x) H fun (r1 : Nat) (H1 : AHeap) => K (.float .f64 r1) H1) := by kernel_rfl
theorem E_impl_expOf_ok : ∀ g, FnOk Try.prog g (E_impl_expOf g) := FnOk.envOf (by
  intro x hx
  simp only [List.mem_cons, List.not_mem_nil, or_false] at hx
  subst hx; exact impl_expWide_ok)
set_option maxHeartbeats 1000000 in
theorem impl_expOf_main (x : Nat) (H : AHeap) (K : Value → AHeap → Prop) (h : T_impl_expOf x H fun (r1 : Nat) (H' : AHeap) => K (.float .f64 r1) H') : bodyK Try.prog E_impl_expOf Try.f157 [.float .f32 x] H K := by
  rw [impl_expOf_vc]
  have hk := h
  unfold T_impl_expOf at hk
  have e : (p_impl_expOf x) = _ := rfl
  have e := e.trans (p_impl_expOf_eq x)
  have g0 := Grow.refl H
  refine T_impl_expWide_i ?_
  rw [e] at hk
  exact hk
theorem impl_expOf_ok : FnOk Try.prog 157 S_impl_expOf := by
  refine FnOk.body mix_ok E_impl_expOf_ok Try.func157 rfl (by kernel_rfl) (by kernel_rfl) ?_ ?_ ?_ ?_ ?_
  · intro args H K K' h hk
    simp only [S_impl_expOf] at *
    unfold F_impl_expOf at *
    split at hk
    · have k := hk
      exact h _ _ k
    · exact hk.elim
  · intro _ args H K hk
    simp only [S_impl_expOf] at *
    unfold F_impl_expOf at *
    split at hk
    · have k := hk
      exact ⟨_, k, fun K' k' => k'⟩
    · exact hk.elim
  · intro args H K hk
    simp only [S_impl_expOf] at *
    unfold F_impl_expOf at *
    split at hk
    · have k := hk
      exact ⟨_, _, k⟩
    · exact hk.elim
  · intro hq; cases hq
  · have mm := @impl_expOf_main
    revert mm
    generalize bodyK Try.prog E_impl_expOf Try.f157 = Q
    intro mm args H K hk
    simp only [S_impl_expOf] at *
    unfold F_impl_expOf at *
    split at hk
    · exact mm _ H K hk
    · exact hk.elim

def p_impl_ExpNumber (x : Nat) : Nat := ((fnarrow (p_impl_expOf x)).getD 0)
def p_impl_ExpNumber_eq := @p_impl_ExpNumber.eq_1
def T_impl_ExpNumber (x : Nat) (H : AHeap) (K : Nat → AHeap → Prop) : Prop := fnarrow (p_impl_expOf x) ≠ none ∧ K (p_impl_ExpNumber x) H
theorem T_impl_ExpNumber_i {x : Nat} {H : AHeap} {K : Nat → AHeap → Prop} (h : fnarrow (p_impl_expOf x) ≠ none ∧ K (p_impl_ExpNumber x) H) : T_impl_ExpNumber x H K := h

/-! impl_ExpNumber: function 114 -/
def E_impl_ExpNumber : Env := envOf [(157, S_impl_expOf)]
def F_impl_ExpNumber : List Value → AHeap → (Value → AHeap → Prop) → Prop
  | [.float .f32 x], H, K => T_impl_ExpNumber x H fun (r1 : Nat) (H' : AHeap) => K (.float .f32 r1) H'
  | _, _, _ => False
def S_impl_ExpNumber : FSpec := { F := F_impl_ExpNumber, quiet := true, tame := false }
theorem impl_ExpNumber_vc (x : Nat) (H : AHeap) (K : Value → AHeap → Prop) : bodyK Try.prog E_impl_ExpNumber Try.f114 [.float .f32 x] H K =
  (T_impl_expOf x H fun (r1 : Nat) (H1 : AHeap) => ∃ x1 : Nat, fnarrow r1 = some x1 ∧ K (.float .f32 x1) H1) := by kernel_rfl
theorem E_impl_ExpNumber_ok : ∀ g, FnOk Try.prog g (E_impl_ExpNumber g) := FnOk.envOf (by
  intro x hx
  simp only [List.mem_cons, List.not_mem_nil, or_false] at hx
  subst hx; exact impl_expOf_ok)
set_option maxHeartbeats 1000000 in
theorem impl_ExpNumber_main (x : Nat) (H : AHeap) (K : Value → AHeap → Prop) (h : T_impl_ExpNumber x H fun (r1 : Nat) (H' : AHeap) => K (.float .f32 r1) H') : bodyK Try.prog E_impl_ExpNumber Try.f114 [.float .f32 x] H K := by
  rw [impl_ExpNumber_vc]
  obtain ⟨pr0, hk⟩ := h
  have e : (p_impl_ExpNumber x) = _ := rfl
  have e := e.trans (p_impl_ExpNumber_eq x)
  have g0 := Grow.refl H
  refine T_impl_expOf_i ?_
  refine ⟨_, opt_get (d := 0) (by assumption), ?_⟩
  rw [e] at hk
  exact hk
theorem impl_ExpNumber_ok : FnOk Try.prog 114 S_impl_ExpNumber := by
  refine FnOk.body mix_ok E_impl_ExpNumber_ok Try.func114 rfl (by kernel_rfl) (by kernel_rfl) ?_ ?_ ?_ ?_ ?_
  · intro args H K K' h hk
    simp only [S_impl_ExpNumber] at *
    unfold F_impl_ExpNumber at *
    split at hk
    · obtain ⟨pr0, k⟩ := hk
      exact ⟨pr0, h _ _ k⟩
    · exact hk.elim
  · intro _ args H K hk
    simp only [S_impl_ExpNumber] at *
    unfold F_impl_ExpNumber at *
    split at hk
    · obtain ⟨pr0, k⟩ := hk
      exact ⟨_, k, fun K' k' => ⟨pr0, k'⟩⟩
    · exact hk.elim
  · intro args H K hk
    simp only [S_impl_ExpNumber] at *
    unfold F_impl_ExpNumber at *
    split at hk
    · obtain ⟨pr0, k⟩ := hk
      exact ⟨_, _, k⟩
    · exact hk.elim
  · intro hq; cases hq
  · have mm := @impl_ExpNumber_main
    revert mm
    generalize bodyK Try.prog E_impl_ExpNumber Try.f114 = Q
    intro mm args H K hk
    simp only [S_impl_ExpNumber] at *
    unfold F_impl_ExpNumber at *
    split at hk
    · exact mm _ H K hk
    · exact hk.elim
def p_impl_isFinite64 (x : Nat) : Bool := feq .f64 (fsub .f64 x x) 0
def p_impl_isFinite64_eq := @p_impl_isFinite64.eq_1
def T_impl_isFinite64 (x : Nat) (H : AHeap) (K : Bool → AHeap → Prop) : Prop := K (p_impl_isFinite64 x) H

theorem T_impl_isFinite64_i {x : Nat} {H : AHeap} {K : Bool → AHeap → Prop} (h : K (p_impl_isFinite64 x) H) : T_impl_isFinite64 x H K := h
/-! impl_isFinite64: function 158 -/
def E_impl_isFinite64 : Env := envOf []
def F_impl_isFinite64 : List Value → AHeap → (Value → AHeap → Prop) → Prop
  | [.float .f64 x], H, K => T_impl_isFinite64 x H fun (r1 : Bool) (H' : AHeap) => K (.bool r1) H'
  | _, _, _ => False
def S_impl_isFinite64 : FSpec := { F := F_impl_isFinite64, quiet := true, tame := false }
theorem impl_isFinite64_vc (x : Nat) (H : AHeap) (K : Value → AHeap → Prop) : bodyK Try.prog E_impl_isFinite64 Try.f158 [.float .f64 x] H K =
  (K (.bool (feq .f64 (fsub .f64 x x) 0)) H) := by kernel_rfl
theorem E_impl_isFinite64_ok : ∀ g, FnOk Try.prog g (E_impl_isFinite64 g) := FnOk.envOf (by
  intro x hx; cases hx)
set_option maxHeartbeats 1000000 in
theorem impl_isFinite64_main (x : Nat) (H : AHeap) (K : Value → AHeap → Prop) (h : T_impl_isFinite64 x H fun (r1 : Bool) (H' : AHeap) => K (.bool r1) H') : bodyK Try.prog E_impl_isFinite64 Try.f158 [.float .f64 x] H K := by
  rw [impl_isFinite64_vc]
  unfold T_impl_isFinite64 p_impl_isFinite64 at h
  repeat' (first | exact h | (exfalso; simp_all; done) | (refine ⟨by decide, ?_⟩) | (refine Br.intro (fun hb => ?_) (fun hb => ?_) <;> (try simp only [hb, cond_true, cond_false, Bool.not_true, Bool.not_false] at h)))
theorem impl_isFinite64_ok : FnOk Try.prog 158 S_impl_isFinite64 := by
  refine FnOk.body mix_ok E_impl_isFinite64_ok Try.func158 rfl (by kernel_rfl) (by kernel_rfl) ?_ ?_ ?_ ?_ ?_
  · intro args H K K' h hk
    simp only [S_impl_isFinite64] at *
    unfold F_impl_isFinite64 at *
    split at hk
    · have k := hk
      exact h _ _ k
    · exact hk.elim
  · intro _ args H K hk
    simp only [S_impl_isFinite64] at *
    unfold F_impl_isFinite64 at *
    split at hk
    · have k := hk
      exact ⟨_, k, fun K' k' => k'⟩
    · exact hk.elim
  · intro args H K hk
    simp only [S_impl_isFinite64] at *
    unfold F_impl_isFinite64 at *
    split at hk
    · have k := hk
      exact ⟨_, _, k⟩
    · exact hk.elim
  · intro hq; cases hq
  · have mm := @impl_isFinite64_main
    revert mm
    generalize bodyK Try.prog E_impl_isFinite64 Try.f158 = Q
    intro mm args H K hk
    simp only [S_impl_isFinite64] at *
    unfold F_impl_isFinite64 at *
    split at hk
    · exact mm _ H K hk
    · exact hk.elim
def T_math_Float64bits (x : Nat) (H : AHeap) (K : Int → AHeap → Prop) : Prop := ∀ b : Nat, cn .f64 b = cn .f64 x → K (b : Int) H
def F_math_Float64bits : List Value → AHeap → (Value → AHeap → Prop) → Prop
  | [.float .f64 x], H, K => T_math_Float64bits x H fun r1 H' => K (.int .u64 r1) H'
  | _, _, _ => False
def S_math_Float64bits : FSpec := { F := F_math_Float64bits, quiet := false }
theorem F_math_Float64bits_o {args : List Value} {H : AHeap} {K : Value → AHeap → Prop} (h : S_math_Float64bits.F args H K) : ∃ x, args = [.float .f64 x] ∧ ∀ b : Nat, cn .f64 b = cn .f64 x → K (.int .u64 (b : Int)) H := by
  simp only [S_math_Float64bits] at h
  unfold F_math_Float64bits at h
  split at h
  · exact ⟨_, rfl, h⟩
  · exact h.elim
theorem math_Float64bits_ok : FnOk Try.prog 186 S_math_Float64bits := by
  refine FnOk.ext rfl ?_ ?_ ?_ ?_
  · intro args H K K' h hk
    obtain ⟨x, rfl, k⟩ := F_math_Float64bits_o hk
    exact fun b hb => h _ _ (k b hb)
  · intro h; cases h
  · intro args H K hk
    obtain ⟨x, rfl, k⟩ := F_math_Float64bits_o hk
    exact ⟨_, _, k x rfl⟩
  · intro ρ w args args' H K ha hk
    obtain ⟨x, rfl, k⟩ := F_math_Float64bits_o hk
    obtain ⟨y, ys, rfl, h3, h4⟩ := ha.uncons
    obtain rfl := h4.unnil
    cases h3 with
    | float k0 a b hab =>
      refine ⟨_, .int .u64 b, w, ?_, .refl w, .int .u64 _, k b (by rw [hab, cn_cn])⟩
      have := run_callFunc_extern (e := Extern.MathFloatBits.float64bits) Try.func186 (by kernel_rfl) (by kernel_rfl) (by kernel_rfl) (by kernel_rfl) #[.float .f64 b] w
      rw [this]; rfl

def p_math_Abs (x : Nat) : Nat := cn .f64 (cn .f64 x % 9223372036854775808)
def T_math_Abs (x : Nat) (H : AHeap) (K : Nat → AHeap → Prop) : Prop := K (p_math_Abs x) H
theorem T_math_Abs_i {x : Nat} {H : AHeap} {K : Nat → AHeap → Prop} (h : K (p_math_Abs x) H) : T_math_Abs x H K := h
/-! math_Abs: function 160 -/
def E_math_Abs : Env := envOf [(186, S_math_Float64bits), (185, S_math_Float64frombits)]
def F_math_Abs : List Value → AHeap → (Value → AHeap → Prop) → Prop
  | [.float .f64 x], H, K => T_math_Abs x H fun (r1 : Nat) (H' : AHeap) => K (.float .f64 r1) H'
  | _, _, _ => False
def S_math_Abs : FSpec := { F := F_math_Abs, quiet := true, tame := false }
theorem math_Abs_vc (x : Nat) (H : AHeap) (K : Value → AHeap → Prop) : bodyK Try.prog E_math_Abs Try.f160 [.float .f64 x] H K =
  (T_math_Float64bits x H fun (r1 : Int) (H1 : AHeap) => T_math_Float64frombits (IntKind.wrap .u64 (((BitVec.ofInt (IntKind.bits .u64) r1 &&& ~~~(BitVec.ofInt (IntKind.bits .u64) 9223372036854775808)).toNat : Int))) H1 fun (r2 : Nat) (H2 : AHeap) => K (.float .f64 r2) H2) := by kernel_rfl
theorem E_math_Abs_ok : ∀ g, FnOk Try.prog g (E_math_Abs g) := FnOk.envOf (by
  intro x hx
  simp only [List.mem_cons, List.not_mem_nil, or_false] at hx
  rcases hx with rfl | rfl
  · exact math_Float64bits_ok
  · exact math_Float64frombits_ok)
theorem abs_bits (b : Nat) : (IntKind.wrap .u64 (((BitVec.ofInt (IntKind.bits .u64) (b : Int) &&& ~~~(BitVec.ofInt (IntKind.bits .u64) 9223372036854775808)).toNat : Int))).toNat = b % 9223372036854775808 := by
  have e : (BitVec.ofInt (IntKind.bits .u64) (b : Int) &&& ~~~(BitVec.ofInt (IntKind.bits .u64) 9223372036854775808)).toNat = b % 9223372036854775808 := by
    show (BitVec.ofInt 64 (b : Int) &&& ~~~(BitVec.ofInt 64 9223372036854775808)).toNat = _
    have h1 : (~~~(BitVec.ofInt 64 9223372036854775808)).toNat = 2 ^ 63 - 1 := by decide
    have h2 : (BitVec.ofInt 64 (b : Int)).toNat = b % 2 ^ 64 := by simp
    rw [BitVec.toNat_and, h1, h2, Nat.and_two_pow_sub_one_eq_mod]
    omega
  rw [e, wrapu_id o3 o3]
  omega
theorem abs_cn {b x : Nat} (h : cn .f64 b = cn .f64 x) : cn .f64 (b % 9223372036854775808) = cn .f64 (cn .f64 x % 9223372036854775808) := by
  rw [← h]
  cases hn : (FloatKind.f64.decode b).isNaN
  · rw [cn_of_not_nan hn]
  · rw [cn_of_nan hn]
    have : (FloatKind.f64.decode (b % 9223372036854775808)).isNaN = true := by
      rw [nan_iff] at hn ⊢
      have e1 : FloatKind.f64.format.signWeight = 9223372036854775808 := by decide
      rw [e1] at hn ⊢
      rw [Nat.mod_mod]; exact hn
    rw [cn_of_nan this]
    decide +kernel
set_option maxHeartbeats 1000000 in
theorem math_Abs_main (x : Nat) (H : AHeap) (K : Value → AHeap → Prop) (h : T_math_Abs x H fun (r1 : Nat) (H' : AHeap) => K (.float .f64 r1) H') : bodyK Try.prog E_math_Abs Try.f160 [.float .f64 x] H K := by
  rw [math_Abs_vc]
  intro b hb
  show K (.float .f64 (cn .f64 (IntKind.wrap .u64 (((BitVec.ofInt (IntKind.bits .u64) (b : Int) &&& ~~~(BitVec.ofInt (IntKind.bits .u64) 9223372036854775808)).toNat : Int))).toNat)) H
  rw [abs_bits, abs_cn hb]
  exact h
theorem math_Abs_ok : FnOk Try.prog 160 S_math_Abs := by
  refine FnOk.body mix_ok E_math_Abs_ok Try.func160 rfl (by kernel_rfl) (by kernel_rfl) ?_ ?_ ?_ ?_ ?_
  · intro args H K K' h hk
    simp only [S_math_Abs] at *
    unfold F_math_Abs at *
    split at hk
    · have k := hk
      exact h _ _ k
    · exact hk.elim
  · intro _ args H K hk
    simp only [S_math_Abs] at *
    unfold F_math_Abs at *
    split at hk
    · have k := hk
      exact ⟨_, k, fun K' k' => k'⟩
    · exact hk.elim
  · intro args H K hk
    simp only [S_math_Abs] at *
    unfold F_math_Abs at *
    split at hk
    · have k := hk
      exact ⟨_, _, k⟩
    · exact hk.elim
  · intro hq; cases hq
  · have mm := @math_Abs_main
    revert mm
    generalize bodyK Try.prog E_math_Abs Try.f160 = Q
    intro mm args H K hk
    simp only [S_math_Abs] at *
    unfold F_math_Abs at *
    split at hk
    · exact mm _ H K hk
    · exact hk.elim

def p_impl_fraction (x : Nat) : Nat := (bif flt .f64 (fsub .f64 x (FloatKind.nearest .f64 (((ftoi .f64 x .i64).getD 0)))) 0 then fadd .f64 (fsub .f64 x (FloatKind.nearest .f64 (((ftoi .f64 x .i64).getD 0)))) 4607182418800017408 else fsub .f64 x (FloatKind.nearest .f64 (((ftoi .f64 x .i64).getD 0))))
def p_impl_fraction_eq := @p_impl_fraction.eq_1
def T_impl_fraction (x : Nat) (H : AHeap) (K : Nat → AHeap → Prop) : Prop := Bd .f64 (52 + lp .f64) x ∧ K (p_impl_fraction x) H
theorem T_impl_fraction_i {x : Nat} {H : AHeap} {K : Nat → AHeap → Prop} (h : Bd .f64 (52 + lp .f64) x ∧ K (p_impl_fraction x) H) : T_impl_fraction x H K := h
theorem impl_fraction_bd (x : Nat) (h : Bd .f64 (52 + lp .f64) x) : Bd .f64 (lp .f64) (p_impl_fraction x) := by
  rw [p_impl_fraction_eq]
  obtain ⟨n, hn, h1, h2⟩ := fract h
  rw [hn]
  show Bd .f64 (lp .f64) (bif flt .f64 (fsub .f64 x (FloatKind.nearest .f64 n)) 0 then _ else _)
  cases hc : flt .f64 (fsub .f64 x (FloatKind.nearest .f64 n)) 0
  · exact h1
  · exact h2 hc
/-! impl_fraction: function 161 -/
def E_impl_fraction : Env := envOf []
def F_impl_fraction : List Value → AHeap → (Value → AHeap → Prop) → Prop
  | [.float .f64 x], H, K => T_impl_fraction x H fun (r1 : Nat) (H' : AHeap) => K (.float .f64 r1) H'
  | _, _, _ => False
def S_impl_fraction : FSpec := { F := F_impl_fraction, quiet := true, tame := false }
theorem impl_fraction_vc (x : Nat) (H : AHeap) (K : Value → AHeap → Prop) : bodyK Try.prog E_impl_fraction Try.f161 [.float .f64 x] H K =
  (∃ n1 : Int, ftoi .f64 x .i64 = some n1 ∧ Br (flt .f64 (fsub .f64 x (FloatKind.nearest .f64 n1)) 0) (K (.float .f64 (fadd .f64 (fsub .f64 x (FloatKind.nearest .f64 n1)) 4607182418800017408)) H) (K (.float .f64 (fsub .f64 x (FloatKind.nearest .f64 n1))) H)) := by kernel_rfl
theorem E_impl_fraction_ok : ∀ g, FnOk Try.prog g (E_impl_fraction g) := FnOk.envOf (by
  intro x hx; cases hx)
set_option maxHeartbeats 1000000 in
theorem impl_fraction_main (x : Nat) (H : AHeap) (K : Value → AHeap → Prop) (h : T_impl_fraction x H fun (r1 : Nat) (H' : AHeap) => K (.float .f64 r1) H') : bodyK Try.prog E_impl_fraction Try.f161 [.float .f64 x] H K := by
  rw [impl_fraction_vc]
  obtain ⟨pr0, hk⟩ := h
  have e : (p_impl_fraction x) = _ := rfl
  have e := e.trans (p_impl_fraction_eq x)
  have g0 := Grow.refl H
  refine ⟨_, opt_get (d := 0) (by exact fract_ne (by assumption)), ?_⟩
  refine Br.intro (fun c_1 => ?_) (fun c_1 => ?_)
  · have e := e.trans (cond_t c_1)
    rw [e] at hk
    exact hk
  · have e := e.trans (cond_f c_1)
    rw [e] at hk
    exact hk
theorem impl_fraction_ok : FnOk Try.prog 161 S_impl_fraction := by
  refine FnOk.body mix_ok E_impl_fraction_ok Try.func161 rfl (by kernel_rfl) (by kernel_rfl) ?_ ?_ ?_ ?_ ?_
  · intro args H K K' h hk
    simp only [S_impl_fraction] at *
    unfold F_impl_fraction at *
    split at hk
    · obtain ⟨pr0, k⟩ := hk
      exact ⟨pr0, h _ _ k⟩
    · exact hk.elim
  · intro _ args H K hk
    simp only [S_impl_fraction] at *
    unfold F_impl_fraction at *
    split at hk
    · obtain ⟨pr0, k⟩ := hk
      exact ⟨_, k, fun K' k' => ⟨pr0, k'⟩⟩
    · exact hk.elim
  · intro args H K hk
    simp only [S_impl_fraction] at *
    unfold F_impl_fraction at *
    split at hk
    · obtain ⟨pr0, k⟩ := hk
      exact ⟨_, _, k⟩
    · exact hk.elim
  · intro hq; cases hq
  · have mm := @impl_fraction_main
    revert mm
    generalize bodyK Try.prog E_impl_fraction Try.f161 = Q
    intro mm args H K hk
    simp only [S_impl_fraction] at *
    unfold F_impl_fraction at *
    split at hk
    · exact mm _ H K hk
    · exact hk.elim

def p_impl_sine_l1 (x : Nat) : Nat → Nat → Nat → Nat
  | 0, _, _ => 0
  | μ + 1, p, k => (bif fle .f64 4607182418800017408 k then (p_impl_sine_l1 x μ (fsub .f64 4607182418800017408 (fdiv .f64 (fmul .f64 (fmul .f64 (fmul .f64 (fsub .f64 4602678819172646912 (fsub .f64 (p_impl_fraction x) 4602678819172646912)) 4618760256179416344) (fmul .f64 (fsub .f64 4602678819172646912 (fsub .f64 (p_impl_fraction x) 4602678819172646912)) 4618760256179416344)) p) (fmul .f64 (fmul .f64 4611686018427387904 k) (fadd .f64 (fmul .f64 4611686018427387904 k) 4607182418800017408)))) (fsub .f64 k 4607182418800017408)) else (bif fle .f64 4602678819172646912 (p_impl_fraction x) then fneg .f64 (fmul .f64 (fmul .f64 (fsub .f64 4602678819172646912 (fsub .f64 (p_impl_fraction x) 4602678819172646912)) 4618760256179416344) p) else fmul .f64 (fmul .f64 (fsub .f64 4602678819172646912 (fsub .f64 (p_impl_fraction x) 4602678819172646912)) 4618760256179416344) p))
def p_impl_sine_l1_s := fun x μ p k => @p_impl_sine_l1.eq_2 x p k μ
def p_impl_sine_l1b (x : Nat) : Nat → Nat → Nat → Nat
  | 0, _, _ => 0
  | μ + 1, p, k => (bif fle .f64 4607182418800017408 k then (p_impl_sine_l1b x μ (fsub .f64 4607182418800017408 (fdiv .f64 (fmul .f64 (fmul .f64 (fmul .f64 (fsub .f64 (p_impl_fraction x) 4602678819172646912) 4618760256179416344) (fmul .f64 (fsub .f64 (p_impl_fraction x) 4602678819172646912) 4618760256179416344)) p) (fmul .f64 (fmul .f64 4611686018427387904 k) (fadd .f64 (fmul .f64 4611686018427387904 k) 4607182418800017408)))) (fsub .f64 k 4607182418800017408)) else (bif fle .f64 4602678819172646912 (p_impl_fraction x) then fneg .f64 (fmul .f64 (fmul .f64 (fsub .f64 (p_impl_fraction x) 4602678819172646912) 4618760256179416344) p) else fmul .f64 (fmul .f64 (fsub .f64 (p_impl_fraction x) 4602678819172646912) 4618760256179416344) p))
def p_impl_sine_l1b_s := fun x μ p k => @p_impl_sine_l1b.eq_2 x p k μ
def p_impl_sine_l1c (x : Nat) : Nat → Nat → Nat → Nat
  | 0, _, _ => 0
  | μ + 1, p, k => (bif fle .f64 4607182418800017408 k then (p_impl_sine_l1c x μ (fsub .f64 4607182418800017408 (fdiv .f64 (fmul .f64 (fmul .f64 (fmul .f64 (fsub .f64 4602678819172646912 (p_impl_fraction x)) 4618760256179416344) (fmul .f64 (fsub .f64 4602678819172646912 (p_impl_fraction x)) 4618760256179416344)) p) (fmul .f64 (fmul .f64 4611686018427387904 k) (fadd .f64 (fmul .f64 4611686018427387904 k) 4607182418800017408)))) (fsub .f64 k 4607182418800017408)) else (bif fle .f64 4602678819172646912 (p_impl_fraction x) then fneg .f64 (fmul .f64 (fmul .f64 (fsub .f64 4602678819172646912 (p_impl_fraction x)) 4618760256179416344) p) else fmul .f64 (fmul .f64 (fsub .f64 4602678819172646912 (p_impl_fraction x)) 4618760256179416344) p))
def p_impl_sine_l1c_s := fun x μ p k => @p_impl_sine_l1c.eq_2 x p k μ
def p_impl_sine_l1d (x : Nat) : Nat → Nat → Nat → Nat
  | 0, _, _ => 0
  | μ + 1, p, k => (bif fle .f64 4607182418800017408 k then (p_impl_sine_l1d x μ (fsub .f64 4607182418800017408 (fdiv .f64 (fmul .f64 (fmul .f64 (fmul .f64 (p_impl_fraction x) 4618760256179416344) (fmul .f64 (p_impl_fraction x) 4618760256179416344)) p) (fmul .f64 (fmul .f64 4611686018427387904 k) (fadd .f64 (fmul .f64 4611686018427387904 k) 4607182418800017408)))) (fsub .f64 k 4607182418800017408)) else (bif fle .f64 4602678819172646912 (p_impl_fraction x) then fneg .f64 (fmul .f64 (fmul .f64 (p_impl_fraction x) 4618760256179416344) p) else fmul .f64 (fmul .f64 (p_impl_fraction x) 4618760256179416344) p))
def p_impl_sine_l1d_s := fun x μ p k => @p_impl_sine_l1d.eq_2 x p k μ
def p_impl_sine (x : Nat) : Nat := (bif fle .f64 4602678819172646912 (p_impl_fraction x) then (bif flt .f64 4598175219545276416 (fsub .f64 (p_impl_fraction x) 4602678819172646912) then (p_impl_sine_l1 x (Int.toNat (cnt 4620693217682128896) + 1) 4607182418800017408 4620693217682128896) else (p_impl_sine_l1b x (Int.toNat (cnt 4620693217682128896) + 1) 4607182418800017408 4620693217682128896)) else (bif flt .f64 4598175219545276416 (p_impl_fraction x) then (p_impl_sine_l1c x (Int.toNat (cnt 4620693217682128896) + 1) 4607182418800017408 4620693217682128896) else (p_impl_sine_l1d x (Int.toNat (cnt 4620693217682128896) + 1) 4607182418800017408 4620693217682128896)))
def p_impl_sine_eq := @p_impl_sine.eq_1
def T_impl_sine (x : Nat) (H : AHeap) (K : Nat → AHeap → Prop) : Prop := Bd .f64 (52 + lp .f64) x ∧ K (p_impl_sine x) H
theorem T_impl_sine_i {x : Nat} {H : AHeap} {K : Nat → AHeap → Prop} (h : Bd .f64 (52 + lp .f64) x ∧ K (p_impl_sine x) H) : T_impl_sine x H K := h
theorem impl_sine_l1_eq (x : Nat) : ∀ μ p k : Nat, p_impl_sine_l1 x μ p k = sinG (fmul .f64 (fsub .f64 4602678819172646912 (fsub .f64 (p_impl_fraction x) 4602678819172646912)) 4618760256179416344) (fle .f64 4602678819172646912 (p_impl_fraction x)) μ p k := by
  intro μ; induction μ with
  | zero => intro p k; rfl
  | succ μ ih => intro p k; rw [p_impl_sine_l1_s, sinG, ih]
theorem impl_sine_l1b_eq (x : Nat) : ∀ μ p k : Nat, p_impl_sine_l1b x μ p k = sinG (fmul .f64 (fsub .f64 (p_impl_fraction x) 4602678819172646912) 4618760256179416344) (fle .f64 4602678819172646912 (p_impl_fraction x)) μ p k := by
  intro μ; induction μ with
  | zero => intro p k; rfl
  | succ μ ih => intro p k; rw [p_impl_sine_l1b_s, sinG, ih]
theorem impl_sine_l1c_eq (x : Nat) : ∀ μ p k : Nat, p_impl_sine_l1c x μ p k = sinG (fmul .f64 (fsub .f64 4602678819172646912 (p_impl_fraction x)) 4618760256179416344) (fle .f64 4602678819172646912 (p_impl_fraction x)) μ p k := by
  intro μ; induction μ with
  | zero => intro p k; rfl
  | succ μ ih => intro p k; rw [p_impl_sine_l1c_s, sinG, ih]
theorem impl_sine_l1d_eq (x : Nat) : ∀ μ p k : Nat, p_impl_sine_l1d x μ p k = sinG (fmul .f64 (p_impl_fraction x) 4618760256179416344) (fle .f64 4602678819172646912 (p_impl_fraction x)) μ p k := by
  intro μ; induction μ with
  | zero => intro p k; rfl
  | succ μ ih => intro p k; rw [p_impl_sine_l1d_s, sinG, ih]
theorem cnt8 : Int.toNat (cnt 4620693217682128896) + 1 = 9 := by decide +kernel
theorem impl_sine_val (x : Nat) : p_impl_sine x = sineOf (p_impl_fraction x) := by
  rw [p_impl_sine_eq, cnt8, eight_near, impl_sine_l1_eq, impl_sine_l1b_eq, impl_sine_l1c_eq, impl_sine_l1d_eq]
  simp only [sin_int _ _ _ _ 8 o22 o22]
  exact sineOf_bif _
theorem impl_sine_bd (x : Nat) (h : Bd .f64 (52 + lp .f64) x) : Bd .f64 1140 (p_impl_sine x) := by
  rw [impl_sine_val]; exact sineOf_bd (impl_fraction_bd x h)
/-! impl_sine: function 162 -/
def E_impl_sine : Env := envOf [(161, S_impl_fraction)]
def F_impl_sine : List Value → AHeap → (Value → AHeap → Prop) → Prop
  | [.float .f64 x], H, K => T_impl_sine x H fun (r1 : Nat) (H' : AHeap) => K (.float .f64 r1) H'
  | _, _, _ => False
def S_impl_sine : FSpec := { F := F_impl_sine, quiet := true, tame := false }
theorem impl_sine_vc (x : Nat) (H : AHeap) (K : Value → AHeap → Prop) : bodyK Try.prog E_impl_sine Try.f162 [.float .f64 x] H K =
  (T_impl_fraction x H fun (r1 : Nat) (H1 : AHeap) => Br (fle .f64 4602678819172646912 r1) (Br (flt .f64 4598175219545276416 (fsub .f64 r1 4602678819172646912)) (loopK (exK Try.prog E_impl_sine (cl (cl (cr (cl (cr (cr (cr (cr (cr (cr (cr (cr (bodyC Try.f162)))))))))))))) [.float .f64 x, undef, .float .f64 0, .float .f64 (fsub .f64 4602678819172646912 (fsub .f64 r1 4602678819172646912)), .bool (fle .f64 4602678819172646912 r1), .float .f64 (fmul .f64 (fsub .f64 4602678819172646912 (fsub .f64 r1 4602678819172646912)) 4618760256179416344), .float .f64 (fmul .f64 (fmul .f64 (fsub .f64 4602678819172646912 (fsub .f64 r1 4602678819172646912)) 4618760256179416344) (fmul .f64 (fsub .f64 4602678819172646912 (fsub .f64 r1 4602678819172646912)) 4618760256179416344)), .float .f64 4607182418800017408, .float .f64 4620693217682128896, .float .f64 x, .float .f64 r1, .float .f64 r1, .bool (fle .f64 4602678819172646912 r1), .bool (fle .f64 4602678819172646912 r1), .float .f64 r1, .float .f64 (fsub .f64 r1 4602678819172646912), .float .f64 (fsub .f64 r1 4602678819172646912), .bool (flt .f64 4598175219545276416 (fsub .f64 r1 4602678819172646912)), .float .f64 (fsub .f64 r1 4602678819172646912), .float .f64 (fsub .f64 4602678819172646912 (fsub .f64 r1 4602678819172646912)), .float .f64 (fsub .f64 4602678819172646912 (fsub .f64 r1 4602678819172646912)), .float .f64 (fmul .f64 (fsub .f64 4602678819172646912 (fsub .f64 r1 4602678819172646912)) 4618760256179416344), .float .f64 (fmul .f64 (fsub .f64 4602678819172646912 (fsub .f64 r1 4602678819172646912)) 4618760256179416344), .float .f64 (fmul .f64 (fsub .f64 4602678819172646912 (fsub .f64 r1 4602678819172646912)) 4618760256179416344), .float .f64 (fmul .f64 (fmul .f64 (fsub .f64 4602678819172646912 (fsub .f64 r1 4602678819172646912)) 4618760256179416344) (fmul .f64 (fsub .f64 4602678819172646912 (fsub .f64 r1 4602678819172646912)) 4618760256179416344)), undef, undef, undef, undef, undef, undef, undef, undef, undef, undef, undef, undef, undef, undef, undef, undef, undef, undef, undef, undef, undef, undef, undef] H1 (blockQ 0 (seqQ (exK Try.prog E_impl_sine (cr (cr (cr (cr (cr (cr (cr (cr (cr (bodyC Try.f162))))))))))) (retK Try.prog Try.f162 K)))) (loopK (exK Try.prog E_impl_sine (cl (cl (cr (cl (cr (cr (cr (cr (cr (cr (cr (cr (bodyC Try.f162)))))))))))))) [.float .f64 x, undef, .float .f64 0, .float .f64 (fsub .f64 r1 4602678819172646912), .bool (fle .f64 4602678819172646912 r1), .float .f64 (fmul .f64 (fsub .f64 r1 4602678819172646912) 4618760256179416344), .float .f64 (fmul .f64 (fmul .f64 (fsub .f64 r1 4602678819172646912) 4618760256179416344) (fmul .f64 (fsub .f64 r1 4602678819172646912) 4618760256179416344)), .float .f64 4607182418800017408, .float .f64 4620693217682128896, .float .f64 x, .float .f64 r1, .float .f64 r1, .bool (fle .f64 4602678819172646912 r1), .bool (fle .f64 4602678819172646912 r1), .float .f64 r1, .float .f64 (fsub .f64 r1 4602678819172646912), .float .f64 (fsub .f64 r1 4602678819172646912), .bool (flt .f64 4598175219545276416 (fsub .f64 r1 4602678819172646912)), undef, undef, .float .f64 (fsub .f64 r1 4602678819172646912), .float .f64 (fmul .f64 (fsub .f64 r1 4602678819172646912) 4618760256179416344), .float .f64 (fmul .f64 (fsub .f64 r1 4602678819172646912) 4618760256179416344), .float .f64 (fmul .f64 (fsub .f64 r1 4602678819172646912) 4618760256179416344), .float .f64 (fmul .f64 (fmul .f64 (fsub .f64 r1 4602678819172646912) 4618760256179416344) (fmul .f64 (fsub .f64 r1 4602678819172646912) 4618760256179416344)), undef, undef, undef, undef, undef, undef, undef, undef, undef, undef, undef, undef, undef, undef, undef, undef, undef, undef, undef, undef, undef, undef, undef] H1 (blockQ 0 (seqQ (exK Try.prog E_impl_sine (cr (cr (cr (cr (cr (cr (cr (cr (cr (bodyC Try.f162))))))))))) (retK Try.prog Try.f162 K))))) (Br (flt .f64 4598175219545276416 r1) (loopK (exK Try.prog E_impl_sine (cl (cl (cr (cl (cr (cr (cr (cr (cr (cr (cr (cr (bodyC Try.f162)))))))))))))) [.float .f64 x, undef, .float .f64 0, .float .f64 (fsub .f64 4602678819172646912 r1), .bool (fle .f64 4602678819172646912 r1), .float .f64 (fmul .f64 (fsub .f64 4602678819172646912 r1) 4618760256179416344), .float .f64 (fmul .f64 (fmul .f64 (fsub .f64 4602678819172646912 r1) 4618760256179416344) (fmul .f64 (fsub .f64 4602678819172646912 r1) 4618760256179416344)), .float .f64 4607182418800017408, .float .f64 4620693217682128896, .float .f64 x, .float .f64 r1, .float .f64 r1, .bool (fle .f64 4602678819172646912 r1), .bool (fle .f64 4602678819172646912 r1), undef, undef, .float .f64 r1, .bool (flt .f64 4598175219545276416 r1), .float .f64 r1, .float .f64 (fsub .f64 4602678819172646912 r1), .float .f64 (fsub .f64 4602678819172646912 r1), .float .f64 (fmul .f64 (fsub .f64 4602678819172646912 r1) 4618760256179416344), .float .f64 (fmul .f64 (fsub .f64 4602678819172646912 r1) 4618760256179416344), .float .f64 (fmul .f64 (fsub .f64 4602678819172646912 r1) 4618760256179416344), .float .f64 (fmul .f64 (fmul .f64 (fsub .f64 4602678819172646912 r1) 4618760256179416344) (fmul .f64 (fsub .f64 4602678819172646912 r1) 4618760256179416344)), undef, undef, undef, undef, undef, undef, undef, undef, undef, undef, undef, undef, undef, undef, undef, undef, undef, undef, undef, undef, undef, undef, undef] H1 (blockQ 0 (seqQ (exK Try.prog E_impl_sine (cr (cr (cr (cr (cr (cr (cr (cr (cr (bodyC Try.f162))))))))))) (retK Try.prog Try.f162 K)))) (loopK (exK Try.prog E_impl_sine (cl (cl (cr (cl (cr (cr (cr (cr (cr (cr (cr (cr (bodyC Try.f162)))))))))))))) [.float .f64 x, undef, .float .f64 0, .float .f64 r1, .bool (fle .f64 4602678819172646912 r1), .float .f64 (fmul .f64 r1 4618760256179416344), .float .f64 (fmul .f64 (fmul .f64 r1 4618760256179416344) (fmul .f64 r1 4618760256179416344)), .float .f64 4607182418800017408, .float .f64 4620693217682128896, .float .f64 x, .float .f64 r1, .float .f64 r1, .bool (fle .f64 4602678819172646912 r1), .bool (fle .f64 4602678819172646912 r1), undef, undef, .float .f64 r1, .bool (flt .f64 4598175219545276416 r1), undef, undef, .float .f64 r1, .float .f64 (fmul .f64 r1 4618760256179416344), .float .f64 (fmul .f64 r1 4618760256179416344), .float .f64 (fmul .f64 r1 4618760256179416344), .float .f64 (fmul .f64 (fmul .f64 r1 4618760256179416344) (fmul .f64 r1 4618760256179416344)), undef, undef, undef, undef, undef, undef, undef, undef, undef, undef, undef, undef, undef, undef, undef, undef, undef, undef, undef, undef, undef, undef, undef] H1 (blockQ 0 (seqQ (exK Try.prog E_impl_sine (cr (cr (cr (cr (cr (cr (cr (cr (cr (bodyC Try.f162))))))))))) (retK Try.prog Try.f162 K)))))) := by kernel_rfl
abbrev impl_sine_P1 (r1 : Nat) (x : Nat) (z1_14 : Value) (z1_15 : Value) (z1_16 : Nat) (z1_17 : Bool) (z1_18 : Value) (z1_19 : Value) (z1_20 : Nat) (z1_21 : Nat) (z1_22 : Nat) (z1_23 : Nat) (z1_24 : Nat) (z1_3 : Nat) (z1_5 : Nat) (z1_6 : Nat) (p : Nat) (k : Nat) (g25 g26 g27 g28 g29 g30 g31 g32 g33 g34 g35 g36 g37 g38 g39 : Value) : List Value := [.float .f64 x, undef, .float .f64 0, .float .f64 z1_3, .bool (fle .f64 4602678819172646912 r1), .float .f64 z1_5, .float .f64 z1_6, .float .f64 p, .float .f64 k, .float .f64 x, .float .f64 r1, .float .f64 r1, .bool (fle .f64 4602678819172646912 r1), .bool (fle .f64 4602678819172646912 r1), z1_14, z1_15, .float .f64 z1_16, .bool z1_17, z1_18, z1_19, .float .f64 z1_20, .float .f64 z1_21, .float .f64 z1_22, .float .f64 z1_23, .float .f64 z1_24, g25, g26, g27, g28, g29, g30, g31, g32, g33, g34, g35, g36, g37, g38, g39, undef, undef, undef, undef, undef, undef, undef, undef]
theorem impl_sine_r1 (r1 : Nat) (x : Nat) (z1_14 : Value) (z1_15 : Value) (z1_16 : Nat) (z1_17 : Bool) (z1_18 : Value) (z1_19 : Value) (z1_20 : Nat) (z1_21 : Nat) (z1_22 : Nat) (z1_23 : Nat) (z1_24 : Nat) (z1_3 : Nat) (z1_5 : Nat) (z1_6 : Nat) (p : Nat) (k : Nat) (g25 g26 g27 g28 g29 g30 g31 g32 g33 g34 g35 g36 g37 g38 g39 : Value) (H : AHeap) (R : Post) : exK Try.prog E_impl_sine (cl (cl (cr (cl (cr (cr (cr (cr (cr (cr (cr (cr (bodyC Try.f162))))))))))))) (impl_sine_P1 r1 x z1_14 z1_15 z1_16 z1_17 z1_18 z1_19 z1_20 z1_21 z1_22 z1_23 z1_24 z1_3 z1_5 z1_6 p k g25 g26 g27 g28 g29 g30 g31 g32 g33 g34 g35 g36 g37 g38 g39) H R =
  (Br (fle .f64 4607182418800017408 k) (R .normal [.float .f64 x, undef, .float .f64 0, .float .f64 z1_3, .bool (fle .f64 4602678819172646912 r1), .float .f64 z1_5, .float .f64 z1_6, .float .f64 (fsub .f64 4607182418800017408 (fdiv .f64 (fmul .f64 z1_6 p) (fmul .f64 (fmul .f64 4611686018427387904 k) (fadd .f64 (fmul .f64 4611686018427387904 k) 4607182418800017408)))), .float .f64 (fsub .f64 k 4607182418800017408), .float .f64 x, .float .f64 r1, .float .f64 r1, .bool (fle .f64 4602678819172646912 r1), .bool (fle .f64 4602678819172646912 r1), z1_14, z1_15, .float .f64 z1_16, .bool z1_17, z1_18, z1_19, .float .f64 z1_20, .float .f64 z1_21, .float .f64 z1_22, .float .f64 z1_23, .float .f64 z1_24, .float .f64 k, .bool (fle .f64 4607182418800017408 k), .float .f64 k, .float .f64 (fsub .f64 k 4607182418800017408), .float .f64 z1_6, .float .f64 p, .float .f64 (fmul .f64 z1_6 p), .float .f64 k, .float .f64 (fmul .f64 4611686018427387904 k), .float .f64 k, .float .f64 (fmul .f64 4611686018427387904 k), .float .f64 (fadd .f64 (fmul .f64 4611686018427387904 k) 4607182418800017408), .float .f64 (fmul .f64 (fmul .f64 4611686018427387904 k) (fadd .f64 (fmul .f64 4611686018427387904 k) 4607182418800017408)), .float .f64 (fdiv .f64 (fmul .f64 z1_6 p) (fmul .f64 (fmul .f64 4611686018427387904 k) (fadd .f64 (fmul .f64 4611686018427387904 k) 4607182418800017408))), .float .f64 (fsub .f64 4607182418800017408 (fdiv .f64 (fmul .f64 z1_6 p) (fmul .f64 (fmul .f64 4611686018427387904 k) (fadd .f64 (fmul .f64 4611686018427387904 k) 4607182418800017408)))), undef, undef, undef, undef, undef, undef, undef, undef] H) (R (.exit 0) [.float .f64 x, undef, .float .f64 0, .float .f64 z1_3, .bool (fle .f64 4602678819172646912 r1), .float .f64 z1_5, .float .f64 z1_6, .float .f64 p, .float .f64 k, .float .f64 x, .float .f64 r1, .float .f64 r1, .bool (fle .f64 4602678819172646912 r1), .bool (fle .f64 4602678819172646912 r1), z1_14, z1_15, .float .f64 z1_16, .bool z1_17, z1_18, z1_19, .float .f64 z1_20, .float .f64 z1_21, .float .f64 z1_22, .float .f64 z1_23, .float .f64 z1_24, .float .f64 k, .bool (fle .f64 4607182418800017408 k), g27, g28, g29, g30, g31, g32, g33, g34, g35, g36, g37, g38, g39, undef, undef, undef, undef, undef, undef, undef, undef] H)) := by kernel_rfl
def impl_sine_I1 (r1 : Nat) (x : Nat) (z1_14 : Value) (z1_15 : Value) (z1_16 : Nat) (z1_17 : Bool) (z1_18 : Value) (z1_19 : Value) (z1_20 : Nat) (z1_21 : Nat) (z1_22 : Nat) (z1_23 : Nat) (z1_24 : Nat) (z1_3 : Nat) (z1_5 : Nat) (z1_6 : Nat) (Inv : Nat → Nat → Nat → AHeap → Prop) : Nat → List Value → AHeap → Prop := fun μ tm H => ∃ (p : Nat), ∃ (k : Nat), ∃ g25 g26 g27 g28 g29 g30 g31 g32 g33 g34 g35 g36 g37 g38 g39, tm = (impl_sine_P1 r1 x z1_14 z1_15 z1_16 z1_17 z1_18 z1_19 z1_20 z1_21 z1_22 z1_23 z1_24 z1_3 z1_5 z1_6 p k g25 g26 g27 g28 g29 g30 g31 g32 g33 g34 g35 g36 g37 g38 g39) ∧ Inv μ p k H
theorem impl_sine_L1 (r1 : Nat) (x : Nat) (z1_14 : Value) (z1_15 : Value) (z1_16 : Nat) (z1_17 : Bool) (z1_18 : Value) (z1_19 : Value) (z1_20 : Nat) (z1_21 : Nat) (z1_22 : Nat) (z1_23 : Nat) (z1_24 : Nat) (z1_3 : Nat) (z1_5 : Nat) (z1_6 : Nat) {Q : Post} (Inv : Nat → Nat → Nat → AHeap → Prop) (ν : Nat) (p : Nat) (k : Nat) (g25 g26 g27 g28 g29 g30 g31 g32 g33 g34 g35 g36 g37 g38 g39 : Value) (H : AHeap) (h0 : Inv ν p k H)
    (hs : ∀ (μ : Nat) (p : Nat) (k : Nat) (g25 g26 g27 g28 g29 g30 g31 g32 g33 g34 g35 g36 g37 g38 g39 : Value) (H : AHeap), Inv μ p k H → exK Try.prog E_impl_sine (cl (cl (cr (cl (cr (cr (cr (cr (cr (cr (cr (cr (bodyC Try.f162))))))))))))) (impl_sine_P1 r1 x z1_14 z1_15 z1_16 z1_17 z1_18 z1_19 z1_20 z1_21 z1_22 z1_23 z1_24 z1_3 z1_5 z1_6 p k g25 g26 g27 g28 g29 g30 g31 g32 g33 g34 g35 g36 g37 g38 g39) H (loopQ (impl_sine_I1 r1 x z1_14 z1_15 z1_16 z1_17 z1_18 z1_19 z1_20 z1_21 z1_22 z1_23 z1_24 z1_3 z1_5 z1_6 Inv) μ Q)) : loopK (exK Try.prog E_impl_sine (cl (cl (cr (cl (cr (cr (cr (cr (cr (cr (cr (cr (bodyC Try.f162)))))))))))))) (impl_sine_P1 r1 x z1_14 z1_15 z1_16 z1_17 z1_18 z1_19 z1_20 z1_21 z1_22 z1_23 z1_24 z1_3 z1_5 z1_6 p k g25 g26 g27 g28 g29 g30 g31 g32 g33 g34 g35 g36 g37 g38 g39) H Q :=
  ⟨impl_sine_I1 r1 x z1_14 z1_15 z1_16 z1_17 z1_18 z1_19 z1_20 z1_21 z1_22 z1_23 z1_24 z1_3 z1_5 z1_6 Inv, ν, ⟨p, k, g25, g26, g27, g28, g29, g30, g31, g32, g33, g34, g35, g36, g37, g38, g39, rfl, h0⟩, fun μ tm H h => by obtain ⟨p, k, g25, g26, g27, g28, g29, g30, g31, g32, g33, g34, g35, g36, g37, g38, g39, rfl, hI⟩ := h; exact hs μ p k g25 g26 g27 g28 g29 g30 g31 g32 g33 g34 g35 g36 g37 g38 g39 H hI⟩
theorem impl_sine_n1 {r1 : Nat} {x : Nat} {z1_14 : Value} {z1_15 : Value} {z1_16 : Nat} {z1_17 : Bool} {z1_18 : Value} {z1_19 : Value} {z1_20 : Nat} {z1_21 : Nat} {z1_22 : Nat} {z1_23 : Nat} {z1_24 : Nat} {z1_3 : Nat} {z1_5 : Nat} {z1_6 : Nat} {Q : Post} {Inv : Nat → Nat → Nat → AHeap → Prop} {μ : Nat} (μ' : Nat) {p : Nat} {k : Nat} {g25 g26 g27 g28 g29 g30 g31 g32 g33 g34 g35 g36 g37 g38 g39 : Value} {H : AHeap} (hm : μ' < μ) (hI : Inv μ' p k H) : loopQ (impl_sine_I1 r1 x z1_14 z1_15 z1_16 z1_17 z1_18 z1_19 z1_20 z1_21 z1_22 z1_23 z1_24 z1_3 z1_5 z1_6 Inv) μ Q .normal (impl_sine_P1 r1 x z1_14 z1_15 z1_16 z1_17 z1_18 z1_19 z1_20 z1_21 z1_22 z1_23 z1_24 z1_3 z1_5 z1_6 p k g25 g26 g27 g28 g29 g30 g31 g32 g33 g34 g35 g36 g37 g38 g39) H := ⟨μ', hm, p, k, g25, g26, g27, g28, g29, g30, g31, g32, g33, g34, g35, g36, g37, g38, g39, rfl, hI⟩
theorem impl_sine_x1_0 (r1 : Nat) (x : Nat) (z1_14 : Value) (z1_15 : Value) (z1_16 : Nat) (z1_17 : Bool) (z1_18 : Value) (z1_19 : Value) (z1_20 : Nat) (z1_21 : Nat) (z1_22 : Nat) (z1_23 : Nat) (z1_24 : Nat) (z1_3 : Nat) (z1_5 : Nat) (z1_6 : Nat) (p : Nat) (k : Nat) (g25 g26 g27 g28 g29 g30 g31 g32 g33 g34 g35 g36 g37 g38 g39 : Value) (H : AHeap) (K : Value → AHeap → Prop)  {I : Nat → List Value → AHeap → Prop} {μ : Nat} : loopQ I μ (blockQ 0 (seqQ (exK Try.prog E_impl_sine (cr (cr (cr (cr (cr (cr (cr (cr (cr (bodyC Try.f162))))))))))) (retK Try.prog Try.f162 K))) (.exit 0) (impl_sine_P1 r1 x z1_14 z1_15 z1_16 z1_17 z1_18 z1_19 z1_20 z1_21 z1_22 z1_23 z1_24 z1_3 z1_5 z1_6 p k g25 g26 g27 g28 g29 g30 g31 g32 g33 g34 g35 g36 g37 g38 g39) H =
  (Br (fle .f64 4602678819172646912 r1) (K (.float .f64 (fneg .f64 (fmul .f64 z1_5 p))) H) (K (.float .f64 (fmul .f64 z1_5 p)) H)) := by kernel_rfl
theorem E_impl_sine_ok : ∀ g, FnOk Try.prog g (E_impl_sine g) := FnOk.envOf (by
  intro x hx
  simp only [List.mem_cons, List.not_mem_nil, or_false] at hx
  subst hx; exact impl_fraction_ok)
set_option maxHeartbeats 1000000 in
theorem impl_sine_main (x : Nat) (H : AHeap) (K : Value → AHeap → Prop) (h : T_impl_sine x H fun (r1 : Nat) (H' : AHeap) => K (.float .f64 r1) H') : bodyK Try.prog E_impl_sine Try.f162 [.float .f64 x] H K := by
  rw [impl_sine_vc]
  obtain ⟨pr0, hk⟩ := h
  have e : (p_impl_sine x) = _ := rfl
  have e := e.trans (p_impl_sine_eq x)
  have g0 := Grow.refl H
  refine T_impl_fraction_i ⟨o14, ?_⟩
  have z_1 := impl_fraction_bd x (by first | assumption | exact abs_in (by assumption) (by assumption))
  refine Br.intro (fun c_2 => ?_) (fun c_2 => ?_)
  · have e := e.trans (cond_t c_2)
    refine Br.intro (fun c_3 => ?_) (fun c_3 => ?_)
    · have e := e.trans (cond_t c_3)
      refine impl_sine_L1 _ _ _ _ _ _ _ _ _ _ _ _ _ _ _ _ (fun (μ : Nat) (p : Nat) (k : Nat) (H_1 : AHeap) => H = H_1 ∧ isCnt k ∧ cnt k ≤ (μ : Int) ∧ p_impl_sine x = p_impl_sine_l1 x (μ + 1) p k) (Int.toNat (cnt 4620693217682128896)) _ _ _ _ _ _ _ _ _ _ _ _ _ _ _ _ _ H ?_ ?_
      · exact ⟨rfl, (by first | omega | (simp; done) | (simp; omega) | (first | exact isCnt.of (n := 8) (by decide) (by decide) | exact (down1 (by assumption) (by assumption)).1)), o3, e⟩
      · intro μ p k g25 g26 g27 g28 g29 g30 g31 g32 g33 g34 g35 g36 g37 g38 g39 H_1 hI
        obtain ⟨rfl, v_4, hμ, e⟩ := hI
        rw [impl_sine_r1]
        have e := e.trans (p_impl_sine_l1_s x μ p k)
        have l_5 := g0.1
        refine Br.intro (fun c_6 => ?_) (fun c_6 => ?_)
        · have e := e.trans (cond_t c_6)
          refine impl_sine_n1 (μ - 1) o17 ⟨rfl, (by first | omega | (first | exact isCnt.of (n := 8) (by decide) (by decide) | exact (down1 (by assumption) (by assumption)).1) | (simp only [List.length_append, List.length_cons, List.length_nil, List.length_set]; done) | (simp only [List.length_append, List.length_cons, List.length_nil, List.length_set]; omega)), o17, (by rw [show μ - 1 + 1 = μ from by first | omega | (have := down1 (by assumption) (by assumption); omega)]; exact e)⟩
        · have e := e.trans (cond_f c_6)
          rw [impl_sine_x1_0]
          refine Br.intro (fun c_7 => ?_) (fun c_7 => ?_)
          · have e := e.trans (cond_t c_7)
            rw [e] at hk
            exact hk
          · have e := e.trans (cond_f c_7)
            rw [e] at hk
            exact hk
    · have e := e.trans (cond_f c_3)
      refine impl_sine_L1 _ _ _ _ _ _ _ _ _ _ _ _ _ _ _ _ (fun (μ : Nat) (p : Nat) (k : Nat) (H_2 : AHeap) => H = H_2 ∧ isCnt k ∧ cnt k ≤ (μ : Int) ∧ p_impl_sine x = p_impl_sine_l1b x (μ + 1) p k) (Int.toNat (cnt 4620693217682128896)) _ _ _ _ _ _ _ _ _ _ _ _ _ _ _ _ _ H ?_ ?_
      · exact ⟨rfl, (by first | omega | (simp; done) | (simp; omega) | (first | exact isCnt.of (n := 8) (by decide) (by decide) | exact (down1 (by assumption) (by assumption)).1)), o3, e⟩
      · intro μ p k g25 g26 g27 g28 g29 g30 g31 g32 g33 g34 g35 g36 g37 g38 g39 H_2 hI
        obtain ⟨rfl, v_8, hμ, e⟩ := hI
        rw [impl_sine_r1]
        have e := e.trans (p_impl_sine_l1b_s x μ p k)
        have l_9 := g0.1
        refine Br.intro (fun c_10 => ?_) (fun c_10 => ?_)
        · have e := e.trans (cond_t c_10)
          refine impl_sine_n1 (μ - 1) o17 ⟨rfl, (by first | omega | (first | exact isCnt.of (n := 8) (by decide) (by decide) | exact (down1 (by assumption) (by assumption)).1) | (simp only [List.length_append, List.length_cons, List.length_nil, List.length_set]; done) | (simp only [List.length_append, List.length_cons, List.length_nil, List.length_set]; omega)), o17, (by rw [show μ - 1 + 1 = μ from by first | omega | (have := down1 (by assumption) (by assumption); omega)]; exact e)⟩
        · have e := e.trans (cond_f c_10)
          rw [impl_sine_x1_0]
          refine Br.intro (fun c_11 => ?_) (fun c_11 => ?_)
          · have e := e.trans (cond_t c_11)
            rw [e] at hk
            exact hk
          · have e := e.trans (cond_f c_11)
            rw [e] at hk
            exact hk
  · have e := e.trans (cond_f c_2)
    refine Br.intro (fun c_12 => ?_) (fun c_12 => ?_)
    · have e := e.trans (cond_t c_12)
      refine impl_sine_L1 _ _ _ _ _ _ _ _ _ _ _ _ _ _ _ _ (fun (μ : Nat) (p : Nat) (k : Nat) (H_3 : AHeap) => H = H_3 ∧ isCnt k ∧ cnt k ≤ (μ : Int) ∧ p_impl_sine x = p_impl_sine_l1c x (μ + 1) p k) (Int.toNat (cnt 4620693217682128896)) _ _ _ _ _ _ _ _ _ _ _ _ _ _ _ _ _ H ?_ ?_
      · exact ⟨rfl, (by first | omega | (simp; done) | (simp; omega) | (first | exact isCnt.of (n := 8) (by decide) (by decide) | exact (down1 (by assumption) (by assumption)).1)), o3, e⟩
      · intro μ p k g25 g26 g27 g28 g29 g30 g31 g32 g33 g34 g35 g36 g37 g38 g39 H_3 hI
        obtain ⟨rfl, v_13, hμ, e⟩ := hI
        rw [impl_sine_r1]
        have e := e.trans (p_impl_sine_l1c_s x μ p k)
        have l_14 := g0.1
        refine Br.intro (fun c_15 => ?_) (fun c_15 => ?_)
        · have e := e.trans (cond_t c_15)
          refine impl_sine_n1 (μ - 1) o17 ⟨rfl, (by first | omega | (first | exact isCnt.of (n := 8) (by decide) (by decide) | exact (down1 (by assumption) (by assumption)).1) | (simp only [List.length_append, List.length_cons, List.length_nil, List.length_set]; done) | (simp only [List.length_append, List.length_cons, List.length_nil, List.length_set]; omega)), o17, (by rw [show μ - 1 + 1 = μ from by first | omega | (have := down1 (by assumption) (by assumption); omega)]; exact e)⟩
        · have e := e.trans (cond_f c_15)
          rw [impl_sine_x1_0]
          refine Br.intro (fun c_16 => ?_) (fun c_16 => ?_)
          · have e := e.trans (cond_t c_16)
            rw [e] at hk
            exact hk
          · have e := e.trans (cond_f c_16)
            rw [e] at hk
            exact hk
    · have e := e.trans (cond_f c_12)
      refine impl_sine_L1 _ _ _ _ _ _ _ _ _ _ _ _ _ _ _ _ (fun (μ : Nat) (p : Nat) (k : Nat) (H_4 : AHeap) => H = H_4 ∧ isCnt k ∧ cnt k ≤ (μ : Int) ∧ p_impl_sine x = p_impl_sine_l1d x (μ + 1) p k) (Int.toNat (cnt 4620693217682128896)) _ _ _ _ _ _ _ _ _ _ _ _ _ _ _ _ _ H ?_ ?_
      · exact ⟨rfl, (by first | omega | (simp; done) | (simp; omega) | (first | exact isCnt.of (n := 8) (by decide) (by decide) | exact (down1 (by assumption) (by assumption)).1)), o3, e⟩
      · intro μ p k g25 g26 g27 g28 g29 g30 g31 g32 g33 g34 g35 g36 g37 g38 g39 H_4 hI
        obtain ⟨rfl, v_17, hμ, e⟩ := hI
        rw [impl_sine_r1]
        have e := e.trans (p_impl_sine_l1d_s x μ p k)
        have l_18 := g0.1
        refine Br.intro (fun c_19 => ?_) (fun c_19 => ?_)
        · have e := e.trans (cond_t c_19)
          refine impl_sine_n1 (μ - 1) o17 ⟨rfl, (by first | omega | (first | exact isCnt.of (n := 8) (by decide) (by decide) | exact (down1 (by assumption) (by assumption)).1) | (simp only [List.length_append, List.length_cons, List.length_nil, List.length_set]; done) | (simp only [List.length_append, List.length_cons, List.length_nil, List.length_set]; omega)), o17, (by rw [show μ - 1 + 1 = μ from by first | omega | (have := down1 (by assumption) (by assumption); omega)]; exact e)⟩
        · have e := e.trans (cond_f c_19)
          rw [impl_sine_x1_0]
          refine Br.intro (fun c_20 => ?_) (fun c_20 => ?_)
          · have e := e.trans (cond_t c_20)
            rw [e] at hk
            exact hk
          · have e := e.trans (cond_f c_20)
            rw [e] at hk
            exact hk
theorem impl_sine_ok : FnOk Try.prog 162 S_impl_sine := by
  refine FnOk.body mix_ok E_impl_sine_ok Try.func162 rfl (by kernel_rfl) (by kernel_rfl) ?_ ?_ ?_ ?_ ?_
  · intro args H K K' h hk
    simp only [S_impl_sine] at *
    unfold F_impl_sine at *
    split at hk
    · obtain ⟨pr0, k⟩ := hk
      exact ⟨pr0, h _ _ k⟩
    · exact hk.elim
  · intro _ args H K hk
    simp only [S_impl_sine] at *
    unfold F_impl_sine at *
    split at hk
    · obtain ⟨pr0, k⟩ := hk
      exact ⟨_, k, fun K' k' => ⟨pr0, k'⟩⟩
    · exact hk.elim
  · intro args H K hk
    simp only [S_impl_sine] at *
    unfold F_impl_sine at *
    split at hk
    · obtain ⟨pr0, k⟩ := hk
      exact ⟨_, _, k⟩
    · exact hk.elim
  · intro hq; cases hq
  · have mm := @impl_sine_main
    revert mm
    generalize bodyK Try.prog E_impl_sine Try.f162 = Q
    intro mm args H K hk
    simp only [S_impl_sine] at *
    unfold F_impl_sine at *
    split at hk
    · exact mm _ H K hk
    · exact hk.elim

def p_impl_PhasorOf_l1 (turns : Nat) : Nat → Nat → Int → Nat × Nat
  | 0, _, _ => (0, 0)
  | μ + 1, f, q => (bif fle .f64 4598175219545276416 f then (p_impl_PhasorOf_l1 turns μ (fsub .f64 f 4598175219545276416) (q + 1)) else (bif (q : Int) == 1 then (((fnarrow (fsub .f64 0 (p_impl_sine f))).getD 0), ((fnarrow ((p_impl_sine (fsub .f64 4598175219545276416 f)))).getD 0)) else (bif (q : Int) == 2 then (((fnarrow (fsub .f64 0 ((p_impl_sine (fsub .f64 4598175219545276416 f))))).getD 0), ((fnarrow (fsub .f64 0 (p_impl_sine f))).getD 0)) else (bif (q : Int) == 3 then (((fnarrow (p_impl_sine f)).getD 0), ((fnarrow (fsub .f64 0 ((p_impl_sine (fsub .f64 4598175219545276416 f))))).getD 0)) else (((fnarrow ((p_impl_sine (fsub .f64 4598175219545276416 f)))).getD 0), ((fnarrow (p_impl_sine f)).getD 0))))))
def p_impl_PhasorOf_l1_s := fun turns μ f q => @p_impl_PhasorOf_l1.eq_2 turns f q μ
def p_impl_PhasorOf (turns : Nat) : Nat × Nat := (bif !(p_impl_isFinite64 turns) then (((fnarrow p_math_NaN).getD 0), ((fnarrow p_math_NaN).getD 0)) else (bif fle .f64 4841369599423283200 (p_math_Abs turns) then (1065353216, 0) else (p_impl_PhasorOf_l1 turns (Int.toNat (qm (p_impl_fraction turns)) + 1) (p_impl_fraction turns) (0 : Int))))
def p_impl_PhasorOf_eq := @p_impl_PhasorOf.eq_1
def T_impl_PhasorOf (turns : Nat) (H : AHeap) (K : Nat → Nat → AHeap → Prop) : Prop := K ((p_impl_PhasorOf turns).1) ((p_impl_PhasorOf turns).2) H
theorem T_impl_PhasorOf_i {turns : Nat} {H : AHeap} {K : Nat → Nat → AHeap → Prop} (h : K ((p_impl_PhasorOf turns).1) ((p_impl_PhasorOf turns).2) H) : T_impl_PhasorOf turns H K := h
theorem nan_nar : fnarrow p_math_NaN ≠ none := by decide +kernel
theorem abs_in {x : Nat} (h0 : p_impl_isFinite64 x = true) (h1 : fle .f64 4841369599423283200 (p_math_Abs x) = false) : Bd .f64 (52 + lp .f64) x := by
  have h0 : feq .f64 (fsub .f64 x x) 0 = true := h0
  rw [fin_asked] at h0
  refine abs_in' h0 ?_
  unfold p_math_Abs at h1
  rw [cn_of_not_nan (fin_nn h0)] at h1
  obtain ⟨s, m, e, hr⟩ := fin_num h0
  have hm := read_mod hr
  rw [show FloatKind.f64.format.signWeight = 9223372036854775808 by decide] at hm
  rwa [cn_of_not_nan (show (FloatKind.f64.decode _).isNaN = false from by show (FloatKind.f64.format.read _).isNaN = false; rw [hm]; rfl)] at h1
/-! impl_PhasorOf: function 116 -/
def E_impl_PhasorOf : Env := envOf [(158, S_impl_isFinite64), (159, S_math_NaN), (160, S_math_Abs), (161, S_impl_fraction), (162, S_impl_sine)]
def F_impl_PhasorOf : List Value → AHeap → (Value → AHeap → Prop) → Prop
  | [.float .f64 turns], H, K => T_impl_PhasorOf turns H fun (r1_r : Nat) (r1_i : Nat) (H' : AHeap) => K (.complex .f32 r1_r r1_i) H'
  | _, _, _ => False
def S_impl_PhasorOf : FSpec := { F := F_impl_PhasorOf, quiet := true, tame := false }
theorem impl_PhasorOf_vc (turns : Nat) (H : AHeap) (K : Value → AHeap → Prop) : bodyK Try.prog E_impl_PhasorOf Try.f116 [.float .f64 turns] H K =
  (T_impl_isFinite64 turns H fun (r1 : Bool) (H1 : AHeap) => Br (!r1) (T_math_NaN  H1 fun (r2 : Nat) (H2 : AHeap) => ∃ x1 : Nat, fnarrow r2 = some x1 ∧ K (.complex .f32 x1 x1) H2) (T_math_Abs turns H1 fun (r3 : Nat) (H3 : AHeap) => Br (fle .f64 4841369599423283200 r3) (K (.complex .f32 1065353216 0) H3) (T_impl_fraction turns H3 fun (r4 : Nat) (H4 : AHeap) => loopK (exK Try.prog E_impl_PhasorOf (cl (cl (cl (cr (cr (cr (cr (cr (bodyC Try.f116)))))))))) [.float .f64 turns, undef, .complex .f32 0 0, undef, .float .f64 r4, .int .i64 0, undef, undef, .float .f64 turns, .bool r1, .bool (!r1), undef, undef, undef, undef, undef, .float .f64 turns, .float .f64 r3, .bool (fle .f64 4841369599423283200 r3), .float .f64 turns, .float .f64 r4, undef, undef, undef, undef, undef, undef, undef, undef, undef, undef, undef, undef, undef, undef, undef, undef, undef, undef, undef, undef, undef, undef, undef, undef, undef, undef, undef, undef, undef, undef, undef, undef, undef] H4 (blockQ 0 (seqQ (exK Try.prog E_impl_PhasorOf (cr (cr (cr (cr (cr (cr (bodyC Try.f116)))))))) (retK Try.prog Try.f116 K)))))) := by kernel_rfl
abbrev impl_PhasorOf_P1 (r1 : Bool) (r3 : Nat) (r4 : Nat) (turns : Nat) (f : Nat) (q : Int) (g21 g22 g23 g24 g25 g26 : Value) : List Value := [.float .f64 turns, undef, .complex .f32 0 0, undef, .float .f64 f, .int .i64 q, undef, undef, .float .f64 turns, .bool r1, .bool (!r1), undef, undef, undef, undef, undef, .float .f64 turns, .float .f64 r3, .bool (fle .f64 4841369599423283200 r3), .float .f64 turns, .float .f64 r4, g21, g22, g23, g24, g25, g26, undef, undef, undef, undef, undef, undef, undef, undef, undef, undef, undef, undef, undef, undef, undef, undef, undef, undef, undef, undef, undef, undef, undef, undef, undef, undef, undef]
theorem impl_PhasorOf_r1 (r1 : Bool) (r3 : Nat) (r4 : Nat) (turns : Nat) (f : Nat) (q : Int) (g21 g22 g23 g24 g25 g26 : Value) (H : AHeap) (R : Post) : exK Try.prog E_impl_PhasorOf (cl (cl (cl (cr (cr (cr (cr (cr (bodyC Try.f116))))))))) (impl_PhasorOf_P1 r1 r3 r4 turns f q g21 g22 g23 g24 g25 g26) H R =
  (Br (fle .f64 4598175219545276416 f) (R .normal [.float .f64 turns, undef, .complex .f32 0 0, undef, .float .f64 (fsub .f64 f 4598175219545276416), .int .i64 (IntKind.wrap .i64 (q + 1)), undef, undef, .float .f64 turns, .bool r1, .bool (!r1), undef, undef, undef, undef, undef, .float .f64 turns, .float .f64 r3, .bool (fle .f64 4841369599423283200 r3), .float .f64 turns, .float .f64 r4, .float .f64 f, .bool (fle .f64 4598175219545276416 f), .float .f64 f, .float .f64 (fsub .f64 f 4598175219545276416), .int .i64 q, .int .i64 (IntKind.wrap .i64 (q + 1)), undef, undef, undef, undef, undef, undef, undef, undef, undef, undef, undef, undef, undef, undef, undef, undef, undef, undef, undef, undef, undef, undef, undef, undef, undef, undef, undef] H) (R (.exit 0) [.float .f64 turns, undef, .complex .f32 0 0, undef, .float .f64 f, .int .i64 q, undef, undef, .float .f64 turns, .bool r1, .bool (!r1), undef, undef, undef, undef, undef, .float .f64 turns, .float .f64 r3, .bool (fle .f64 4841369599423283200 r3), .float .f64 turns, .float .f64 r4, .float .f64 f, .bool (fle .f64 4598175219545276416 f), g23, g24, g25, g26, undef, undef, undef, undef, undef, undef, undef, undef, undef, undef, undef, undef, undef, undef, undef, undef, undef, undef, undef, undef, undef, undef, undef, undef, undef, undef, undef] H)) := by kernel_rfl
def impl_PhasorOf_I1 (r1 : Bool) (r3 : Nat) (r4 : Nat) (turns : Nat) (Inv : Nat → Nat → Int → AHeap → Prop) : Nat → List Value → AHeap → Prop := fun μ tm H => ∃ (f : Nat), ∃ (q : Int), ∃ g21 g22 g23 g24 g25 g26, tm = (impl_PhasorOf_P1 r1 r3 r4 turns f q g21 g22 g23 g24 g25 g26) ∧ Inv μ f q H
theorem impl_PhasorOf_L1 (r1 : Bool) (r3 : Nat) (r4 : Nat) (turns : Nat) {Q : Post} (Inv : Nat → Nat → Int → AHeap → Prop) (ν : Nat) (f : Nat) (q : Int) (g21 g22 g23 g24 g25 g26 : Value) (H : AHeap) (h0 : Inv ν f q H)
    (hs : ∀ (μ : Nat) (f : Nat) (q : Int) (g21 g22 g23 g24 g25 g26 : Value) (H : AHeap), Inv μ f q H → exK Try.prog E_impl_PhasorOf (cl (cl (cl (cr (cr (cr (cr (cr (bodyC Try.f116))))))))) (impl_PhasorOf_P1 r1 r3 r4 turns f q g21 g22 g23 g24 g25 g26) H (loopQ (impl_PhasorOf_I1 r1 r3 r4 turns Inv) μ Q)) : loopK (exK Try.prog E_impl_PhasorOf (cl (cl (cl (cr (cr (cr (cr (cr (bodyC Try.f116)))))))))) (impl_PhasorOf_P1 r1 r3 r4 turns f q g21 g22 g23 g24 g25 g26) H Q :=
  ⟨impl_PhasorOf_I1 r1 r3 r4 turns Inv, ν, ⟨f, q, g21, g22, g23, g24, g25, g26, rfl, h0⟩, fun μ tm H h => by obtain ⟨f, q, g21, g22, g23, g24, g25, g26, rfl, hI⟩ := h; exact hs μ f q g21 g22 g23 g24 g25 g26 H hI⟩
theorem impl_PhasorOf_n1 {r1 : Bool} {r3 : Nat} {r4 : Nat} {turns : Nat} {Q : Post} {Inv : Nat → Nat → Int → AHeap → Prop} {μ : Nat} (μ' : Nat) {f : Nat} {q : Int} {g21 g22 g23 g24 g25 g26 : Value} {H : AHeap} (hm : μ' < μ) (hI : Inv μ' f q H) : loopQ (impl_PhasorOf_I1 r1 r3 r4 turns Inv) μ Q .normal (impl_PhasorOf_P1 r1 r3 r4 turns f q g21 g22 g23 g24 g25 g26) H := ⟨μ', hm, f, q, g21, g22, g23, g24, g25, g26, rfl, hI⟩
theorem impl_PhasorOf_x1_0 (r1 : Bool) (r3 : Nat) (r4 : Nat) (turns : Nat) (f : Nat) (q : Int) (g21 g22 g23 g24 g25 g26 : Value) (H : AHeap) (K : Value → AHeap → Prop)  {I : Nat → List Value → AHeap → Prop} {μ : Nat} : loopQ I μ (blockQ 0 (seqQ (exK Try.prog E_impl_PhasorOf (cr (cr (cr (cr (cr (cr (bodyC Try.f116)))))))) (retK Try.prog Try.f116 K))) (.exit 0) (impl_PhasorOf_P1 r1 r3 r4 turns f q g21 g22 g23 g24 g25 g26) H =
  (T_impl_sine (fsub .f64 4598175219545276416 f) H fun (r5 : Nat) (H5 : AHeap) => T_impl_sine f H5 fun (r6 : Nat) (H6 : AHeap) => Br ((q : Int) == 1) (∃ x2 : Nat, fnarrow (fsub .f64 0 r6) = some x2 ∧ ∃ x3 : Nat, fnarrow r5 = some x3 ∧ K (.complex .f32 x2 x3) H6) (Br ((q : Int) == 2) (∃ x4 : Nat, fnarrow (fsub .f64 0 r5) = some x4 ∧ ∃ x5 : Nat, fnarrow (fsub .f64 0 r6) = some x5 ∧ K (.complex .f32 x4 x5) H6) (Br ((q : Int) == 3) (∃ x6 : Nat, fnarrow r6 = some x6 ∧ ∃ x7 : Nat, fnarrow (fsub .f64 0 r5) = some x7 ∧ K (.complex .f32 x6 x7) H6) (∃ x8 : Nat, fnarrow r5 = some x8 ∧ ∃ x9 : Nat, fnarrow r6 = some x9 ∧ K (.complex .f32 x8 x9) H6)))) := by kernel_rfl
theorem E_impl_PhasorOf_ok : ∀ g, FnOk Try.prog g (E_impl_PhasorOf g) := FnOk.envOf (by
  intro x hx
  simp only [List.mem_cons, List.not_mem_nil, or_false] at hx
  rcases hx with rfl | rfl | rfl | rfl | rfl
  · exact impl_isFinite64_ok
  · exact math_NaN_ok
  · exact math_Abs_ok
  · exact impl_fraction_ok
  · exact impl_sine_ok)
theorem o16 {P : Prop} (h : P := by first | exact nan_nar | exact bd_nar (by assumption) | exact bd_nar0 (by assumption)) : P := h
theorem o30 {P : Prop} (h : P := by first | assumption | omega | (simp; omega) | (first | exact lp_up (by assumption) | exact rest_bd (by assumption))) : P := h
set_option maxHeartbeats 1000000 in
theorem impl_PhasorOf_main (turns : Nat) (H : AHeap) (K : Value → AHeap → Prop) (h : T_impl_PhasorOf turns H fun (r1_r : Nat) (r1_i : Nat) (H' : AHeap) => K (.complex .f32 r1_r r1_i) H') : bodyK Try.prog E_impl_PhasorOf Try.f116 [.float .f64 turns] H K := by
  rw [impl_PhasorOf_vc]
  have hk := h
  unfold T_impl_PhasorOf at hk
  have e : (p_impl_PhasorOf turns) = _ := rfl
  have e := e.trans (p_impl_PhasorOf_eq turns)
  have g0 := Grow.refl H
  refine T_impl_isFinite64_i ?_
  refine Br.intro (fun c_1 => ?_) (fun c_1 => ?_)
  · have e := e.trans (cond_t c_1)
    have c_1n := nf_of_t c_1
    refine T_math_NaN_i ?_
    refine ⟨_, opt_get (d := 0) o16, ?_⟩
    rw [e] at hk
    exact hk
  · have e := e.trans (cond_f c_1)
    have c_1n := nt_of_f c_1
    refine T_math_Abs_i ?_
    refine Br.intro (fun c_2 => ?_) (fun c_2 => ?_)
    · have e := e.trans (cond_t c_2)
      rw [e] at hk
      exact hk
    · have e := e.trans (cond_f c_2)
      refine T_impl_fraction_i ⟨(by first | assumption | omega | (simp; omega) | (exact abs_in (by assumption) (by assumption))), ?_⟩
      have z_3 := impl_fraction_bd turns (by first | assumption | exact abs_in (by assumption) (by assumption))
      refine impl_PhasorOf_L1 _ _ _ _ (fun (μ : Nat) (f : Nat) (q : Int) (H_1 : AHeap) => H = H_1 ∧ Bd .f64 (lp .f64) f ∧ 0 ≤ q ∧ q + qm f ≤ 4 ∧ -4 ≤ qm f ∧ qm f ≤ (μ : Int) ∧ p_impl_PhasorOf turns = p_impl_PhasorOf_l1 turns (μ + 1) f q) (Int.toNat (qm (p_impl_fraction turns))) _ _ _ _ _ _ _ _ H ?_ ?_
      · exact ⟨rfl, (by first | omega | (simp; done) | (simp; omega) | (first | omega | assumption | with_reducible exact (qm_step (by assumption) (by assumption)).1 | (have := (qm_step (by assumption) (by assumption)); have := qm_le (qm_step (by assumption) (by assumption)).1; omega) | (have := qm_le (by assumption : Bd .f64 (lp .f64) (p_impl_fraction turns)); omega))), (by first | omega | (simp; done) | (simp; omega) | (first | omega | assumption | with_reducible exact (qm_step (by assumption) (by assumption)).1 | (have := (qm_step (by assumption) (by assumption)); have := qm_le (qm_step (by assumption) (by assumption)).1; omega) | (have := qm_le (by assumption : Bd .f64 (lp .f64) (p_impl_fraction turns)); omega))), (by first | omega | (simp; done) | (simp; omega) | (first | omega | assumption | with_reducible exact (qm_step (by assumption) (by assumption)).1 | (have := (qm_step (by assumption) (by assumption)); have := qm_le (qm_step (by assumption) (by assumption)).1; omega) | (have := qm_le (by assumption : Bd .f64 (lp .f64) (p_impl_fraction turns)); omega))), (by first | omega | (simp; done) | (simp; omega) | (first | omega | assumption | with_reducible exact (qm_step (by assumption) (by assumption)).1 | (have := (qm_step (by assumption) (by assumption)); have := qm_le (qm_step (by assumption) (by assumption)).1; omega) | (have := qm_le (by assumption : Bd .f64 (lp .f64) (p_impl_fraction turns)); omega))), o3, e⟩
      · intro μ f q g21 g22 g23 g24 g25 g26 H_1 hI
        obtain ⟨rfl, v_4, v_5, v_6, v_7, hμ, e⟩ := hI
        rw [impl_PhasorOf_r1]
        have e := e.trans (p_impl_PhasorOf_l1_s turns μ f q)
        have l_8 := g0.1
        refine Br.intro (fun c_9 => ?_) (fun c_9 => ?_)
        · have e := e.trans (cond_t c_9)
          rw [show IntKind.wrap .i64 (q + 1) = (q + 1) from wrap64 o3 o3]
          refine impl_PhasorOf_n1 (μ - 1) o23 ⟨rfl, (by first | omega | (first | omega | assumption | with_reducible exact (qm_step (by assumption) (by assumption)).1 | (have := (qm_step (by assumption) (by assumption)); have := qm_le (qm_step (by assumption) (by assumption)).1; omega) | (have := qm_le (by assumption : Bd .f64 (lp .f64) (p_impl_fraction turns)); omega)) | (simp only [List.length_append, List.length_cons, List.length_nil, List.length_set]; done) | (simp only [List.length_append, List.length_cons, List.length_nil, List.length_set]; omega)), (by first | omega | (first | omega | assumption | with_reducible exact (qm_step (by assumption) (by assumption)).1 | (have := (qm_step (by assumption) (by assumption)); have := qm_le (qm_step (by assumption) (by assumption)).1; omega) | (have := qm_le (by assumption : Bd .f64 (lp .f64) (p_impl_fraction turns)); omega)) | (simp only [List.length_append, List.length_cons, List.length_nil, List.length_set]; done) | (simp only [List.length_append, List.length_cons, List.length_nil, List.length_set]; omega)), (by first | omega | (first | omega | assumption | with_reducible exact (qm_step (by assumption) (by assumption)).1 | (have := (qm_step (by assumption) (by assumption)); have := qm_le (qm_step (by assumption) (by assumption)).1; omega) | (have := qm_le (by assumption : Bd .f64 (lp .f64) (p_impl_fraction turns)); omega)) | (simp only [List.length_append, List.length_cons, List.length_nil, List.length_set]; done) | (simp only [List.length_append, List.length_cons, List.length_nil, List.length_set]; omega)), (by first | omega | (first | omega | assumption | with_reducible exact (qm_step (by assumption) (by assumption)).1 | (have := (qm_step (by assumption) (by assumption)); have := qm_le (qm_step (by assumption) (by assumption)).1; omega) | (have := qm_le (by assumption : Bd .f64 (lp .f64) (p_impl_fraction turns)); omega)) | (simp only [List.length_append, List.length_cons, List.length_nil, List.length_set]; done) | (simp only [List.length_append, List.length_cons, List.length_nil, List.length_set]; omega)), o23, (by rw [show μ - 1 + 1 = μ from by first | omega | (have := qm_step (by assumption) (by assumption); omega)]; exact e)⟩
        · have e := e.trans (cond_f c_9)
          rw [impl_PhasorOf_x1_0]
          refine T_impl_sine_i ⟨o30, ?_⟩
          have z_10 := impl_sine_bd (fsub .f64 4598175219545276416 f) (by first | exact lp_up (by assumption) | exact rest_bd (by assumption))
          refine T_impl_sine_i ⟨o30, ?_⟩
          have z_11 := impl_sine_bd f (by first | exact lp_up (by assumption) | exact rest_bd (by assumption))
          refine Br.intro (fun c_12 => ?_) (fun c_12 => ?_)
          · have e := e.trans (cond_t c_12)
            have c_12' := ieq_t c_12
            refine ⟨_, opt_get (d := 0) o16, ?_⟩
            refine ⟨_, opt_get (d := 0) o16, ?_⟩
            rw [e] at hk
            exact hk
          · have e := e.trans (cond_f c_12)
            have c_12' := ieq_f c_12
            refine Br.intro (fun c_13 => ?_) (fun c_13 => ?_)
            · have e := e.trans (cond_t c_13)
              have c_13' := ieq_t c_13
              refine ⟨_, opt_get (d := 0) o16, ?_⟩
              refine ⟨_, opt_get (d := 0) o16, ?_⟩
              rw [e] at hk
              exact hk
            · have e := e.trans (cond_f c_13)
              have c_13' := ieq_f c_13
              refine Br.intro (fun c_14 => ?_) (fun c_14 => ?_)
              · have e := e.trans (cond_t c_14)
                have c_14' := ieq_t c_14
                refine ⟨_, opt_get (d := 0) o16, ?_⟩
                refine ⟨_, opt_get (d := 0) o16, ?_⟩
                rw [e] at hk
                exact hk
              · have e := e.trans (cond_f c_14)
                have c_14' := ieq_f c_14
                refine ⟨_, opt_get (d := 0) o16, ?_⟩
                refine ⟨_, opt_get (d := 0) o16, ?_⟩
                rw [e] at hk
                exact hk
theorem impl_PhasorOf_ok : FnOk Try.prog 116 S_impl_PhasorOf := by
  refine FnOk.body mix_ok E_impl_PhasorOf_ok Try.func116 rfl (by kernel_rfl) (by kernel_rfl) ?_ ?_ ?_ ?_ ?_
  · intro args H K K' h hk
    simp only [S_impl_PhasorOf] at *
    unfold F_impl_PhasorOf at *
    split at hk
    · have k := hk
      exact h _ _ k
    · exact hk.elim
  · intro _ args H K hk
    simp only [S_impl_PhasorOf] at *
    unfold F_impl_PhasorOf at *
    split at hk
    · have k := hk
      exact ⟨_, k, fun K' k' => k'⟩
    · exact hk.elim
  · intro args H K hk
    simp only [S_impl_PhasorOf] at *
    unfold F_impl_PhasorOf at *
    split at hk
    · have k := hk
      exact ⟨_, _, k⟩
    · exact hk.elim
  · intro hq; cases hq
  · have mm := @impl_PhasorOf_main
    revert mm
    generalize bodyK Try.prog E_impl_PhasorOf Try.f116 = Q
    intro mm args H K hk
    simp only [S_impl_PhasorOf] at *
    unfold F_impl_PhasorOf at *
    split at hk
    · exact mm _ H K hk
    · exact hk.elim
def p_impl_ScaleComplex (x_r : Nat) (x_i : Nat) (vby : Nat) : Nat × Nat := (fmul .f32 x_r vby, fmul .f32 x_i vby)
def p_impl_ScaleComplex_eq := @p_impl_ScaleComplex.eq_1
def T_impl_ScaleComplex (x_r : Nat) (x_i : Nat) (vby : Nat) (H : AHeap) (K : Nat → Nat → AHeap → Prop) : Prop := K (p_impl_ScaleComplex x_r x_i vby).1 (p_impl_ScaleComplex x_r x_i vby).2 H

theorem T_impl_ScaleComplex_i {x_r : Nat} {x_i : Nat} {vby : Nat} {H : AHeap} {K : Nat → Nat → AHeap → Prop} (h : K (p_impl_ScaleComplex x_r x_i vby).1 (p_impl_ScaleComplex x_r x_i vby).2 H) : T_impl_ScaleComplex x_r x_i vby H K := h
/-! impl_ScaleComplex: function 115 -/
def E_impl_ScaleComplex : Env := envOf []
def F_impl_ScaleComplex : List Value → AHeap → (Value → AHeap → Prop) → Prop
  | [.complex .f32 x_r x_i, .float .f32 vby], H, K => T_impl_ScaleComplex x_r x_i vby H fun (r1_r : Nat) (r1_i : Nat) (H' : AHeap) => K (.complex .f32 r1_r r1_i) H'
  | _, _, _ => False
def S_impl_ScaleComplex : FSpec := { F := F_impl_ScaleComplex, quiet := true, tame := false }
theorem impl_ScaleComplex_vc (x_r : Nat) (x_i : Nat) (vby : Nat) (H : AHeap) (K : Value → AHeap → Prop) : bodyK Try.prog E_impl_ScaleComplex Try.f115 [.complex .f32 x_r x_i, .float .f32 vby] H K =
  (K (.complex .f32 (fmul .f32 x_r vby) (fmul .f32 x_i vby)) H) := by kernel_rfl
theorem E_impl_ScaleComplex_ok : ∀ g, FnOk Try.prog g (E_impl_ScaleComplex g) := FnOk.envOf (by
  intro x hx; cases hx)
set_option maxHeartbeats 1000000 in
theorem impl_ScaleComplex_main (x_r : Nat) (x_i : Nat) (vby : Nat) (H : AHeap) (K : Value → AHeap → Prop) (h : T_impl_ScaleComplex x_r x_i vby H fun (r1_r : Nat) (r1_i : Nat) (H' : AHeap) => K (.complex .f32 r1_r r1_i) H') : bodyK Try.prog E_impl_ScaleComplex Try.f115 [.complex .f32 x_r x_i, .float .f32 vby] H K := by
  rw [impl_ScaleComplex_vc]
  unfold T_impl_ScaleComplex p_impl_ScaleComplex at h
  repeat' (first | exact h | (exfalso; simp_all; done) | (refine ⟨by decide, ?_⟩) | (refine Br.intro (fun hb => ?_) (fun hb => ?_) <;> (try simp only [hb, cond_true, cond_false, Bool.not_true, Bool.not_false] at h)))
theorem impl_ScaleComplex_ok : FnOk Try.prog 115 S_impl_ScaleComplex := by
  refine FnOk.body mix_ok E_impl_ScaleComplex_ok Try.func115 rfl (by kernel_rfl) (by kernel_rfl) ?_ ?_ ?_ ?_ ?_
  · intro args H K K' h hk
    simp only [S_impl_ScaleComplex] at *
    unfold F_impl_ScaleComplex at *
    split at hk
    · have k := hk
      exact h _ _ k
    · exact hk.elim
  · intro _ args H K hk
    simp only [S_impl_ScaleComplex] at *
    unfold F_impl_ScaleComplex at *
    split at hk
    · have k := hk
      exact ⟨_, k, fun K' k' => k'⟩
    · exact hk.elim
  · intro args H K hk
    simp only [S_impl_ScaleComplex] at *
    unfold F_impl_ScaleComplex at *
    split at hk
    · have k := hk
      exact ⟨_, _, k⟩
    · exact hk.elim
  · intro hq; cases hq
  · have mm := @impl_ScaleComplex_main
    revert mm
    generalize bodyK Try.prog E_impl_ScaleComplex Try.f115 = Q
    intro mm args H K hk
    simp only [S_impl_ScaleComplex] at *
    unfold F_impl_ScaleComplex at *
    split at hk
    · exact mm _ _ _ H K hk
    · exact hk.elim

def p_impl_kernel_l1 (scale : Nat) : Nat → (List (Nat × Nat)) → Int → (List (Nat × Nat)) × Int
  | 0, _, _ => ([], 0)
  | μ + 1, l_vout, t18 => (bif decide ((t18 : Int) < (((2 * (((ftoi .f64 ((p_math_Ceil (fwide (fmul .f32 1077936128 scale)))) .i64).getD 0)))) + 1)) then (p_impl_kernel_l1 scale μ ((l_vout ++ [((p_impl_ScaleComplex ((p_impl_PhasorOf (fwide (fdiv .f32 (FloatKind.nearest .f32 ((t18 - (((ftoi .f64 ((p_math_Ceil (fwide (fmul .f32 1077936128 scale)))) .i64).getD 0))))) scale))).1) ((p_impl_PhasorOf (fwide (fdiv .f32 (FloatKind.nearest .f32 ((t18 - (((ftoi .f64 ((p_math_Ceil (fwide (fmul .f32 1077936128 scale)))) .i64).getD 0))))) scale))).2) (fdiv .f32 ((p_impl_ExpNumber (fmul .f32 (fmul .f32 3204448256 (fdiv .f32 (FloatKind.nearest .f32 ((t18 - (((ftoi .f64 ((p_math_Ceil (fwide (fmul .f32 1077936128 scale)))) .i64).getD 0))))) scale)) (fdiv .f32 (FloatKind.nearest .f32 ((t18 - (((ftoi .f64 ((p_math_Ceil (fwide (fmul .f32 1077936128 scale)))) .i64).getD 0))))) scale)))) scale)).1, (p_impl_ScaleComplex ((p_impl_PhasorOf (fwide (fdiv .f32 (FloatKind.nearest .f32 ((t18 - (((ftoi .f64 ((p_math_Ceil (fwide (fmul .f32 1077936128 scale)))) .i64).getD 0))))) scale))).1) ((p_impl_PhasorOf (fwide (fdiv .f32 (FloatKind.nearest .f32 ((t18 - (((ftoi .f64 ((p_math_Ceil (fwide (fmul .f32 1077936128 scale)))) .i64).getD 0))))) scale))).2) (fdiv .f32 ((p_impl_ExpNumber (fmul .f32 (fmul .f32 3204448256 (fdiv .f32 (FloatKind.nearest .f32 ((t18 - (((ftoi .f64 ((p_math_Ceil (fwide (fmul .f32 1077936128 scale)))) .i64).getD 0))))) scale)) (fdiv .f32 (FloatKind.nearest .f32 ((t18 - (((ftoi .f64 ((p_math_Ceil (fwide (fmul .f32 1077936128 scale)))) .i64).getD 0))))) scale)))) scale)).2)])) (t18 + 1)) else (l_vout, ((ftoi .f64 ((p_math_Ceil (fwide (fmul .f32 1077936128 scale)))) .i64).getD 0)))
def p_impl_kernel_l1_s := fun scale μ l_vout t18 => @p_impl_kernel_l1.eq_2 scale l_vout t18 μ
def p_impl_kernel (scale : Nat) : (List (Nat × Nat)) × Int := (p_impl_kernel_l1 scale (Int.toNat ((((2 * (((ftoi .f64 ((p_math_Ceil (fwide (fmul .f32 1077936128 scale)))) .i64).getD 0)))) + 1) - (0 : Int)) + 1) (([] : List (Nat × Nat))) (0 : Int))
def p_impl_kernel_eq := @p_impl_kernel.eq_1
def T_impl_kernel (scale : Nat) (H : AHeap) (K : (Option Addr) → Nat → Nat → Int → AHeap → Prop) : Prop := (bif fle .f32 1056964608 scale then fle .f32 scale 1098907648 else false) = true ∧ ((∀ (r1_a : Option Addr) (r1_n r1_e : Nat), ∀ H' : AHeap, Grow H H' → OwnS fC H' H.length r1_a r1_n r1_e ((p_impl_kernel scale).1) → K r1_a r1_n r1_e ((p_impl_kernel scale).2) H'))
theorem T_impl_kernel_i {scale : Nat} {H : AHeap} {K : (Option Addr) → Nat → Nat → Int → AHeap → Prop} (h : (bif fle .f32 1056964608 scale then fle .f32 scale 1098907648 else false) = true ∧ ((∀ (r1_a : Option Addr) (r1_n r1_e : Nat), ∀ H' : AHeap, Grow H H' → OwnS fC H' H.length r1_a r1_n r1_e ((p_impl_kernel scale).1) → K r1_a r1_n r1_e ((p_impl_kernel scale).2) H'))) : T_impl_kernel scale H K := h
theorem impl_kernel_l1_len (x : Nat) : ∀ (μ : Nat) (o : List (Nat × Nat)) (k : Int), (p_impl_kernel_l1 x μ o k).1.length ≤ o.length + μ ∧ ((p_impl_kernel_l1 x μ o k).2 = 0 ∨ (p_impl_kernel_l1 x μ o k).2 = (ftoi .f64 (p_math_Ceil (fwide (fmul .f32 1077936128 x))) .i64).getD 0) := by
  intro μ
  induction μ with
  | zero => intro o k; exact ⟨Nat.zero_le _, .inl rfl⟩
  | succ μ ih =>
    intro o k
    rw [p_impl_kernel_l1_s]
    cases decide (k < (((2 * (((ftoi .f64 ((p_math_Ceil (fwide (fmul .f32 1077936128 x)))) .i64).getD 0)))) + 1))
    · exact ⟨by show o.length ≤ _; omega, .inr rfl⟩
    · simp only [cond_true]
      refine ⟨Nat.le_trans (ih _ _).1 ?_, (ih _ _).2⟩
      rw [List.length_append, List.length_singleton]; omega
theorem impl_kernel_len (x : Nat) (h : (bif fle .f32 1056964608 x then fle .f32 x 1098907648 else false) = true) : (p_impl_kernel x).1.length ≤ 1000 ∧ -256 ≤ (p_impl_kernel x).2 ∧ (p_impl_kernel x).2 ≤ 256 := by
  have hr : -256 ≤ (ftoi .f64 (p_math_Ceil (fwide (fmul .f32 1077936128 x))) .i64).getD 0 ∧ (ftoi .f64 (p_math_Ceil (fwide (fmul .f32 1077936128 x))) .i64).getD 0 ≤ 256 := rad_le h
  rw [p_impl_kernel_eq]
  obtain ⟨a, b⟩ := impl_kernel_l1_len x (Int.toNat ((((2 * (((ftoi .f64 ((p_math_Ceil (fwide (fmul .f32 1077936128 x)))) .i64).getD 0)))) + 1) - (0 : Int)) + 1) (([] : List (Nat × Nat))) (0 : Int)
  rw [List.length_nil] at a
  rcases b with b | b <;> rw [b] <;> exact ⟨by omega, by omega, by omega⟩
/-! impl_kernel: function 87 -/
def E_impl_kernel : Env := envOf [(108, S_math_Ceil), (114, S_impl_ExpNumber), (116, S_impl_PhasorOf), (115, S_impl_ScaleComplex)]
def F_impl_kernel : List Value → AHeap → (Value → AHeap → Prop) → Prop
  | [.float .f32 scale], H, K => T_impl_kernel scale H fun (r1_a : Option Addr) (r1_n : Nat) (r1_e : Nat) (r2 : Int) (H' : AHeap) => K (.tuple #[.slice r1_a r1_n r1_e, .int .i64 r2]) H'
  | _, _, _ => False
def S_impl_kernel : FSpec := { F := F_impl_kernel, quiet := false, tame := true }
theorem impl_kernel_vc (scale : Nat) (H : AHeap) (K : Value → AHeap → Prop) : bodyK Try.prog E_impl_kernel Try.f87 [.float .f32 scale] H K =
  (T_math_Ceil (fwide (fmul .f32 1077936128 scale)) H fun (r1 : Nat) (H1 : AHeap) => ∃ n1 : Int, ftoi .f64 r1 .i64 = some n1 ∧ Al [] H1 fun b1 H2 => loopK (exK Try.prog E_impl_kernel (cl (cl (cr (cl (cr (cr (cr (bodyC Try.f87))))))))) [.float .f32 scale, undef, .slice none 0 0, .int .i64 0, .int .i64 n1, .slice (some ⟨b1, 0, none⟩) 0 1, undef, undef, undef, .float .f32 scale, .float .f32 (fmul .f32 1077936128 scale), .float .f64 (fwide (fmul .f32 1077936128 scale)), .float .f64 r1, .int .i64 n1, .slice (some ⟨b1, 0, none⟩) 0 1, .int .i64 n1, .int .i64 (IntKind.wrap .i64 (2 * n1)), .int .i64 (IntKind.wrap .i64 ((IntKind.wrap .i64 (2 * n1)) + 1)), .int .i64 0, undef, undef, undef, undef, undef, undef, undef, undef, undef, undef, undef, undef, undef, undef, undef, undef, undef, undef, undef, undef, undef, undef, undef, undef, undef, undef] H2 (blockQ 0 (seqQ (exK Try.prog E_impl_kernel (cr (cr (cr (cr (bodyC Try.f87)))))) (retK Try.prog Try.f87 K)))) := by kernel_rfl
abbrev impl_kernel_P1 (b1 : Nat) (n1 : Int) (r1 : Nat) (scale : Nat) (z1_16 : Int) (z1_17 : Int) (vout_a : Option Addr) (vout_n : Nat) (vout_e : Nat) (t18 : Int) (g6 g7 g8 g19 g20 g21 g22 g23 g24 g25 g26 g27 g28 g29 g30 g31 g32 g33 g34 g35 g36 g37 g38 g39 g40 g41 g42 : Value) : List Value := [.float .f32 scale, undef, .slice none 0 0, .int .i64 0, .int .i64 n1, .slice vout_a vout_n vout_e, g6, g7, g8, .float .f32 scale, .float .f32 (fmul .f32 1077936128 scale), .float .f64 (fwide (fmul .f32 1077936128 scale)), .float .f64 r1, .int .i64 n1, .slice (some ⟨b1, 0, none⟩) 0 1, .int .i64 n1, .int .i64 z1_16, .int .i64 z1_17, .int .i64 t18, g19, g20, g21, g22, g23, g24, g25, g26, g27, g28, g29, g30, g31, g32, g33, g34, g35, g36, g37, g38, g39, g40, g41, g42, undef, undef]
theorem impl_kernel_r1 (b1 : Nat) (n1 : Int) (r1 : Nat) (scale : Nat) (z1_16 : Int) (z1_17 : Int) (vout_a : Option Addr) (vout_n : Nat) (vout_e : Nat) (t18 : Int) (g6 g7 g8 g19 g20 g21 g22 g23 g24 g25 g26 g27 g28 g29 g30 g31 g32 g33 g34 g35 g36 g37 g38 g39 g40 g41 g42 : Value) (H : AHeap) (R : Post) : exK Try.prog E_impl_kernel (cl (cl (cr (cl (cr (cr (cr (bodyC Try.f87)))))))) (impl_kernel_P1 b1 n1 r1 scale z1_16 z1_17 vout_a vout_n vout_e t18 g6 g7 g8 g19 g20 g21 g22 g23 g24 g25 g26 g27 g28 g29 g30 g31 g32 g33 g34 g35 g36 g37 g38 g39 g40 g41 g42) H R =
  (Br (decide ((t18 : Int) < z1_17)) (T_impl_ExpNumber (fmul .f32 (fmul .f32 3204448256 (fdiv .f32 (FloatKind.nearest .f32 (IntKind.wrap .i64 (t18 - n1))) scale)) (fdiv .f32 (FloatKind.nearest .f32 (IntKind.wrap .i64 (t18 - n1))) scale)) H fun (r2 : Nat) (H3 : AHeap) => T_impl_PhasorOf (fwide (fdiv .f32 (FloatKind.nearest .f32 (IntKind.wrap .i64 (t18 - n1))) scale)) H3 fun (r3 : Nat) (r4 : Nat) (H4 : AHeap) => T_impl_ScaleComplex r3 r4 (fdiv .f32 r2 scale) H4 fun (r5 : Nat) (r6 : Nat) (H5 : AHeap) => Al [.complex .f32 r5 r6] H5 fun b2 H6 => ∃ o1 w1 : List Value, ownB H6 vout_a vout_n vout_e 1 = some o1 ∧ rdS H6 (some ⟨b2, 0, none⟩) (1 * 1) = some w1 ∧ ((vout_a : Option Addr) = none → 0 < (1 : Nat)) ∧ (vout_n : Nat) + 1 < most ∧ Ap H6 (killB H6 vout_a ++ [some ⟨o1 ++ w1, true⟩]) fun b3 H7 => R .normal [.float .f32 scale, undef, .slice none 0 0, .int .i64 0, .int .i64 n1, .slice (some ⟨b3, 0, none⟩) (vout_n + 1) 1, .int .i64 t18, .float .f32 (fdiv .f32 (FloatKind.nearest .f32 (IntKind.wrap .i64 (t18 - n1))) scale), .float .f32 (fdiv .f32 r2 scale), .float .f32 scale, .float .f32 (fmul .f32 1077936128 scale), .float .f64 (fwide (fmul .f32 1077936128 scale)), .float .f64 r1, .int .i64 n1, .slice (some ⟨b1, 0, none⟩) 0 1, .int .i64 n1, .int .i64 z1_16, .int .i64 z1_17, .int .i64 (IntKind.wrap .i64 (t18 + 1)), .bool (decide ((t18 : Int) < z1_17)), .int .i64 t18, .int .i64 t18, .int .i64 n1, .int .i64 (IntKind.wrap .i64 (t18 - n1)), .float .f32 (FloatKind.nearest .f32 (IntKind.wrap .i64 (t18 - n1))), .float .f32 scale, .float .f32 (fdiv .f32 (FloatKind.nearest .f32 (IntKind.wrap .i64 (t18 - n1))) scale), .float .f32 (fdiv .f32 (FloatKind.nearest .f32 (IntKind.wrap .i64 (t18 - n1))) scale), .float .f32 (fmul .f32 3204448256 (fdiv .f32 (FloatKind.nearest .f32 (IntKind.wrap .i64 (t18 - n1))) scale)), .float .f32 (fdiv .f32 (FloatKind.nearest .f32 (IntKind.wrap .i64 (t18 - n1))) scale), .float .f32 (fmul .f32 (fmul .f32 3204448256 (fdiv .f32 (FloatKind.nearest .f32 (IntKind.wrap .i64 (t18 - n1))) scale)) (fdiv .f32 (FloatKind.nearest .f32 (IntKind.wrap .i64 (t18 - n1))) scale)), .float .f32 r2, .float .f32 scale, .float .f32 (fdiv .f32 r2 scale), .slice vout_a vout_n vout_e, .float .f32 (fdiv .f32 (FloatKind.nearest .f32 (IntKind.wrap .i64 (t18 - n1))) scale), .float .f64 (fwide (fdiv .f32 (FloatKind.nearest .f32 (IntKind.wrap .i64 (t18 - n1))) scale)), .complex .f32 r3 r4, .float .f32 (fdiv .f32 r2 scale), .complex .f32 r5 r6, .slice (some ⟨b2, 0, none⟩) 1 1, .slice (some ⟨b3, 0, none⟩) (vout_n + 1) 1, .int .i64 (IntKind.wrap .i64 (t18 + 1)), undef, undef] H7) (R (.exit 0) [.float .f32 scale, undef, .slice none 0 0, .int .i64 0, .int .i64 n1, .slice vout_a vout_n vout_e, g6, g7, g8, .float .f32 scale, .float .f32 (fmul .f32 1077936128 scale), .float .f64 (fwide (fmul .f32 1077936128 scale)), .float .f64 r1, .int .i64 n1, .slice (some ⟨b1, 0, none⟩) 0 1, .int .i64 n1, .int .i64 z1_16, .int .i64 z1_17, .int .i64 t18, .bool (decide ((t18 : Int) < z1_17)), g20, g21, g22, g23, g24, g25, g26, g27, g28, g29, g30, g31, g32, g33, g34, g35, g36, g37, g38, g39, g40, g41, g42, undef, undef] H)) := by kernel_rfl
def impl_kernel_I1 (b1 : Nat) (n1 : Int) (r1 : Nat) (scale : Nat) (z1_16 : Int) (z1_17 : Int) (Inv : Nat → (Option Addr) → Nat → Nat → Int → AHeap → Prop) : Nat → List Value → AHeap → Prop := fun μ tm H => ∃ (vout_a : Option Addr), ∃ (vout_n : Nat), ∃ (vout_e : Nat), ∃ (t18 : Int), ∃ g6 g7 g8 g19 g20 g21 g22 g23 g24 g25 g26 g27 g28 g29 g30 g31 g32 g33 g34 g35 g36 g37 g38 g39 g40 g41 g42, tm = (impl_kernel_P1 b1 n1 r1 scale z1_16 z1_17 vout_a vout_n vout_e t18 g6 g7 g8 g19 g20 g21 g22 g23 g24 g25 g26 g27 g28 g29 g30 g31 g32 g33 g34 g35 g36 g37 g38 g39 g40 g41 g42) ∧ Inv μ vout_a vout_n vout_e t18 H
theorem impl_kernel_L1 (b1 : Nat) (n1 : Int) (r1 : Nat) (scale : Nat) (z1_16 : Int) (z1_17 : Int) {Q : Post} (Inv : Nat → (Option Addr) → Nat → Nat → Int → AHeap → Prop) (ν : Nat) (vout_a : Option Addr) (vout_n : Nat) (vout_e : Nat) (t18 : Int) (g6 g7 g8 g19 g20 g21 g22 g23 g24 g25 g26 g27 g28 g29 g30 g31 g32 g33 g34 g35 g36 g37 g38 g39 g40 g41 g42 : Value) (H : AHeap) (h0 : Inv ν vout_a vout_n vout_e t18 H)
    (hs : ∀ (μ : Nat) (vout_a : Option Addr) (vout_n : Nat) (vout_e : Nat) (t18 : Int) (g6 g7 g8 g19 g20 g21 g22 g23 g24 g25 g26 g27 g28 g29 g30 g31 g32 g33 g34 g35 g36 g37 g38 g39 g40 g41 g42 : Value) (H : AHeap), Inv μ vout_a vout_n vout_e t18 H → exK Try.prog E_impl_kernel (cl (cl (cr (cl (cr (cr (cr (bodyC Try.f87)))))))) (impl_kernel_P1 b1 n1 r1 scale z1_16 z1_17 vout_a vout_n vout_e t18 g6 g7 g8 g19 g20 g21 g22 g23 g24 g25 g26 g27 g28 g29 g30 g31 g32 g33 g34 g35 g36 g37 g38 g39 g40 g41 g42) H (loopQ (impl_kernel_I1 b1 n1 r1 scale z1_16 z1_17 Inv) μ Q)) : loopK (exK Try.prog E_impl_kernel (cl (cl (cr (cl (cr (cr (cr (bodyC Try.f87))))))))) (impl_kernel_P1 b1 n1 r1 scale z1_16 z1_17 vout_a vout_n vout_e t18 g6 g7 g8 g19 g20 g21 g22 g23 g24 g25 g26 g27 g28 g29 g30 g31 g32 g33 g34 g35 g36 g37 g38 g39 g40 g41 g42) H Q :=
  ⟨impl_kernel_I1 b1 n1 r1 scale z1_16 z1_17 Inv, ν, ⟨vout_a, vout_n, vout_e, t18, g6, g7, g8, g19, g20, g21, g22, g23, g24, g25, g26, g27, g28, g29, g30, g31, g32, g33, g34, g35, g36, g37, g38, g39, g40, g41, g42, rfl, h0⟩, fun μ tm H h => by obtain ⟨vout_a, vout_n, vout_e, t18, g6, g7, g8, g19, g20, g21, g22, g23, g24, g25, g26, g27, g28, g29, g30, g31, g32, g33, g34, g35, g36, g37, g38, g39, g40, g41, g42, rfl, hI⟩ := h; exact hs μ vout_a vout_n vout_e t18 g6 g7 g8 g19 g20 g21 g22 g23 g24 g25 g26 g27 g28 g29 g30 g31 g32 g33 g34 g35 g36 g37 g38 g39 g40 g41 g42 H hI⟩
theorem impl_kernel_n1 {b1 : Nat} {n1 : Int} {r1 : Nat} {scale : Nat} {z1_16 : Int} {z1_17 : Int} {Q : Post} {Inv : Nat → (Option Addr) → Nat → Nat → Int → AHeap → Prop} {μ : Nat} (μ' : Nat) {vout_a : Option Addr} {vout_n : Nat} {vout_e : Nat} {t18 : Int} {g6 g7 g8 g19 g20 g21 g22 g23 g24 g25 g26 g27 g28 g29 g30 g31 g32 g33 g34 g35 g36 g37 g38 g39 g40 g41 g42 : Value} {H : AHeap} (hm : μ' < μ) (hI : Inv μ' vout_a vout_n vout_e t18 H) : loopQ (impl_kernel_I1 b1 n1 r1 scale z1_16 z1_17 Inv) μ Q .normal (impl_kernel_P1 b1 n1 r1 scale z1_16 z1_17 vout_a vout_n vout_e t18 g6 g7 g8 g19 g20 g21 g22 g23 g24 g25 g26 g27 g28 g29 g30 g31 g32 g33 g34 g35 g36 g37 g38 g39 g40 g41 g42) H := ⟨μ', hm, vout_a, vout_n, vout_e, t18, g6, g7, g8, g19, g20, g21, g22, g23, g24, g25, g26, g27, g28, g29, g30, g31, g32, g33, g34, g35, g36, g37, g38, g39, g40, g41, g42, rfl, hI⟩
theorem impl_kernel_x1_0 (b1 : Nat) (n1 : Int) (r1 : Nat) (scale : Nat) (z1_16 : Int) (z1_17 : Int) (vout_a : Option Addr) (vout_n : Nat) (vout_e : Nat) (t18 : Int) (g6 g7 g8 g19 g20 g21 g22 g23 g24 g25 g26 g27 g28 g29 g30 g31 g32 g33 g34 g35 g36 g37 g38 g39 g40 g41 g42 : Value) (H : AHeap) (K : Value → AHeap → Prop)  {I : Nat → List Value → AHeap → Prop} {μ : Nat} : loopQ I μ (blockQ 0 (seqQ (exK Try.prog E_impl_kernel (cr (cr (cr (cr (bodyC Try.f87)))))) (retK Try.prog Try.f87 K))) (.exit 0) (impl_kernel_P1 b1 n1 r1 scale z1_16 z1_17 vout_a vout_n vout_e t18 g6 g7 g8 g19 g20 g21 g22 g23 g24 g25 g26 g27 g28 g29 g30 g31 g32 g33 g34 g35 g36 g37 g38 g39 g40 g41 g42) H =
  (K (.tuple #[.slice vout_a vout_n vout_e, .int .i64 n1]) H) := by kernel_rfl
theorem E_impl_kernel_ok : ∀ g, FnOk Try.prog g (E_impl_kernel g) := FnOk.envOf (by
  intro x hx
  simp only [List.mem_cons, List.not_mem_nil, or_false] at hx
  rcases hx with rfl | rfl | rfl | rfl
  · exact math_Ceil_ok
  · exact impl_ExpNumber_ok
  · exact impl_PhasorOf_ok
  · exact impl_ScaleComplex_ok)
set_option maxHeartbeats 1000000 in
theorem impl_kernel_main (scale : Nat) (H : AHeap) (K : Value → AHeap → Prop) (h : T_impl_kernel scale H fun (r1_a : Option Addr) (r1_n : Nat) (r1_e : Nat) (r2 : Int) (H' : AHeap) => K (.tuple #[.slice r1_a r1_n r1_e, .int .i64 r2]) H') : bodyK Try.prog E_impl_kernel Try.f87 [.float .f32 scale] H K := by
  rw [impl_kernel_vc]
  obtain ⟨pr0, hk⟩ := h
  have hr : -256 ≤ (ftoi .f64 (p_math_Ceil (fwide (fmul .f32 1077936128 scale))) .i64).getD 0 ∧ (ftoi .f64 (p_math_Ceil (fwide (fmul .f32 1077936128 scale))) .i64).getD 0 ≤ 256 := rad_le (by assumption)
  have e : (p_impl_kernel scale) = _ := rfl
  have e := e.trans (p_impl_kernel_eq scale)
  have g0 := Grow.refl H
  refine T_math_Ceil_i ?_
  refine ⟨_, opt_get (d := 0) (by exact rad_ne (by assumption)), ?_⟩
  refine Al.intro (fun b_1 H_1 hb_2 hl_3 g_4 o_5 => ?_)
  have o_5 : Own H_1 b_1 ((([] : List (Nat × Nat))).map fC) := o_5
  have l_7 := g_4.1
  have g_8 := g0.trans g_4
  have l_9 := g_8.1
  have w_45 := o_5.lt
  rw [show IntKind.wrap .i64 (2 * (((ftoi .f64 ((p_math_Ceil (fwide (fmul .f32 1077936128 scale)))) .i64).getD 0))) = (2 * (((ftoi .f64 ((p_math_Ceil (fwide (fmul .f32 1077936128 scale)))) .i64).getD 0))) from wrap64 o3 o3]
  rw [show IntKind.wrap .i64 (((2 * (((ftoi .f64 ((p_math_Ceil (fwide (fmul .f32 1077936128 scale)))) .i64).getD 0)))) + 1) = (((2 * (((ftoi .f64 ((p_math_Ceil (fwide (fmul .f32 1077936128 scale)))) .i64).getD 0)))) + 1) from wrap64 o3 o3]
  refine impl_kernel_L1 _ _ _ _ _ _ (fun (μ : Nat) (vout_a : Option Addr) (vout_n : Nat) (vout_e : Nat) (t18 : Int) (H_2 : AHeap) => ∃ (l_vout : List (Nat × Nat)), ∃ (b_10 : Nat), vout_a = some ⟨b_10, 0, none⟩ ∧ vout_n = l_vout.length ∧ vout_e = 1 ∧ Own H_2 b_10 (l_vout.map fC) ∧ Grow H H_2 ∧ H.length ≤ b_10 ∧ (0 : Int) ≤ t18 ∧ ((t18 ≤ (((2 * (((ftoi .f64 ((p_math_Ceil (fwide (fmul .f32 1077936128 scale)))) .i64).getD 0)))) + 1) ∨ t18 ≤ (0 : Int))) ∧ (l_vout.length : Int) ≤ t18 - (0 : Int) + 0 ∧ (l_vout.length : Int) ≤ t18 ∧ (((2 * (((ftoi .f64 ((p_math_Ceil (fwide (fmul .f32 1077936128 scale)))) .i64).getD 0)))) + 1) - t18 ≤ (μ : Int) ∧ p_impl_kernel scale = p_impl_kernel_l1 scale (μ + 1) l_vout t18) (Int.toNat ((((2 * (((ftoi .f64 ((p_math_Ceil (fwide (fmul .f32 1077936128 scale)))) .i64).getD 0)))) + 1) - (0 : Int))) _ _ _ _ _ _ _ _ _ _ _ _ _ _ _ _ _ _ _ _ _ _ _ _ _ _ _ _ _ _ _ H_1 ?_ ?_
  · exact ⟨_, _, rfl, o7, rfl, o_5, g_8, o3, o6, o6, o6, o6, o3, e⟩
  · intro μ vout_a vout_n vout_e t18 g6 g7 g8 g19 g20 g21 g22 g23 g24 g25 g26 g27 g28 g29 g30 g31 g32 g33 g34 g35 g36 g37 g38 g39 g40 g41 g42 H_2 hI
    obtain ⟨l_vout, b_10, rfl, rfl, rfl, o_11, g_12, l_13, v_14, v_15, v_16, v_17, hμ, e⟩ := hI
    rw [impl_kernel_r1]
    have e := e.trans (p_impl_kernel_l1_s scale μ l_vout t18)
    have w_18 := o_11.lt
    have l_19 := g_12.1
    refine Br.intro (fun c_20 => ?_) (fun c_20 => ?_)
    · have e := e.trans (cond_t c_20)
      have c_20' := of_decide_eq_true c_20
      rw [show IntKind.wrap .i64 (t18 - (((ftoi .f64 ((p_math_Ceil (fwide (fmul .f32 1077936128 scale)))) .i64).getD 0))) = (t18 - (((ftoi .f64 ((p_math_Ceil (fwide (fmul .f32 1077936128 scale)))) .i64).getD 0))) from wrap64 o3 o3]
      refine T_impl_ExpNumber_i ⟨(by first | assumption | omega | (simp; omega) | (exact impl_expWide_nar (sq_neg (by decide +kernel)))), ?_⟩
      refine T_impl_PhasorOf_i ?_
      refine T_impl_ScaleComplex_i ?_
      refine Al.intro (fun b_21 H_3 hb_22 hl_23 g_24 o_25 => ?_)
      have o_25 : Own H_3 b_21 (([((p_impl_ScaleComplex ((p_impl_PhasorOf (fwide (fdiv .f32 (FloatKind.nearest .f32 ((t18 - (((ftoi .f64 ((p_math_Ceil (fwide (fmul .f32 1077936128 scale)))) .i64).getD 0))))) scale))).1) ((p_impl_PhasorOf (fwide (fdiv .f32 (FloatKind.nearest .f32 ((t18 - (((ftoi .f64 ((p_math_Ceil (fwide (fmul .f32 1077936128 scale)))) .i64).getD 0))))) scale))).2) (fdiv .f32 ((p_impl_ExpNumber (fmul .f32 (fmul .f32 3204448256 (fdiv .f32 (FloatKind.nearest .f32 ((t18 - (((ftoi .f64 ((p_math_Ceil (fwide (fmul .f32 1077936128 scale)))) .i64).getD 0))))) scale)) (fdiv .f32 (FloatKind.nearest .f32 ((t18 - (((ftoi .f64 ((p_math_Ceil (fwide (fmul .f32 1077936128 scale)))) .i64).getD 0))))) scale)))) scale)).1, (p_impl_ScaleComplex ((p_impl_PhasorOf (fwide (fdiv .f32 (FloatKind.nearest .f32 ((t18 - (((ftoi .f64 ((p_math_Ceil (fwide (fmul .f32 1077936128 scale)))) .i64).getD 0))))) scale))).1) ((p_impl_PhasorOf (fwide (fdiv .f32 (FloatKind.nearest .f32 ((t18 - (((ftoi .f64 ((p_math_Ceil (fwide (fmul .f32 1077936128 scale)))) .i64).getD 0))))) scale))).2) (fdiv .f32 ((p_impl_ExpNumber (fmul .f32 (fmul .f32 3204448256 (fdiv .f32 (FloatKind.nearest .f32 ((t18 - (((ftoi .f64 ((p_math_Ceil (fwide (fmul .f32 1077936128 scale)))) .i64).getD 0))))) scale)) (fdiv .f32 (FloatKind.nearest .f32 ((t18 - (((ftoi .f64 ((p_math_Ceil (fwide (fmul .f32 1077936128 scale)))) .i64).getD 0))))) scale)))) scale)).2)]).map fC) := o_25
      have l_27 := g_24.1
      have g_28 := g_12.trans g_24
      have l_29 := g_28.1
      have o_30 := o_11.grow g_24
      have w_31 := o_30.lt
      have w_44 := o_25.lt
      refine ⟨_, _, o_30.ownB o8 rfl, (isl_rdS (o_25.isL o7)), (fun h => by cases h), o29, ?_⟩
      refine Ap.app o_30 rfl rfl (fun b_36 H_4 q_42 hl_32 o_33 k_34 => ?_)
      have o_33 := map_snoc o_33
      have l_37 := k_34.1
      have g_38 := g_28.keep (b := b_10) o3 k_34
      have l_39 := g_38.1
      have o_40 := o_25.keep o3 k_34
      have w_41 := o_40.lt
      have w_43 := o_33.lt
      rw [show IntKind.wrap .i64 (t18 + 1) = (t18 + 1) from wrap64 o3 o3]
      refine impl_kernel_n1 (μ - 1) o11 ⟨_, _, rfl, o9, rfl, o_33, g_38, o3, o1, o1, o1, o1, o11, (by rw [show μ - 1 + 1 = μ from by first | omega]; exact e)⟩
    · have e := e.trans (cond_f c_20)
      have c_20' := of_decide_eq_false c_20
      rw [impl_kernel_x1_0]
      rw [e] at hk
      exact hk _ _ _ H_2 g_12 (o_11.ownS o7 o3)
theorem impl_kernel_ok : FnOk Try.prog 87 S_impl_kernel := by
  refine FnOk.body mix_ok E_impl_kernel_ok Try.func87 rfl (by kernel_rfl) (by kernel_rfl) ?_ ?_ ?_ ?_ ?_
  · intro args H K K' h hk
    simp only [S_impl_kernel] at *
    unfold F_impl_kernel at *
    split at hk
    · obtain ⟨pr0, k⟩ := hk
      exact ⟨pr0, (fun r1_a r1_n r1_e H' gg ow0 => h _ _ (k r1_a r1_n r1_e H' gg ow0))⟩
    · exact hk.elim
  · intro hq; cases hq
  · intro args H K hk
    simp only [S_impl_kernel] at *
    unfold F_impl_kernel at *
    split at hk
    · obtain ⟨pr0, k⟩ := hk
      exact liveS fun a n e H1 g o => ⟨_, _, k a n e H1 g o⟩
    · exact hk.elim
  · intro _ args H K hk
    simp only [S_impl_kernel] at *
    unfold F_impl_kernel at *
    split at hk
    · obtain ⟨pr0, k⟩ := hk
      exact ⟨pr0, (fun r1_a r1_n r1_e H' gg ow0 => ⟨gg, k r1_a r1_n r1_e H' gg ow0⟩)⟩
    · exact hk.elim
  · have mm := @impl_kernel_main
    revert mm
    generalize bodyK Try.prog E_impl_kernel Try.f87 = Q
    intro mm args H K hk
    simp only [S_impl_kernel] at *
    unfold F_impl_kernel at *
    split at hk
    · exact mm _ H K hk
    · exact hk.elim

def p_impl_realKernel_l1 (scale : Nat) : Nat → (List Nat) → Int → (List Nat) × Int
  | 0, _, _ => ([], 0)
  | μ + 1, l_vout, t17 => (bif decide ((t17 : Int) < (((p_impl_kernel scale).1).length : Int)) then (p_impl_realKernel_l1 scale μ ((l_vout ++ [(((((p_impl_kernel scale).1).getD (t17 : Int).toNat (0, 0))).1)])) (t17 + 1)) else (l_vout, (p_impl_kernel scale).2))
def p_impl_realKernel_l1_s := fun scale μ l_vout t17 => @p_impl_realKernel_l1.eq_2 scale l_vout t17 μ
def p_impl_realKernel (scale : Nat) : (List Nat) × Int := (p_impl_realKernel_l1 scale (Int.toNat ((((p_impl_kernel scale).1).length : Int) - (0 : Int)) + 1) ([] : List Nat) (0 : Int))
def p_impl_realKernel_eq := @p_impl_realKernel.eq_1
def T_impl_realKernel (scale : Nat) (H : AHeap) (K : (Option Addr) → Nat → Nat → Int → AHeap → Prop) : Prop := (bif fle .f32 1056964608 scale then fle .f32 scale 1098907648 else false) = true ∧ ((∀ (r1_a : Option Addr) (r1_n r1_e : Nat), ∀ H' : AHeap, Grow H H' → OwnS fF H' H.length r1_a r1_n r1_e ((p_impl_realKernel scale).1) → K r1_a r1_n r1_e ((p_impl_realKernel scale).2) H'))
theorem T_impl_realKernel_i {scale : Nat} {H : AHeap} {K : (Option Addr) → Nat → Nat → Int → AHeap → Prop} (h : (bif fle .f32 1056964608 scale then fle .f32 scale 1098907648 else false) = true ∧ ((∀ (r1_a : Option Addr) (r1_n r1_e : Nat), ∀ H' : AHeap, Grow H H' → OwnS fF H' H.length r1_a r1_n r1_e ((p_impl_realKernel scale).1) → K r1_a r1_n r1_e ((p_impl_realKernel scale).2) H'))) : T_impl_realKernel scale H K := h
theorem impl_realKernel_l1_val (x : Nat) : ∀ (μ : Nat) (o : List Nat) (k : Int), 0 ≤ k → ((p_impl_kernel x).1.length - k).toNat < μ → p_impl_realKernel_l1 x μ o k = (o ++ ((p_impl_kernel x).1.drop k.toNat).map Prod.fst, (p_impl_kernel x).2) := by
  intro μ
  induction μ with
  | zero => intro o k h0 h; omega
  | succ μ ih =>
    intro o k h0 h
    rw [p_impl_realKernel_l1_s]
    by_cases hk : k < ((p_impl_kernel x).1.length : Int)
    · rw [decide_eq_true hk, cond_true, ih _ _ o3 o3]
      have hk' : k.toNat < (p_impl_kernel x).1.length := by omega
      rw [show (k + 1).toNat = k.toNat + 1 by omega, List.append_assoc, List.getD_eq_getElem?_getD, List.getElem?_eq_getElem hk', List.drop_eq_getElem_cons hk']; rfl
    · rw [decide_eq_false hk, cond_false, List.drop_eq_nil_of_le o3, List.map_nil, List.append_nil]
theorem impl_realKernel_val (x : Nat) : p_impl_realKernel x = ((p_impl_kernel x).1.map Prod.fst, (p_impl_kernel x).2) := by
  rw [p_impl_realKernel_eq, impl_realKernel_l1_val _ _ _ _ o22 o3]; rfl
theorem impl_realKernel_len (x : Nat) (h : (bif fle .f32 1056964608 x then fle .f32 x 1098907648 else false) = true) : (p_impl_realKernel x).1.length ≤ 1000 ∧ -256 ≤ (p_impl_realKernel x).2 ∧ (p_impl_realKernel x).2 ≤ 256 := by
  rw [impl_realKernel_val]; simp only [List.length_map]; exact impl_kernel_len x h
/-! impl_realKernel: function 57 -/
def E_impl_realKernel : Env := envOf [(87, S_impl_kernel)]
def F_impl_realKernel : List Value → AHeap → (Value → AHeap → Prop) → Prop
  | [.float .f32 scale], H, K => T_impl_realKernel scale H fun (r1_a : Option Addr) (r1_n : Nat) (r1_e : Nat) (r2 : Int) (H' : AHeap) => K (.tuple #[.slice r1_a r1_n r1_e, .int .i64 r2]) H'
  | _, _, _ => False
def S_impl_realKernel : FSpec := { F := F_impl_realKernel, quiet := false, tame := true }
theorem impl_realKernel_vc (scale : Nat) (H : AHeap) (K : Value → AHeap → Prop) : bodyK Try.prog E_impl_realKernel Try.f57 [.float .f32 scale] H K =
  (T_impl_kernel scale H fun (a1 : Option Addr) (r1 : Nat) (r2 : Nat) (r3 : Int) (H1 : AHeap) => Al [] H1 fun b1 H2 => loopK (exK Try.prog E_impl_realKernel (cl (cl (cr (cl (cr (cr (cr (bodyC Try.f57))))))))) [.float .f32 scale, undef, .slice none 0 0, .int .i64 0, .slice a1 r1 r2, .int .i64 r3, .slice (some ⟨b1, 0, none⟩) 0 1, undef, undef, .tuple #[.slice a1 r1 r2, .int .i64 r3], .float .f32 scale, .tuple #[.slice a1 r1 r2, .int .i64 r3], .slice a1 r1 r2, .int .i64 r3, .slice (some ⟨b1, 0, none⟩) 0 1, .slice a1 r1 r2, .int .i64 (r1 : Int), .int .i64 0, undef, undef, undef, undef, undef, undef, undef, undef, undef, undef, undef] H2 (blockQ 0 (seqQ (exK Try.prog E_impl_realKernel (cr (cr (cr (cr (bodyC Try.f57)))))) (retK Try.prog Try.f57 K)))) := by kernel_rfl
abbrev impl_realKernel_P1 (a1 : Option Addr) (b1 : Nat) (r1 : Nat) (r2 : Nat) (r3 : Int) (scale : Nat) (vout_a : Option Addr) (vout_n : Nat) (vout_e : Nat) (t17 : Int) (g8 g18 g19 g20 g21 g22 g23 g24 g25 g26 : Value) : List Value := [.float .f32 scale, undef, .slice none 0 0, .int .i64 0, .slice a1 r1 r2, .int .i64 r3, .slice vout_a vout_n vout_e, undef, g8, .tuple #[.slice a1 r1 r2, .int .i64 r3], .float .f32 scale, .tuple #[.slice a1 r1 r2, .int .i64 r3], .slice a1 r1 r2, .int .i64 r3, .slice (some ⟨b1, 0, none⟩) 0 1, .slice a1 r1 r2, .int .i64 (r1 : Int), .int .i64 t17, g18, g19, g20, g21, g22, g23, g24, g25, g26, undef, undef]
theorem impl_realKernel_r1 (a1 : Option Addr) (b1 : Nat) (r1 : Nat) (r2 : Nat) (r3 : Int) (scale : Nat) (vout_a : Option Addr) (vout_n : Nat) (vout_e : Nat) (t17 : Int) (g8 g18 g19 g20 g21 g22 g23 g24 g25 g26 : Value) (H : AHeap) (R : Post) : exK Try.prog E_impl_realKernel (cl (cl (cr (cl (cr (cr (cr (bodyC Try.f57)))))))) (impl_realKernel_P1 a1 b1 r1 r2 r3 scale vout_a vout_n vout_e t17 g8 g18 g19 g20 g21 g22 g23 g24 g25 g26) H R =
  (Br (decide ((t17 : Int) < (r1 : Int))) ((0 : Int) ≤ t17 ∧ t17 < (r1 : Int) ∧ ∃ b2 f1, (a1 : Option Addr) = some ⟨b2, f1, none⟩ ∧ ∃ x1_r : Nat, ∃ x1_i : Nat,  rdC H b2 (f1 + (t17 : Int).toNat * 1) = some (.complex .f32 x1_r x1_i) ∧ Al [.float .f32 x1_r] H fun b3 H3 => ∃ o1 w1 : List Value, ownB H3 vout_a vout_n vout_e 1 = some o1 ∧ rdS H3 (some ⟨b3, 0, none⟩) (1 * 1) = some w1 ∧ ((vout_a : Option Addr) = none → 0 < (1 : Nat)) ∧ (vout_n : Nat) + 1 < most ∧ Ap H3 (killB H3 vout_a ++ [some ⟨o1 ++ w1, true⟩]) fun b4 H4 => R .normal [.float .f32 scale, undef, .slice none 0 0, .int .i64 0, .slice a1 r1 r2, .int .i64 r3, .slice (some ⟨b4, 0, none⟩) (vout_n + 1) 1, undef, .complex .f32 x1_r x1_i, .tuple #[.slice a1 r1 r2, .int .i64 r3], .float .f32 scale, .tuple #[.slice a1 r1 r2, .int .i64 r3], .slice a1 r1 r2, .int .i64 r3, .slice (some ⟨b1, 0, none⟩) 0 1, .slice a1 r1 r2, .int .i64 (r1 : Int), .int .i64 (IntKind.wrap .i64 (t17 + 1)), .bool (decide ((t17 : Int) < (r1 : Int))), .pointer (some ⟨b2, f1 + (t17 : Int).toNat * 1, none⟩), .complex .f32 x1_r x1_i, .slice vout_a vout_n vout_e, .complex .f32 x1_r x1_i, .float .f32 x1_r, .slice (some ⟨b3, 0, none⟩) 1 1, .slice (some ⟨b4, 0, none⟩) (vout_n + 1) 1, .int .i64 (IntKind.wrap .i64 (t17 + 1)), undef, undef] H4) (R (.exit 0) [.float .f32 scale, undef, .slice none 0 0, .int .i64 0, .slice a1 r1 r2, .int .i64 r3, .slice vout_a vout_n vout_e, undef, g8, .tuple #[.slice a1 r1 r2, .int .i64 r3], .float .f32 scale, .tuple #[.slice a1 r1 r2, .int .i64 r3], .slice a1 r1 r2, .int .i64 r3, .slice (some ⟨b1, 0, none⟩) 0 1, .slice a1 r1 r2, .int .i64 (r1 : Int), .int .i64 t17, .bool (decide ((t17 : Int) < (r1 : Int))), g19, g20, g21, g22, g23, g24, g25, g26, undef, undef] H)) := by kernel_rfl
def impl_realKernel_I1 (a1 : Option Addr) (b1 : Nat) (r1 : Nat) (r2 : Nat) (r3 : Int) (scale : Nat) (Inv : Nat → (Option Addr) → Nat → Nat → Int → AHeap → Prop) : Nat → List Value → AHeap → Prop := fun μ tm H => ∃ (vout_a : Option Addr), ∃ (vout_n : Nat), ∃ (vout_e : Nat), ∃ (t17 : Int), ∃ g8 g18 g19 g20 g21 g22 g23 g24 g25 g26, tm = (impl_realKernel_P1 a1 b1 r1 r2 r3 scale vout_a vout_n vout_e t17 g8 g18 g19 g20 g21 g22 g23 g24 g25 g26) ∧ Inv μ vout_a vout_n vout_e t17 H
theorem impl_realKernel_L1 (a1 : Option Addr) (b1 : Nat) (r1 : Nat) (r2 : Nat) (r3 : Int) (scale : Nat) {Q : Post} (Inv : Nat → (Option Addr) → Nat → Nat → Int → AHeap → Prop) (ν : Nat) (vout_a : Option Addr) (vout_n : Nat) (vout_e : Nat) (t17 : Int) (g8 g18 g19 g20 g21 g22 g23 g24 g25 g26 : Value) (H : AHeap) (h0 : Inv ν vout_a vout_n vout_e t17 H)
    (hs : ∀ (μ : Nat) (vout_a : Option Addr) (vout_n : Nat) (vout_e : Nat) (t17 : Int) (g8 g18 g19 g20 g21 g22 g23 g24 g25 g26 : Value) (H : AHeap), Inv μ vout_a vout_n vout_e t17 H → exK Try.prog E_impl_realKernel (cl (cl (cr (cl (cr (cr (cr (bodyC Try.f57)))))))) (impl_realKernel_P1 a1 b1 r1 r2 r3 scale vout_a vout_n vout_e t17 g8 g18 g19 g20 g21 g22 g23 g24 g25 g26) H (loopQ (impl_realKernel_I1 a1 b1 r1 r2 r3 scale Inv) μ Q)) : loopK (exK Try.prog E_impl_realKernel (cl (cl (cr (cl (cr (cr (cr (bodyC Try.f57))))))))) (impl_realKernel_P1 a1 b1 r1 r2 r3 scale vout_a vout_n vout_e t17 g8 g18 g19 g20 g21 g22 g23 g24 g25 g26) H Q :=
  ⟨impl_realKernel_I1 a1 b1 r1 r2 r3 scale Inv, ν, ⟨vout_a, vout_n, vout_e, t17, g8, g18, g19, g20, g21, g22, g23, g24, g25, g26, rfl, h0⟩, fun μ tm H h => by obtain ⟨vout_a, vout_n, vout_e, t17, g8, g18, g19, g20, g21, g22, g23, g24, g25, g26, rfl, hI⟩ := h; exact hs μ vout_a vout_n vout_e t17 g8 g18 g19 g20 g21 g22 g23 g24 g25 g26 H hI⟩
theorem impl_realKernel_n1 {a1 : Option Addr} {b1 : Nat} {r1 : Nat} {r2 : Nat} {r3 : Int} {scale : Nat} {Q : Post} {Inv : Nat → (Option Addr) → Nat → Nat → Int → AHeap → Prop} {μ : Nat} (μ' : Nat) {vout_a : Option Addr} {vout_n : Nat} {vout_e : Nat} {t17 : Int} {g8 g18 g19 g20 g21 g22 g23 g24 g25 g26 : Value} {H : AHeap} (hm : μ' < μ) (hI : Inv μ' vout_a vout_n vout_e t17 H) : loopQ (impl_realKernel_I1 a1 b1 r1 r2 r3 scale Inv) μ Q .normal (impl_realKernel_P1 a1 b1 r1 r2 r3 scale vout_a vout_n vout_e t17 g8 g18 g19 g20 g21 g22 g23 g24 g25 g26) H := ⟨μ', hm, vout_a, vout_n, vout_e, t17, g8, g18, g19, g20, g21, g22, g23, g24, g25, g26, rfl, hI⟩
theorem impl_realKernel_x1_0 (a1 : Option Addr) (b1 : Nat) (r1 : Nat) (r2 : Nat) (r3 : Int) (scale : Nat) (vout_a : Option Addr) (vout_n : Nat) (vout_e : Nat) (t17 : Int) (g8 g18 g19 g20 g21 g22 g23 g24 g25 g26 : Value) (H : AHeap) (K : Value → AHeap → Prop)  {I : Nat → List Value → AHeap → Prop} {μ : Nat} : loopQ I μ (blockQ 0 (seqQ (exK Try.prog E_impl_realKernel (cr (cr (cr (cr (bodyC Try.f57)))))) (retK Try.prog Try.f57 K))) (.exit 0) (impl_realKernel_P1 a1 b1 r1 r2 r3 scale vout_a vout_n vout_e t17 g8 g18 g19 g20 g21 g22 g23 g24 g25 g26) H =
  (K (.tuple #[.slice vout_a vout_n vout_e, .int .i64 r3]) H) := by kernel_rfl
theorem E_impl_realKernel_ok : ∀ g, FnOk Try.prog g (E_impl_realKernel g) := FnOk.envOf (by
  intro x hx
  simp only [List.mem_cons, List.not_mem_nil, or_false] at hx
  subst hx; exact impl_kernel_ok)
set_option maxHeartbeats 1000000 in
theorem impl_realKernel_main (scale : Nat) (H : AHeap) (K : Value → AHeap → Prop) (h : T_impl_realKernel scale H fun (r1_a : Option Addr) (r1_n : Nat) (r1_e : Nat) (r2 : Int) (H' : AHeap) => K (.tuple #[.slice r1_a r1_n r1_e, .int .i64 r2]) H') : bodyK Try.prog E_impl_realKernel Try.f57 [.float .f32 scale] H K := by
  rw [impl_realKernel_vc]
  obtain ⟨pr0, hk⟩ := h
  have e : (p_impl_realKernel scale) = _ := rfl
  have e := e.trans (p_impl_realKernel_eq scale)
  have g0 := Grow.refl H
  refine T_impl_kernel_i ⟨o14, fun a_1 n_2 e_3 H_1 g_6 r_4 => ?_⟩
  have z_5 := impl_kernel_len scale o34
  have l_7 := g_6.1
  have g_8 := g0.trans g_6
  have l_9 := g_8.1
  obtain rfl := r_4.isL.eqn
  have u_10 := r_4.up
  have u_11 := r_4.lo
  refine Al.intro (fun b_13 H_2 hb_14 hl_15 g_16 o_17 => ?_)
  have o_17 : Own H_2 b_13 ((([] : List Nat)).map fF) := o_17
  have l_19 := g_16.1
  have g_20 := g_8.trans g_16
  have l_21 := g_20.1
  have r_22 := r_4.grow g_16
  have w_66 := o_17.lt
  refine impl_realKernel_L1 _ _ _ _ _ _ (fun (μ : Nat) (vout_a : Option Addr) (vout_n : Nat) (vout_e : Nat) (t17 : Int) (H_3 : AHeap) => ∃ (l_vout : List Nat), ∃ (b_23 : Nat), vout_a = some ⟨b_23, 0, none⟩ ∧ vout_n = l_vout.length ∧ vout_e = 1 ∧ Own H_3 b_23 (l_vout.map fF) ∧ OwnS fC H_3 H.length a_1 (((p_impl_kernel scale).1).length) e_3 ((p_impl_kernel scale).1) ∧ H_1.length ≤ H_3.length ∧ (b_23 < H.length ∨ H_1.length ≤ b_23) ∧ Grow H H_3 ∧ H.length ≤ b_23 ∧ (0 : Int) ≤ t17 ∧ t17 ≤ (((p_impl_kernel scale).1).length : Int) ∧ (l_vout.length : Int) ≤ t17 - (0 : Int) + 0 ∧ (l_vout.length : Int) ≤ t17 ∧ (((p_impl_kernel scale).1).length : Int) - t17 ≤ (μ : Int) ∧ p_impl_realKernel scale = p_impl_realKernel_l1 scale (μ + 1) l_vout t17) (Int.toNat ((((p_impl_kernel scale).1).length : Int) - (0 : Int))) _ _ _ _ _ _ _ _ _ _ _ _ _ _ H_2 ?_ ?_
  · exact ⟨_, _, rfl, o7, rfl, o_17, r_22, o3, o3, g_20, o3, o6, o6, o6, o6, o3, e⟩
  · intro μ vout_a vout_n vout_e t17 g8 g18 g19 g20 g21 g22 g23 g24 g25 g26 H_3 hI
    obtain ⟨l_vout, b_23, rfl, rfl, rfl, o_24, r_25, n_26, n_27, g_28, l_29, v_30, v_31, v_32, v_33, hμ, e⟩ := hI
    rw [impl_realKernel_r1]
    have e := e.trans (p_impl_realKernel_l1_s scale μ l_vout t17)
    have w_34 := o_24.lt
    have l_35 := g_28.1
    refine Br.intro (fun c_36 => ?_) (fun c_36 => ?_)
    · have e := e.trans (cond_t c_36)
      have c_36' := of_decide_eq_true c_36
      obtain ⟨b_37, f_38, q_39⟩ := (r_25.isL).pos o0
      refine ⟨by omega, by omega, b_37, f_38, q_39, ?_⟩
      refine ⟨((((p_impl_kernel scale).1).getD (t17 : Int).toNat (0, 0))).1, ((((p_impl_kernel scale).1).getD (t17 : Int).toNat (0, 0))).2, (r_25.isL).rd (Grow.refl _) q_39 o3 _, ?_⟩
      refine Al.intro (fun b_40 H_4 hb_41 hl_42 g_43 o_44 => ?_)
      have o_44 : Own H_4 b_40 (([(((((p_impl_kernel scale).1).getD (t17 : Int).toNat (0, 0))).1)]).map fF) := o_44
      have l_46 := g_43.1
      have g_47 := g_28.trans g_43
      have l_48 := g_47.1
      have o_49 := o_24.grow g_43
      have w_50 := o_49.lt
      have r_51 := r_25.grow g_43
      have w_65 := o_44.lt
      refine ⟨_, _, o_49.ownB o8 rfl, (isl_rdS (o_44.isL o7)), (fun h => by cases h), o29, ?_⟩
      refine Ap.app o_49 rfl rfl (fun b_56 H_5 q_63 hl_52 o_53 k_54 => ?_)
      have o_53 := map_snoc o_53
      have l_57 := k_54.1
      have g_58 := g_47.keep (b := b_23) o3 k_54
      have l_59 := g_58.1
      have o_60 := o_44.keep o3 k_54
      have w_61 := o_60.lt
      have r_62 := r_51.keep u_10 o3 k_54
      have w_64 := o_53.lt
      rw [show IntKind.wrap .i64 (t17 + 1) = (t17 + 1) from wrap64 o3 o3]
      refine impl_realKernel_n1 (μ - 1) o11 ⟨_, _, rfl, o9, rfl, o_53, r_62, o3, o3, g_58, o3, o1, o1, o1, o1, o11, (by rw [show μ - 1 + 1 = μ from by first | omega]; exact e)⟩
    · have e := e.trans (cond_f c_36)
      have c_36' := of_decide_eq_false c_36
      rw [impl_realKernel_x1_0]
      rw [e] at hk
      exact hk _ _ _ H_3 g_28 (o_24.ownS o7 o3)
theorem impl_realKernel_ok : FnOk Try.prog 57 S_impl_realKernel := by
  refine FnOk.body mix_ok E_impl_realKernel_ok Try.func57 rfl (by kernel_rfl) (by kernel_rfl) ?_ ?_ ?_ ?_ ?_
  · intro args H K K' h hk
    simp only [S_impl_realKernel] at *
    unfold F_impl_realKernel at *
    split at hk
    · obtain ⟨pr0, k⟩ := hk
      exact ⟨pr0, (fun r1_a r1_n r1_e H' gg ow0 => h _ _ (k r1_a r1_n r1_e H' gg ow0))⟩
    · exact hk.elim
  · intro hq; cases hq
  · intro args H K hk
    simp only [S_impl_realKernel] at *
    unfold F_impl_realKernel at *
    split at hk
    · obtain ⟨pr0, k⟩ := hk
      exact liveS fun a n e H1 g o => ⟨_, _, k a n e H1 g o⟩
    · exact hk.elim
  · intro _ args H K hk
    simp only [S_impl_realKernel] at *
    unfold F_impl_realKernel at *
    split at hk
    · obtain ⟨pr0, k⟩ := hk
      exact ⟨pr0, (fun r1_a r1_n r1_e H' gg ow0 => ⟨gg, k r1_a r1_n r1_e H' gg ow0⟩)⟩
    · exact hk.elim
  · have mm := @impl_realKernel_main
    revert mm
    generalize bodyK Try.prog E_impl_realKernel Try.f57 = Q
    intro mm args H K hk
    simp only [S_impl_realKernel] at *
    unfold F_impl_realKernel at *
    split at hk
    · exact mm _ H K hk
    · exact hk.elim

def p_impl_squares_l1 (l_list : List Nat) : Nat → Nat → Int → Nat
  | 0, _, _ => 0
  | μ + 1, sum, t8 => (bif decide ((t8 : Int) < (l_list.length : Int)) then (p_impl_squares_l1 l_list μ (fadd .f32 sum (fmul .f32 (((l_list).getD (t8 : Int).toNat 0)) (((l_list).getD (t8 : Int).toNat 0)))) (t8 + 1)) else sum)
def p_impl_squares_l1_s := fun l_list μ sum t8 => @p_impl_squares_l1.eq_2 l_list sum t8 μ
def p_impl_squares (l_list : List Nat) : Nat := (p_impl_squares_l1 l_list (Int.toNat ((l_list.length : Int) - (0 : Int)) + 1) 0 (0 : Int))
def p_impl_squares_eq := @p_impl_squares.eq_1
def T_impl_squares (list_a : Option Addr) (list_n : Nat) (list_e : Nat) (H : AHeap) (K : Nat → AHeap → Prop) : Prop := ∃ (l_list : List Nat), IsL fF H list_a list_n l_list ∧ l_list.length < 1073741824 ∧ K (p_impl_squares l_list) H
theorem T_impl_squares_i {list_a : Option Addr} {list_n : Nat} {list_e : Nat} {H : AHeap} {K : Nat → AHeap → Prop} (h : ∃ (l_list : List Nat), IsL fF H list_a list_n l_list ∧ l_list.length < 1073741824 ∧ K (p_impl_squares l_list) H) : T_impl_squares list_a list_n list_e H K := h

/-! impl_squares: function 89 -/
def E_impl_squares : Env := envOf []
def F_impl_squares : List Value → AHeap → (Value → AHeap → Prop) → Prop
  | [.slice list_a list_n list_e], H, K => T_impl_squares list_a list_n list_e H fun (r1 : Nat) (H' : AHeap) => K (.float .f32 r1) H'
  | _, _, _ => False
def S_impl_squares : FSpec := { F := F_impl_squares, quiet := true, tame := false }
theorem impl_squares_vc (list_a : Option Addr) (list_n : Nat) (list_e : Nat) (H : AHeap) (K : Value → AHeap → Prop) : bodyK Try.prog E_impl_squares Try.f89 [.slice list_a list_n list_e] H K =
  (loopK (exK Try.prog E_impl_squares (cl (cl (cr (cl (cr (cr (bodyC Try.f89)))))))) [.slice list_a list_n list_e, undef, .float .f32 0, .float .f32 0, undef, undef, .slice list_a list_n list_e, .int .i64 (list_n : Int), .int .i64 0, undef, undef, undef, undef, undef, undef, undef, undef, undef, undef] H (blockQ 0 (seqQ (exK Try.prog E_impl_squares (cr (cr (cr (bodyC Try.f89))))) (retK Try.prog Try.f89 K)))) := by kernel_rfl
abbrev impl_squares_P1 (list_a : Option Addr) (list_e : Nat) (list_n : Nat) (sum : Nat) (t8 : Int) (g5 g9 g10 g11 g12 g13 g14 g15 g16 g17 : Value) : List Value := [.slice list_a list_n list_e, undef, .float .f32 0, .float .f32 sum, undef, g5, .slice list_a list_n list_e, .int .i64 (list_n : Int), .int .i64 t8, g9, g10, g11, g12, g13, g14, g15, g16, g17, undef]
theorem impl_squares_r1 (list_a : Option Addr) (list_e : Nat) (list_n : Nat) (sum : Nat) (t8 : Int) (g5 g9 g10 g11 g12 g13 g14 g15 g16 g17 : Value) (H : AHeap) (R : Post) : exK Try.prog E_impl_squares (cl (cl (cr (cl (cr (cr (bodyC Try.f89))))))) (impl_squares_P1 list_a list_e list_n sum t8 g5 g9 g10 g11 g12 g13 g14 g15 g16 g17) H R =
  (Br (decide ((t8 : Int) < (list_n : Int))) ((0 : Int) ≤ t8 ∧ t8 < (list_n : Int) ∧ ∃ b1 f1, (list_a : Option Addr) = some ⟨b1, f1, none⟩ ∧ ∃ x1 : Nat,  rdC H b1 (f1 + (t8 : Int).toNat * 1) = some (.float .f32 x1) ∧ R .normal [.slice list_a list_n list_e, undef, .float .f32 0, .float .f32 (fadd .f32 sum (fmul .f32 x1 x1)), undef, .float .f32 x1, .slice list_a list_n list_e, .int .i64 (list_n : Int), .int .i64 (IntKind.wrap .i64 (t8 + 1)), .bool (decide ((t8 : Int) < (list_n : Int))), .pointer (some ⟨b1, f1 + (t8 : Int).toNat * 1, none⟩), .float .f32 x1, .float .f32 sum, .float .f32 x1, .float .f32 x1, .float .f32 (fmul .f32 x1 x1), .float .f32 (fadd .f32 sum (fmul .f32 x1 x1)), .int .i64 (IntKind.wrap .i64 (t8 + 1)), undef] H) (R (.exit 0) [.slice list_a list_n list_e, undef, .float .f32 0, .float .f32 sum, undef, g5, .slice list_a list_n list_e, .int .i64 (list_n : Int), .int .i64 t8, .bool (decide ((t8 : Int) < (list_n : Int))), g10, g11, g12, g13, g14, g15, g16, g17, undef] H)) := by kernel_rfl
def impl_squares_I1 (list_a : Option Addr) (list_e : Nat) (list_n : Nat) (Inv : Nat → Nat → Int → AHeap → Prop) : Nat → List Value → AHeap → Prop := fun μ tm H => ∃ (sum : Nat), ∃ (t8 : Int), ∃ g5 g9 g10 g11 g12 g13 g14 g15 g16 g17, tm = (impl_squares_P1 list_a list_e list_n sum t8 g5 g9 g10 g11 g12 g13 g14 g15 g16 g17) ∧ Inv μ sum t8 H
theorem impl_squares_L1 (list_a : Option Addr) (list_e : Nat) (list_n : Nat) {Q : Post} (Inv : Nat → Nat → Int → AHeap → Prop) (ν : Nat) (sum : Nat) (t8 : Int) (g5 g9 g10 g11 g12 g13 g14 g15 g16 g17 : Value) (H : AHeap) (h0 : Inv ν sum t8 H)
    (hs : ∀ (μ : Nat) (sum : Nat) (t8 : Int) (g5 g9 g10 g11 g12 g13 g14 g15 g16 g17 : Value) (H : AHeap), Inv μ sum t8 H → exK Try.prog E_impl_squares (cl (cl (cr (cl (cr (cr (bodyC Try.f89))))))) (impl_squares_P1 list_a list_e list_n sum t8 g5 g9 g10 g11 g12 g13 g14 g15 g16 g17) H (loopQ (impl_squares_I1 list_a list_e list_n Inv) μ Q)) : loopK (exK Try.prog E_impl_squares (cl (cl (cr (cl (cr (cr (bodyC Try.f89)))))))) (impl_squares_P1 list_a list_e list_n sum t8 g5 g9 g10 g11 g12 g13 g14 g15 g16 g17) H Q :=
  ⟨impl_squares_I1 list_a list_e list_n Inv, ν, ⟨sum, t8, g5, g9, g10, g11, g12, g13, g14, g15, g16, g17, rfl, h0⟩, fun μ tm H h => by obtain ⟨sum, t8, g5, g9, g10, g11, g12, g13, g14, g15, g16, g17, rfl, hI⟩ := h; exact hs μ sum t8 g5 g9 g10 g11 g12 g13 g14 g15 g16 g17 H hI⟩
theorem impl_squares_n1 {list_a : Option Addr} {list_e : Nat} {list_n : Nat} {Q : Post} {Inv : Nat → Nat → Int → AHeap → Prop} {μ : Nat} (μ' : Nat) {sum : Nat} {t8 : Int} {g5 g9 g10 g11 g12 g13 g14 g15 g16 g17 : Value} {H : AHeap} (hm : μ' < μ) (hI : Inv μ' sum t8 H) : loopQ (impl_squares_I1 list_a list_e list_n Inv) μ Q .normal (impl_squares_P1 list_a list_e list_n sum t8 g5 g9 g10 g11 g12 g13 g14 g15 g16 g17) H := ⟨μ', hm, sum, t8, g5, g9, g10, g11, g12, g13, g14, g15, g16, g17, rfl, hI⟩
theorem impl_squares_x1_0 (list_a : Option Addr) (list_e : Nat) (list_n : Nat) (sum : Nat) (t8 : Int) (g5 g9 g10 g11 g12 g13 g14 g15 g16 g17 : Value) (H : AHeap) (K : Value → AHeap → Prop)  {I : Nat → List Value → AHeap → Prop} {μ : Nat} : loopQ I μ (blockQ 0 (seqQ (exK Try.prog E_impl_squares (cr (cr (cr (bodyC Try.f89))))) (retK Try.prog Try.f89 K))) (.exit 0) (impl_squares_P1 list_a list_e list_n sum t8 g5 g9 g10 g11 g12 g13 g14 g15 g16 g17) H =
  (K (.float .f32 sum) H) := by kernel_rfl
theorem E_impl_squares_ok : ∀ g, FnOk Try.prog g (E_impl_squares g) := FnOk.envOf (by
  intro x hx; cases hx)
set_option maxHeartbeats 1000000 in
theorem impl_squares_main (list_a : Option Addr) (list_n : Nat) (list_e : Nat) (H : AHeap) (K : Value → AHeap → Prop) (h : T_impl_squares list_a list_n list_e H fun (r1 : Nat) (H' : AHeap) => K (.float .f32 r1) H') : bodyK Try.prog E_impl_squares Try.f89 [.slice list_a list_n list_e] H K := by
  rw [impl_squares_vc]
  obtain ⟨l_list, i_list, bd_8, hk⟩ := h
  obtain rfl := i_list.eqn
  have e : (p_impl_squares l_list) = _ := rfl
  have e := e.trans (p_impl_squares_eq l_list)
  have g0 := Grow.refl H
  refine impl_squares_L1 _ _ _ (fun (μ : Nat) (sum : Nat) (t8 : Int) (H_1 : AHeap) => H = H_1 ∧ (0 : Int) ≤ t8 ∧ t8 ≤ (l_list.length : Int) ∧ (l_list.length : Int) - t8 ≤ (μ : Int) ∧ p_impl_squares l_list = p_impl_squares_l1 l_list (μ + 1) sum t8) (Int.toNat ((l_list.length : Int) - (0 : Int))) _ _ _ _ _ _ _ _ _ _ _ _ H ?_ ?_
  · exact ⟨rfl, o6, o6, o3, e⟩
  · intro μ sum t8 g5 g9 g10 g11 g12 g13 g14 g15 g16 g17 H_1 hI
    obtain ⟨rfl, v_1, v_2, hμ, e⟩ := hI
    rw [impl_squares_r1]
    have e := e.trans (p_impl_squares_l1_s l_list μ sum t8)
    have l_3 := g0.1
    refine Br.intro (fun c_4 => ?_) (fun c_4 => ?_)
    · have e := e.trans (cond_t c_4)
      have c_4' := of_decide_eq_true c_4
      obtain ⟨b_5, f_6, q_7⟩ := ((i_list.grow g0)).pos o0
      refine ⟨by omega, by omega, b_5, f_6, q_7, ?_⟩
      refine ⟨((l_list).getD (t8 : Int).toNat 0), (i_list).rd g0 q_7 o3 _, ?_⟩
      rw [show IntKind.wrap .i64 (t8 + 1) = (t8 + 1) from wrap64 o3 o3]
      refine impl_squares_n1 (μ - 1) o11 ⟨rfl, o1, o1, o11, (by rw [show μ - 1 + 1 = μ from by first | omega]; exact e)⟩
    · have e := e.trans (cond_f c_4)
      have c_4' := of_decide_eq_false c_4
      rw [impl_squares_x1_0]
      rw [e] at hk
      exact hk
theorem impl_squares_ok : FnOk Try.prog 89 S_impl_squares := by
  refine FnOk.body mix_ok E_impl_squares_ok Try.func89 rfl (by kernel_rfl) (by kernel_rfl) ?_ ?_ ?_ ?_ ?_
  · intro args H K K' h hk
    simp only [S_impl_squares] at *
    unfold F_impl_squares at *
    split at hk
    · obtain ⟨l_list, i_list, bd_8, k⟩ := hk
      exact ⟨l_list, i_list, bd_8, h _ _ k⟩
    · exact hk.elim
  · intro _ args H K hk
    simp only [S_impl_squares] at *
    unfold F_impl_squares at *
    split at hk
    · obtain ⟨l_list, i_list, bd_8, k⟩ := hk
      exact ⟨_, k, fun K' k' => ⟨l_list, i_list, bd_8, k'⟩⟩
    · exact hk.elim
  · intro args H K hk
    simp only [S_impl_squares] at *
    unfold F_impl_squares at *
    split at hk
    · obtain ⟨l_list, i_list, bd_8, k⟩ := hk
      exact ⟨_, _, k⟩
    · exact hk.elim
  · intro hq; cases hq
  · have mm := @impl_squares_main
    revert mm
    generalize bodyK Try.prog E_impl_squares Try.f89 = Q
    intro mm args H K hk
    simp only [S_impl_squares] at *
    unfold F_impl_squares at *
    split at hk
    · exact mm _ _ _ H K hk
    · exact hk.elim

def p_impl_RootNumber (x : Nat) : Nat := ((fnarrow ((p_math_Sqrt (fwide x)))).getD 0)
def p_impl_RootNumber_eq := @p_impl_RootNumber.eq_1
def T_impl_RootNumber (x : Nat) (H : AHeap) (K : Nat → AHeap → Prop) : Prop := K (p_impl_RootNumber x) H
theorem T_impl_RootNumber_i {x : Nat} {H : AHeap} {K : Nat → AHeap → Prop} (h : K (p_impl_RootNumber x) H) : T_impl_RootNumber x H K := h

/-! impl_RootNumber: function 88 -/
def E_impl_RootNumber : Env := envOf [(113, S_math_Sqrt)]
def F_impl_RootNumber : List Value → AHeap → (Value → AHeap → Prop) → Prop
  | [.float .f32 x], H, K => T_impl_RootNumber x H fun (r1 : Nat) (H' : AHeap) => K (.float .f32 r1) H'
  | _, _, _ => False
def S_impl_RootNumber : FSpec := { F := F_impl_RootNumber, quiet := true, tame := false }
theorem impl_RootNumber_vc (x : Nat) (H : AHeap) (K : Value → AHeap → Prop) : bodyK Try.prog E_impl_RootNumber Try.f88 [.float .f32 x] H K =
  (T_math_Sqrt (fwide x) H fun (r1 : Nat) (H1 : AHeap) => ∃ x1 : Nat, fnarrow r1 = some x1 ∧ K (.float .f32 x1) H1) := by kernel_rfl
theorem E_impl_RootNumber_ok : ∀ g, FnOk Try.prog g (E_impl_RootNumber g) := FnOk.envOf (by
  intro x hx
  simp only [List.mem_cons, List.not_mem_nil, or_false] at hx
  subst hx; exact math_Sqrt_ok)
set_option maxHeartbeats 1000000 in
theorem impl_RootNumber_main (x : Nat) (H : AHeap) (K : Value → AHeap → Prop) (h : T_impl_RootNumber x H fun (r1 : Nat) (H' : AHeap) => K (.float .f32 r1) H') : bodyK Try.prog E_impl_RootNumber Try.f88 [.float .f32 x] H K := by
  rw [impl_RootNumber_vc]
  have hk := h
  unfold T_impl_RootNumber at hk
  have e : (p_impl_RootNumber x) = _ := rfl
  have e := e.trans (p_impl_RootNumber_eq x)
  have g0 := Grow.refl H
  refine T_math_Sqrt_i ?_
  refine ⟨_, opt_get (d := 0) (by exact sqrt_nar _), ?_⟩
  rw [e] at hk
  exact hk
theorem impl_RootNumber_ok : FnOk Try.prog 88 S_impl_RootNumber := by
  refine FnOk.body mix_ok E_impl_RootNumber_ok Try.func88 rfl (by kernel_rfl) (by kernel_rfl) ?_ ?_ ?_ ?_ ?_
  · intro args H K K' h hk
    simp only [S_impl_RootNumber] at *
    unfold F_impl_RootNumber at *
    split at hk
    · have k := hk
      exact h _ _ k
    · exact hk.elim
  · intro _ args H K hk
    simp only [S_impl_RootNumber] at *
    unfold F_impl_RootNumber at *
    split at hk
    · have k := hk
      exact ⟨_, k, fun K' k' => k'⟩
    · exact hk.elim
  · intro args H K hk
    simp only [S_impl_RootNumber] at *
    unfold F_impl_RootNumber at *
    split at hk
    · have k := hk
      exact ⟨_, _, k⟩
    · exact hk.elim
  · intro hq; cases hq
  · have mm := @impl_RootNumber_main
    revert mm
    generalize bodyK Try.prog E_impl_RootNumber Try.f88 = Q
    intro mm args H K hk
    simp only [S_impl_RootNumber] at *
    unfold F_impl_RootNumber at *
    split at hk
    · exact mm _ H K hk
    · exact hk.elim

def p_impl_atomBy_l2 (l_list : List Nat) (r : Int) (count : Int) (place : Int) (size : Nat) (t21 : Int) (y1_1 : List Nat) (k2_2 : Int → (List Nat) → (List Nat)) : Nat → Int → (List Nat) → (List Nat)
  | 0, _, _ => []
  | μ2 + 1, t50, y2_1 => (bif decide ((t50 : Int) < ((count).toNat : Int)) then (p_impl_atomBy_l2 l_list r count place size t21 y1_1 k2_2 μ2 (t50 + 1) (((y2_1).set (t50 : Int).toNat ((fmul .f32 (fdiv .f32 (((y2_1).getD (t50 : Int).toNat 0)) ((p_impl_RootNumber (p_impl_squares y1_1)))) size))))) else (k2_2 t50 y2_1))
def p_impl_atomBy_l2_s := fun l_list r count place size t21 y1_1 k2_2 μ2 t50 y2_1 => @p_impl_atomBy_l2.eq_2 l_list r count place size t21 y1_1 k2_2 t50 y2_1 μ2
def p_impl_atomBy_l1 (l_list : List Nat) (r : Int) (count : Int) (place : Int) (size : Nat) : Nat → Int → (List Nat) → (List Nat)
  | 0, _, _ => []
  | μ + 1, t21, y1_1 => (bif decide ((t21 : Int) < ((count).toNat : Int)) then (bif decide ((0 : Int) ≤ ((t21 - place) + r)) then (bif decide ((((t21 - place) + r) : Int) < (l_list.length : Int)) then (p_impl_atomBy_l1 l_list r count place size μ (t21 + 1) (((y1_1).set (t21 : Int).toNat ((((l_list).getD (((t21 - place) + r) : Int).toNat 0)))))) else (p_impl_atomBy_l1 l_list r count place size μ (t21 + 1) y1_1)) else (p_impl_atomBy_l1 l_list r count place size μ (t21 + 1) y1_1)) else (p_impl_atomBy_l2 l_list r count place size t21 y1_1 (fun (t50 : Int) (y2_1 : List Nat) => y2_1) (Int.toNat (((count).toNat : Int) - (0 : Int)) + 1) (0 : Int) y1_1))
def p_impl_atomBy_l1_s := fun l_list r count place size μ t21 y1_1 => @p_impl_atomBy_l1.eq_2 l_list r count place size t21 y1_1 μ
def p_impl_atomBy (l_list : List Nat) (r : Int) (count : Int) (place : Int) (size : Nat) : (List Nat) := (p_impl_atomBy_l1 l_list r count place size (Int.toNat (((count).toNat : Int) - (0 : Int)) + 1) (0 : Int) (List.replicate ((count).toNat) 0))
def p_impl_atomBy_eq := @p_impl_atomBy.eq_1
def T_impl_atomBy (list_a : Option Addr) (list_n : Nat) (list_e : Nat) (r : Int) (count : Int) (place : Int) (size : Nat) (H : AHeap) (K : (Option Addr) → Nat → Nat → AHeap → Prop) : Prop := ∃ (l_list : List Nat), IsL fF H list_a list_n l_list ∧ l_list.length < 1073741824 ∧ 0 ≤ count ∧ count ≤ 1000 ∧ 0 ≤ place ∧ place ≤ 1000 ∧ -256 ≤ r ∧ r ≤ 256 ∧ ((∀ (r1_a : Option Addr) (r1_n r1_e : Nat), ∀ H' : AHeap, Grow H H' → OwnS fF H' H.length r1_a r1_n r1_e (p_impl_atomBy l_list r count place size) → K r1_a r1_n r1_e H'))
theorem T_impl_atomBy_i {list_a : Option Addr} {list_n : Nat} {list_e : Nat} {r : Int} {count : Int} {place : Int} {size : Nat} {H : AHeap} {K : (Option Addr) → Nat → Nat → AHeap → Prop} (h : ∃ (l_list : List Nat), IsL fF H list_a list_n l_list ∧ l_list.length < 1073741824 ∧ 0 ≤ count ∧ count ≤ 1000 ∧ 0 ≤ place ∧ place ≤ 1000 ∧ -256 ≤ r ∧ r ≤ 256 ∧ ((∀ (r1_a : Option Addr) (r1_n r1_e : Nat), ∀ H' : AHeap, Grow H H' → OwnS fF H' H.length r1_a r1_n r1_e (p_impl_atomBy l_list r count place size) → K r1_a r1_n r1_e H'))) : T_impl_atomBy list_a list_n list_e r count place size H K := h
theorem impl_atomBy_l2_len (l : List Nat) (r c p : Int) (z : Nat) (t : Int) (y1 : List Nat) : ∀ (μ : Nat) (i : Int) (y : List Nat), (p_impl_atomBy_l2 l r c p z t y1 (fun (t50 : Int) (y2_1 : List Nat) => y2_1) μ i y).length ≤ y.length := by
  intro μ
  induction μ with
  | zero => intro i y; exact Nat.zero_le _
  | succ μ ih =>
    intro i y
    rw [p_impl_atomBy_l2_s]
    cases decide (i < ((c).toNat : Int))
    · exact Nat.le_refl _
    · exact Nat.le_trans (ih _ _) (by rw [List.length_set]; exact Nat.le_refl _)
theorem impl_atomBy_l1_len (l : List Nat) (r c p : Int) (z : Nat) : ∀ (μ : Nat) (i : Int) (y : List Nat), (p_impl_atomBy_l1 l r c p z μ i y).length ≤ y.length := by
  intro μ
  induction μ with
  | zero => intro i y; exact Nat.zero_le _
  | succ μ ih =>
    intro i y
    rw [p_impl_atomBy_l1_s]
    cases decide (i < ((c).toNat : Int))
    · exact impl_atomBy_l2_len _ _ _ _ _ _ _ _ _ _
    · simp only [cond_true]
      refine cnb (P := fun r : List Nat => r.length ≤ y.length) (fun h => ?_) (fun h => ih _ _)
      refine cnb (P := fun r : List Nat => r.length ≤ y.length) (fun h => ?_) (fun h => ih _ _)
      refine Nat.le_trans (ih _ _) ?_; rw [List.length_set]; exact Nat.le_refl _
theorem impl_atomBy_len (l : List Nat) (r c p : Int) (z : Nat) : (p_impl_atomBy l r c p z).length ≤ c.toNat := by
  rw [p_impl_atomBy_eq]
  exact Nat.le_trans (impl_atomBy_l1_len _ _ _ _ _ _ _ _) (by rw [List.length_replicate]; exact Nat.le_refl _)
theorem impl_atomBy_l2_full (l : List Nat) (r c p : Int) (z : Nat) (t : Int) (y1 : List Nat) : ∀ (μ : Nat) (i : Int) (y : List Nat), (((c).toNat : Int) - i).toNat < μ → (p_impl_atomBy_l2 l r c p z t y1 (fun (t50 : Int) (y2_1 : List Nat) => y2_1) μ i y).length = y.length := by
  intro μ
  induction μ with
  | zero => intro i y h; omega
  | succ μ ih =>
    intro i y h
    rw [p_impl_atomBy_l2_s]
    by_cases hi : i < ((c).toNat : Int)
    · rw [decide_eq_true hi, cond_true, ih _ _ o3, List.length_set]
    · rw [decide_eq_false hi, cond_false]
theorem impl_atomBy_l1_full (l : List Nat) (r c p : Int) (z : Nat) : ∀ (μ : Nat) (i : Int) (y : List Nat), (((c).toNat : Int) - i).toNat < μ → (p_impl_atomBy_l1 l r c p z μ i y).length = y.length := by
  intro μ
  induction μ with
  | zero => intro i y h; omega
  | succ μ ih =>
    intro i y h
    rw [p_impl_atomBy_l1_s]
    by_cases hi : i < ((c).toNat : Int)
    · rw [decide_eq_true hi, cond_true]
      refine cnb (P := fun r : List Nat => r.length = y.length) (fun h2 => ?_) (fun h2 => ih _ _ o3)
      refine cnb (P := fun r : List Nat => r.length = y.length) (fun h3 => ?_) (fun h3 => ih _ _ o3)
      rw [ih _ _ o3, List.length_set]
    · rw [decide_eq_false hi, cond_false]
      exact impl_atomBy_l2_full _ _ _ _ _ _ _ _ _ _ o3
theorem impl_atomBy_full (l : List Nat) (r c p : Int) (z : Nat) : (p_impl_atomBy l r c p z).length = c.toNat := by
  rw [p_impl_atomBy_eq, impl_atomBy_l1_full _ _ _ _ _ _ _ _ o3, List.length_replicate]
/-! impl_atomBy: function 59 -/
def E_impl_atomBy : Env := envOf [(89, S_impl_squares), (88, S_impl_RootNumber)]
def F_impl_atomBy : List Value → AHeap → (Value → AHeap → Prop) → Prop
  | [.slice list_a list_n list_e, .int .i64 r, .int .i64 count, .int .i64 place, .float .f32 size], H, K => T_impl_atomBy list_a list_n list_e r count place size H fun (r1_a : Option Addr) (r1_n : Nat) (r1_e : Nat) (H' : AHeap) => K (.slice r1_a r1_n r1_e) H'
  | _, _, _ => False
def S_impl_atomBy : FSpec := { F := F_impl_atomBy, quiet := false, tame := true }
theorem impl_atomBy_vc (list_a : Option Addr) (list_n : Nat) (list_e : Nat) (r : Int) (count : Int) (place : Int) (size : Nat) (H : AHeap) (K : Value → AHeap → Prop) : bodyK Try.prog E_impl_atomBy Try.f59 [.slice list_a list_n list_e, .int .i64 r, .int .i64 count, .int .i64 place, .float .f32 size] H K =
  ((0 : Int) ≤ count ∧ count = count ∧ count < (most : Int) ∧ Al (zerosOf (.float .f32 0) (count).toNat) H fun b1 H1 => loopK (exK Try.prog E_impl_atomBy (cl (cl (cr (cl (cr (cr (bodyC Try.f59)))))))) [.slice list_a list_n list_e, .int .i64 r, .int .i64 count, .int .i64 place, .float .f32 size, undef, undef, undef, undef, undef, .slice none 0 0, .slice (some ⟨b1, 0, none⟩) ((count).toNat) 1, undef, undef, undef, undef, undef, .int .i64 count, .slice (some ⟨b1, 0, none⟩) ((count).toNat) 1, .slice (some ⟨b1, 0, none⟩) ((count).toNat) 1, .int .i64 (((count).toNat : Int)), .int .i64 0, undef, undef, undef, undef, undef, undef, undef, undef, undef, undef, undef, undef, undef, undef, undef, undef, undef, undef, undef, undef, undef, undef, undef, undef, undef, undef, undef, undef, undef, undef, undef, undef, undef, undef, undef, undef, undef, undef, undef, undef, undef, undef, undef] H1 (blockQ 0 (seqQ (exK Try.prog E_impl_atomBy (cr (cr (cr (bodyC Try.f59))))) (retK Try.prog Try.f59 K)))) := by kernel_rfl
abbrev impl_atomBy_P1 (b1 : Nat) (count : Int) (list_a : Option Addr) (list_e : Nat) (list_n : Nat) (place : Int) (r : Int) (size : Nat) (t21 : Int) (g12 g13 g22 g23 g24 g25 g26 g27 g28 g29 g30 g31 g32 g33 g34 g35 g36 g37 g38 g39 g40 g41 g42 g43 g44 : Value) : List Value := [.slice list_a list_n list_e, .int .i64 r, .int .i64 count, .int .i64 place, .float .f32 size, undef, undef, undef, undef, undef, .slice none 0 0, .slice (some ⟨b1, 0, none⟩) ((count).toNat) 1, g12, g13, undef, undef, undef, .int .i64 count, .slice (some ⟨b1, 0, none⟩) ((count).toNat) 1, .slice (some ⟨b1, 0, none⟩) ((count).toNat) 1, .int .i64 (((count).toNat : Int)), .int .i64 t21, g22, g23, g24, g25, g26, g27, g28, g29, g30, g31, g32, g33, g34, g35, g36, g37, g38, g39, g40, g41, g42, g43, g44, undef, undef, undef, undef, undef, undef, undef, undef, undef, undef, undef, undef, undef, undef, undef, undef, undef, undef, undef, undef]
theorem impl_atomBy_r1 (b1 : Nat) (count : Int) (list_a : Option Addr) (list_e : Nat) (list_n : Nat) (place : Int) (r : Int) (size : Nat) (t21 : Int) (g12 g13 g22 g23 g24 g25 g26 g27 g28 g29 g30 g31 g32 g33 g34 g35 g36 g37 g38 g39 g40 g41 g42 g43 g44 : Value) (H : AHeap) (R : Post) : exK Try.prog E_impl_atomBy (cl (cl (cr (cl (cr (cr (bodyC Try.f59))))))) (impl_atomBy_P1 b1 count list_a list_e list_n place r size t21 g12 g13 g22 g23 g24 g25 g26 g27 g28 g29 g30 g31 g32 g33 g34 g35 g36 g37 g38 g39 g40 g41 g42 g43 g44) H R =
  (Br (decide ((t21 : Int) < ((count).toNat : Int))) (Br (decide ((0 : Int) ≤ IntKind.wrap .i64 ((IntKind.wrap .i64 (t21 - place)) + r))) (Br (decide ((IntKind.wrap .i64 ((IntKind.wrap .i64 (t21 - place)) + r) : Int) < (list_n : Int))) ((0 : Int) ≤ IntKind.wrap .i64 ((IntKind.wrap .i64 (t21 - place)) + r) ∧ IntKind.wrap .i64 ((IntKind.wrap .i64 (t21 - place)) + r) < (list_n : Int) ∧ ∃ b2 f1, (list_a : Option Addr) = some ⟨b2, f1, none⟩ ∧ ∃ x1 : Nat,  rdC H b2 (f1 + (IntKind.wrap .i64 ((IntKind.wrap .i64 (t21 - place)) + r) : Int).toNat * 1) = some (.float .f32 x1) ∧ (0 : Int) ≤ t21 ∧ t21 < ((count).toNat : Int) ∧ ∃ b3 f2, (some ⟨b1, 0, none⟩ : Option Addr) = some ⟨b3, f2, none⟩ ∧ isOwn H b3 ∧ (∃ l, rdN H b3 (f2 + (t21 : Int).toNat * 1) 1 = some l) ∧ Lt (setC H b3 (f2 + (t21 : Int).toNat * 1) (.float .f32 x1)) fun H2 => R .normal [.slice list_a list_n list_e, .int .i64 r, .int .i64 count, .int .i64 place, .float .f32 size, undef, undef, undef, undef, undef, .slice none 0 0, .slice (some ⟨b1, 0, none⟩) ((count).toNat) 1, .int .i64 t21, .int .i64 (IntKind.wrap .i64 ((IntKind.wrap .i64 (t21 - place)) + r)), undef, undef, undef, .int .i64 count, .slice (some ⟨b1, 0, none⟩) ((count).toNat) 1, .slice (some ⟨b1, 0, none⟩) ((count).toNat) 1, .int .i64 (((count).toNat : Int)), .int .i64 (IntKind.wrap .i64 (t21 + 1)), .bool (decide ((t21 : Int) < ((count).toNat : Int))), .int .i64 t21, .int .i64 t21, .int .i64 place, .int .i64 (IntKind.wrap .i64 (t21 - place)), .int .i64 r, .int .i64 (IntKind.wrap .i64 ((IntKind.wrap .i64 (t21 - place)) + r)), .int .i64 (IntKind.wrap .i64 ((IntKind.wrap .i64 (t21 - place)) + r)), .bool (decide ((0 : Int) ≤ IntKind.wrap .i64 ((IntKind.wrap .i64 (t21 - place)) + r))), .bool true, .int .i64 (IntKind.wrap .i64 ((IntKind.wrap .i64 (t21 - place)) + r)), .slice list_a list_n list_e, .int .i64 (list_n : Int), .bool (decide ((IntKind.wrap .i64 ((IntKind.wrap .i64 (t21 - place)) + r) : Int) < (list_n : Int))), .bool (decide ((IntKind.wrap .i64 ((IntKind.wrap .i64 (t21 - place)) + r) : Int) < (list_n : Int))), .slice (some ⟨b1, 0, none⟩) ((count).toNat) 1, .int .i64 t21, .slice list_a list_n list_e, .int .i64 (IntKind.wrap .i64 ((IntKind.wrap .i64 (t21 - place)) + r)), .pointer (some ⟨b2, f1 + (IntKind.wrap .i64 ((IntKind.wrap .i64 (t21 - place)) + r) : Int).toNat * 1, none⟩), .float .f32 x1, .pointer (some ⟨b3, f2 + (t21 : Int).toNat * 1, none⟩), .int .i64 (IntKind.wrap .i64 (t21 + 1)), undef, undef, undef, undef, undef, undef, undef, undef, undef, undef, undef, undef, undef, undef, undef, undef, undef, undef, undef, undef] H2) (R .normal [.slice list_a list_n list_e, .int .i64 r, .int .i64 count, .int .i64 place, .float .f32 size, undef, undef, undef, undef, undef, .slice none 0 0, .slice (some ⟨b1, 0, none⟩) ((count).toNat) 1, .int .i64 t21, .int .i64 (IntKind.wrap .i64 ((IntKind.wrap .i64 (t21 - place)) + r)), undef, undef, undef, .int .i64 count, .slice (some ⟨b1, 0, none⟩) ((count).toNat) 1, .slice (some ⟨b1, 0, none⟩) ((count).toNat) 1, .int .i64 (((count).toNat : Int)), .int .i64 (IntKind.wrap .i64 (t21 + 1)), .bool (decide ((t21 : Int) < ((count).toNat : Int))), .int .i64 t21, .int .i64 t21, .int .i64 place, .int .i64 (IntKind.wrap .i64 (t21 - place)), .int .i64 r, .int .i64 (IntKind.wrap .i64 ((IntKind.wrap .i64 (t21 - place)) + r)), .int .i64 (IntKind.wrap .i64 ((IntKind.wrap .i64 (t21 - place)) + r)), .bool (decide ((0 : Int) ≤ IntKind.wrap .i64 ((IntKind.wrap .i64 (t21 - place)) + r))), .bool true, .int .i64 (IntKind.wrap .i64 ((IntKind.wrap .i64 (t21 - place)) + r)), .slice list_a list_n list_e, .int .i64 (list_n : Int), .bool (decide ((IntKind.wrap .i64 ((IntKind.wrap .i64 (t21 - place)) + r) : Int) < (list_n : Int))), .bool (decide ((IntKind.wrap .i64 ((IntKind.wrap .i64 (t21 - place)) + r) : Int) < (list_n : Int))), g37, g38, g39, g40, g41, g42, g43, .int .i64 (IntKind.wrap .i64 (t21 + 1)), undef, undef, undef, undef, undef, undef, undef, undef, undef, undef, undef, undef, undef, undef, undef, undef, undef, undef, undef, undef] H)) (R .normal [.slice list_a list_n list_e, .int .i64 r, .int .i64 count, .int .i64 place, .float .f32 size, undef, undef, undef, undef, undef, .slice none 0 0, .slice (some ⟨b1, 0, none⟩) ((count).toNat) 1, .int .i64 t21, .int .i64 (IntKind.wrap .i64 ((IntKind.wrap .i64 (t21 - place)) + r)), undef, undef, undef, .int .i64 count, .slice (some ⟨b1, 0, none⟩) ((count).toNat) 1, .slice (some ⟨b1, 0, none⟩) ((count).toNat) 1, .int .i64 (((count).toNat : Int)), .int .i64 (IntKind.wrap .i64 (t21 + 1)), .bool (decide ((t21 : Int) < ((count).toNat : Int))), .int .i64 t21, .int .i64 t21, .int .i64 place, .int .i64 (IntKind.wrap .i64 (t21 - place)), .int .i64 r, .int .i64 (IntKind.wrap .i64 ((IntKind.wrap .i64 (t21 - place)) + r)), .int .i64 (IntKind.wrap .i64 ((IntKind.wrap .i64 (t21 - place)) + r)), .bool (decide ((0 : Int) ≤ IntKind.wrap .i64 ((IntKind.wrap .i64 (t21 - place)) + r))), .bool false, undef, undef, undef, undef, .bool false, g37, g38, g39, g40, g41, g42, g43, .int .i64 (IntKind.wrap .i64 (t21 + 1)), undef, undef, undef, undef, undef, undef, undef, undef, undef, undef, undef, undef, undef, undef, undef, undef, undef, undef, undef, undef] H)) (R (.exit 0) [.slice list_a list_n list_e, .int .i64 r, .int .i64 count, .int .i64 place, .float .f32 size, undef, undef, undef, undef, undef, .slice none 0 0, .slice (some ⟨b1, 0, none⟩) ((count).toNat) 1, g12, g13, undef, undef, undef, .int .i64 count, .slice (some ⟨b1, 0, none⟩) ((count).toNat) 1, .slice (some ⟨b1, 0, none⟩) ((count).toNat) 1, .int .i64 (((count).toNat : Int)), .int .i64 t21, .bool (decide ((t21 : Int) < ((count).toNat : Int))), g23, g24, g25, g26, g27, g28, g29, g30, g31, g32, g33, g34, g35, g36, g37, g38, g39, g40, g41, g42, g43, g44, undef, undef, undef, undef, undef, undef, undef, undef, undef, undef, undef, undef, undef, undef, undef, undef, undef, undef, undef, undef] H)) := by kernel_rfl
def impl_atomBy_I1 (b1 : Nat) (count : Int) (list_a : Option Addr) (list_e : Nat) (list_n : Nat) (place : Int) (r : Int) (size : Nat) (Inv : Nat → Int → AHeap → Prop) : Nat → List Value → AHeap → Prop := fun μ tm H => ∃ (t21 : Int), ∃ g12 g13 g22 g23 g24 g25 g26 g27 g28 g29 g30 g31 g32 g33 g34 g35 g36 g37 g38 g39 g40 g41 g42 g43 g44, tm = (impl_atomBy_P1 b1 count list_a list_e list_n place r size t21 g12 g13 g22 g23 g24 g25 g26 g27 g28 g29 g30 g31 g32 g33 g34 g35 g36 g37 g38 g39 g40 g41 g42 g43 g44) ∧ Inv μ t21 H
theorem impl_atomBy_L1 (b1 : Nat) (count : Int) (list_a : Option Addr) (list_e : Nat) (list_n : Nat) (place : Int) (r : Int) (size : Nat) {Q : Post} (Inv : Nat → Int → AHeap → Prop) (ν : Nat) (t21 : Int) (g12 g13 g22 g23 g24 g25 g26 g27 g28 g29 g30 g31 g32 g33 g34 g35 g36 g37 g38 g39 g40 g41 g42 g43 g44 : Value) (H : AHeap) (h0 : Inv ν t21 H)
    (hs : ∀ (μ : Nat) (t21 : Int) (g12 g13 g22 g23 g24 g25 g26 g27 g28 g29 g30 g31 g32 g33 g34 g35 g36 g37 g38 g39 g40 g41 g42 g43 g44 : Value) (H : AHeap), Inv μ t21 H → exK Try.prog E_impl_atomBy (cl (cl (cr (cl (cr (cr (bodyC Try.f59))))))) (impl_atomBy_P1 b1 count list_a list_e list_n place r size t21 g12 g13 g22 g23 g24 g25 g26 g27 g28 g29 g30 g31 g32 g33 g34 g35 g36 g37 g38 g39 g40 g41 g42 g43 g44) H (loopQ (impl_atomBy_I1 b1 count list_a list_e list_n place r size Inv) μ Q)) : loopK (exK Try.prog E_impl_atomBy (cl (cl (cr (cl (cr (cr (bodyC Try.f59)))))))) (impl_atomBy_P1 b1 count list_a list_e list_n place r size t21 g12 g13 g22 g23 g24 g25 g26 g27 g28 g29 g30 g31 g32 g33 g34 g35 g36 g37 g38 g39 g40 g41 g42 g43 g44) H Q :=
  ⟨impl_atomBy_I1 b1 count list_a list_e list_n place r size Inv, ν, ⟨t21, g12, g13, g22, g23, g24, g25, g26, g27, g28, g29, g30, g31, g32, g33, g34, g35, g36, g37, g38, g39, g40, g41, g42, g43, g44, rfl, h0⟩, fun μ tm H h => by obtain ⟨t21, g12, g13, g22, g23, g24, g25, g26, g27, g28, g29, g30, g31, g32, g33, g34, g35, g36, g37, g38, g39, g40, g41, g42, g43, g44, rfl, hI⟩ := h; exact hs μ t21 g12 g13 g22 g23 g24 g25 g26 g27 g28 g29 g30 g31 g32 g33 g34 g35 g36 g37 g38 g39 g40 g41 g42 g43 g44 H hI⟩
theorem impl_atomBy_n1 {b1 : Nat} {count : Int} {list_a : Option Addr} {list_e : Nat} {list_n : Nat} {place : Int} {r : Int} {size : Nat} {Q : Post} {Inv : Nat → Int → AHeap → Prop} {μ : Nat} (μ' : Nat) {t21 : Int} {g12 g13 g22 g23 g24 g25 g26 g27 g28 g29 g30 g31 g32 g33 g34 g35 g36 g37 g38 g39 g40 g41 g42 g43 g44 : Value} {H : AHeap} (hm : μ' < μ) (hI : Inv μ' t21 H) : loopQ (impl_atomBy_I1 b1 count list_a list_e list_n place r size Inv) μ Q .normal (impl_atomBy_P1 b1 count list_a list_e list_n place r size t21 g12 g13 g22 g23 g24 g25 g26 g27 g28 g29 g30 g31 g32 g33 g34 g35 g36 g37 g38 g39 g40 g41 g42 g43 g44) H := ⟨μ', hm, t21, g12, g13, g22, g23, g24, g25, g26, g27, g28, g29, g30, g31, g32, g33, g34, g35, g36, g37, g38, g39, g40, g41, g42, g43, g44, rfl, hI⟩
theorem impl_atomBy_x1_0 (b1 : Nat) (count : Int) (list_a : Option Addr) (list_e : Nat) (list_n : Nat) (place : Int) (r : Int) (size : Nat) (t21 : Int) (g12 g13 g22 g23 g24 g25 g26 g27 g28 g29 g30 g31 g32 g33 g34 g35 g36 g37 g38 g39 g40 g41 g42 g43 g44 : Value) (H : AHeap) (K : Value → AHeap → Prop)  {I : Nat → List Value → AHeap → Prop} {μ : Nat} : loopQ I μ (blockQ 0 (seqQ (exK Try.prog E_impl_atomBy (cr (cr (cr (bodyC Try.f59))))) (retK Try.prog Try.f59 K))) (.exit 0) (impl_atomBy_P1 b1 count list_a list_e list_n place r size t21 g12 g13 g22 g23 g24 g25 g26 g27 g28 g29 g30 g31 g32 g33 g34 g35 g36 g37 g38 g39 g40 g41 g42 g43 g44) H =
  (T_impl_squares (some ⟨b1, 0, none⟩) ((count).toNat) 1 H fun (r1 : Nat) (H3 : AHeap) => T_impl_RootNumber r1 H3 fun (r2 : Nat) (H4 : AHeap) => loopK (exK Try.prog E_impl_atomBy (cl (cl (cr (cl (cr (cr (cr (cr (bodyC Try.f59)))))))))) [.slice list_a list_n list_e, .int .i64 r, .int .i64 count, .int .i64 place, .float .f32 size, undef, undef, undef, undef, undef, .slice none 0 0, .slice (some ⟨b1, 0, none⟩) ((count).toNat) 1, g12, g13, .float .f32 r2, undef, undef, .int .i64 count, .slice (some ⟨b1, 0, none⟩) ((count).toNat) 1, .slice (some ⟨b1, 0, none⟩) ((count).toNat) 1, .int .i64 (((count).toNat : Int)), .int .i64 t21, g22, g23, g24, g25, g26, g27, g28, g29, g30, g31, g32, g33, g34, g35, g36, g37, g38, g39, g40, g41, g42, g43, g44, .slice (some ⟨b1, 0, none⟩) ((count).toNat) 1, .float .f32 r1, .float .f32 r2, .slice (some ⟨b1, 0, none⟩) ((count).toNat) 1, .int .i64 (((count).toNat : Int)), .int .i64 0, undef, undef, undef, undef, undef, undef, undef, undef, undef, undef, undef, undef, undef, undef] H4 (blockQ 2 (seqQ (exK Try.prog E_impl_atomBy (cr (cr (cr (cr (cr (bodyC Try.f59))))))) (retK Try.prog Try.f59 K)))) := by kernel_rfl
abbrev impl_atomBy_P2 (b1 : Nat) (count : Int) (g12 : Value) (g13 : Value) (g22 : Value) (g23 : Value) (g24 : Value) (g25 : Value) (g26 : Value) (g27 : Value) (g28 : Value) (g29 : Value) (g30 : Value) (g31 : Value) (g32 : Value) (g33 : Value) (g34 : Value) (g35 : Value) (g36 : Value) (g37 : Value) (g38 : Value) (g39 : Value) (g40 : Value) (g41 : Value) (g42 : Value) (g43 : Value) (g44 : Value) (list_a : Option Addr) (list_e : Nat) (list_n : Nat) (place : Int) (r : Int) (r1 : Nat) (r2 : Nat) (size : Nat) (t21 : Int) (t50 : Int) (g15 g16 g51 g52 g53 g54 g55 g56 g57 g58 g59 g60 g61 g62 g63 : Value) : List Value := [.slice list_a list_n list_e, .int .i64 r, .int .i64 count, .int .i64 place, .float .f32 size, undef, undef, undef, undef, undef, .slice none 0 0, .slice (some ⟨b1, 0, none⟩) ((count).toNat) 1, g12, g13, .float .f32 r2, g15, g16, .int .i64 count, .slice (some ⟨b1, 0, none⟩) ((count).toNat) 1, .slice (some ⟨b1, 0, none⟩) ((count).toNat) 1, .int .i64 (((count).toNat : Int)), .int .i64 t21, g22, g23, g24, g25, g26, g27, g28, g29, g30, g31, g32, g33, g34, g35, g36, g37, g38, g39, g40, g41, g42, g43, g44, .slice (some ⟨b1, 0, none⟩) ((count).toNat) 1, .float .f32 r1, .float .f32 r2, .slice (some ⟨b1, 0, none⟩) ((count).toNat) 1, .int .i64 (((count).toNat : Int)), .int .i64 t50, g51, g52, g53, g54, g55, g56, g57, g58, g59, g60, g61, g62, g63, undef]
theorem impl_atomBy_r2 (b1 : Nat) (count : Int) (g12 : Value) (g13 : Value) (g22 : Value) (g23 : Value) (g24 : Value) (g25 : Value) (g26 : Value) (g27 : Value) (g28 : Value) (g29 : Value) (g30 : Value) (g31 : Value) (g32 : Value) (g33 : Value) (g34 : Value) (g35 : Value) (g36 : Value) (g37 : Value) (g38 : Value) (g39 : Value) (g40 : Value) (g41 : Value) (g42 : Value) (g43 : Value) (g44 : Value) (list_a : Option Addr) (list_e : Nat) (list_n : Nat) (place : Int) (r : Int) (r1 : Nat) (r2 : Nat) (size : Nat) (t21 : Int) (t50 : Int) (g15 g16 g51 g52 g53 g54 g55 g56 g57 g58 g59 g60 g61 g62 g63 : Value) (H : AHeap) (R : Post) : exK Try.prog E_impl_atomBy (cl (cl (cr (cl (cr (cr (cr (cr (bodyC Try.f59))))))))) (impl_atomBy_P2 b1 count g12 g13 g22 g23 g24 g25 g26 g27 g28 g29 g30 g31 g32 g33 g34 g35 g36 g37 g38 g39 g40 g41 g42 g43 g44 list_a list_e list_n place r r1 r2 size t21 t50 g15 g16 g51 g52 g53 g54 g55 g56 g57 g58 g59 g60 g61 g62 g63) H R =
  (Br (decide ((t50 : Int) < ((count).toNat : Int))) ((0 : Int) ≤ t50 ∧ t50 < ((count).toNat : Int) ∧ ∃ b4 f3, (some ⟨b1, 0, none⟩ : Option Addr) = some ⟨b4, f3, none⟩ ∧ ∃ x2 : Nat,  rdC H b4 (f3 + (t50 : Int).toNat * 1) = some (.float .f32 x2) ∧ (0 : Int) ≤ t50 ∧ t50 < ((count).toNat : Int) ∧ ∃ b5 f4, (some ⟨b1, 0, none⟩ : Option Addr) = some ⟨b5, f4, none⟩ ∧ isOwn H b5 ∧ (∃ l, rdN H b5 (f4 + (t50 : Int).toNat * 1) 1 = some l) ∧ Lt (setC H b5 (f4 + (t50 : Int).toNat * 1) (.float .f32 (fmul .f32 (fdiv .f32 x2 r2) size))) fun H5 => R .normal [.slice list_a list_n list_e, .int .i64 r, .int .i64 count, .int .i64 place, .float .f32 size, undef, undef, undef, undef, undef, .slice none 0 0, .slice (some ⟨b1, 0, none⟩) ((count).toNat) 1, g12, g13, .float .f32 r2, .int .i64 t50, .float .f32 x2, .int .i64 count, .slice (some ⟨b1, 0, none⟩) ((count).toNat) 1, .slice (some ⟨b1, 0, none⟩) ((count).toNat) 1, .int .i64 (((count).toNat : Int)), .int .i64 t21, g22, g23, g24, g25, g26, g27, g28, g29, g30, g31, g32, g33, g34, g35, g36, g37, g38, g39, g40, g41, g42, g43, g44, .slice (some ⟨b1, 0, none⟩) ((count).toNat) 1, .float .f32 r1, .float .f32 r2, .slice (some ⟨b1, 0, none⟩) ((count).toNat) 1, .int .i64 (((count).toNat : Int)), .int .i64 (IntKind.wrap .i64 (t50 + 1)), .bool (decide ((t50 : Int) < ((count).toNat : Int))), .int .i64 t50, .pointer (some ⟨b4, f3 + (t50 : Int).toNat * 1, none⟩), .float .f32 x2, .slice (some ⟨b1, 0, none⟩) ((count).toNat) 1, .int .i64 t50, .float .f32 x2, .float .f32 r2, .float .f32 (fdiv .f32 x2 r2), .float .f32 size, .float .f32 (fmul .f32 (fdiv .f32 x2 r2) size), .pointer (some ⟨b5, f4 + (t50 : Int).toNat * 1, none⟩), .int .i64 (IntKind.wrap .i64 (t50 + 1)), undef] H5) (R (.exit 2) [.slice list_a list_n list_e, .int .i64 r, .int .i64 count, .int .i64 place, .float .f32 size, undef, undef, undef, undef, undef, .slice none 0 0, .slice (some ⟨b1, 0, none⟩) ((count).toNat) 1, g12, g13, .float .f32 r2, g15, g16, .int .i64 count, .slice (some ⟨b1, 0, none⟩) ((count).toNat) 1, .slice (some ⟨b1, 0, none⟩) ((count).toNat) 1, .int .i64 (((count).toNat : Int)), .int .i64 t21, g22, g23, g24, g25, g26, g27, g28, g29, g30, g31, g32, g33, g34, g35, g36, g37, g38, g39, g40, g41, g42, g43, g44, .slice (some ⟨b1, 0, none⟩) ((count).toNat) 1, .float .f32 r1, .float .f32 r2, .slice (some ⟨b1, 0, none⟩) ((count).toNat) 1, .int .i64 (((count).toNat : Int)), .int .i64 t50, .bool (decide ((t50 : Int) < ((count).toNat : Int))), g52, g53, g54, g55, g56, g57, g58, g59, g60, g61, g62, g63, undef] H)) := by kernel_rfl
def impl_atomBy_I2 (b1 : Nat) (count : Int) (g12 : Value) (g13 : Value) (g22 : Value) (g23 : Value) (g24 : Value) (g25 : Value) (g26 : Value) (g27 : Value) (g28 : Value) (g29 : Value) (g30 : Value) (g31 : Value) (g32 : Value) (g33 : Value) (g34 : Value) (g35 : Value) (g36 : Value) (g37 : Value) (g38 : Value) (g39 : Value) (g40 : Value) (g41 : Value) (g42 : Value) (g43 : Value) (g44 : Value) (list_a : Option Addr) (list_e : Nat) (list_n : Nat) (place : Int) (r : Int) (r1 : Nat) (r2 : Nat) (size : Nat) (t21 : Int) (Inv : Nat → Int → AHeap → Prop) : Nat → List Value → AHeap → Prop := fun μ tm H => ∃ (t50 : Int), ∃ g15 g16 g51 g52 g53 g54 g55 g56 g57 g58 g59 g60 g61 g62 g63, tm = (impl_atomBy_P2 b1 count g12 g13 g22 g23 g24 g25 g26 g27 g28 g29 g30 g31 g32 g33 g34 g35 g36 g37 g38 g39 g40 g41 g42 g43 g44 list_a list_e list_n place r r1 r2 size t21 t50 g15 g16 g51 g52 g53 g54 g55 g56 g57 g58 g59 g60 g61 g62 g63) ∧ Inv μ t50 H
theorem impl_atomBy_L2 (b1 : Nat) (count : Int) (g12 : Value) (g13 : Value) (g22 : Value) (g23 : Value) (g24 : Value) (g25 : Value) (g26 : Value) (g27 : Value) (g28 : Value) (g29 : Value) (g30 : Value) (g31 : Value) (g32 : Value) (g33 : Value) (g34 : Value) (g35 : Value) (g36 : Value) (g37 : Value) (g38 : Value) (g39 : Value) (g40 : Value) (g41 : Value) (g42 : Value) (g43 : Value) (g44 : Value) (list_a : Option Addr) (list_e : Nat) (list_n : Nat) (place : Int) (r : Int) (r1 : Nat) (r2 : Nat) (size : Nat) (t21 : Int) {Q : Post} (Inv : Nat → Int → AHeap → Prop) (ν : Nat) (t50 : Int) (g15 g16 g51 g52 g53 g54 g55 g56 g57 g58 g59 g60 g61 g62 g63 : Value) (H : AHeap) (h0 : Inv ν t50 H)
    (hs : ∀ (μ : Nat) (t50 : Int) (g15 g16 g51 g52 g53 g54 g55 g56 g57 g58 g59 g60 g61 g62 g63 : Value) (H : AHeap), Inv μ t50 H → exK Try.prog E_impl_atomBy (cl (cl (cr (cl (cr (cr (cr (cr (bodyC Try.f59))))))))) (impl_atomBy_P2 b1 count g12 g13 g22 g23 g24 g25 g26 g27 g28 g29 g30 g31 g32 g33 g34 g35 g36 g37 g38 g39 g40 g41 g42 g43 g44 list_a list_e list_n place r r1 r2 size t21 t50 g15 g16 g51 g52 g53 g54 g55 g56 g57 g58 g59 g60 g61 g62 g63) H (loopQ (impl_atomBy_I2 b1 count g12 g13 g22 g23 g24 g25 g26 g27 g28 g29 g30 g31 g32 g33 g34 g35 g36 g37 g38 g39 g40 g41 g42 g43 g44 list_a list_e list_n place r r1 r2 size t21 Inv) μ Q)) : loopK (exK Try.prog E_impl_atomBy (cl (cl (cr (cl (cr (cr (cr (cr (bodyC Try.f59)))))))))) (impl_atomBy_P2 b1 count g12 g13 g22 g23 g24 g25 g26 g27 g28 g29 g30 g31 g32 g33 g34 g35 g36 g37 g38 g39 g40 g41 g42 g43 g44 list_a list_e list_n place r r1 r2 size t21 t50 g15 g16 g51 g52 g53 g54 g55 g56 g57 g58 g59 g60 g61 g62 g63) H Q :=
  ⟨impl_atomBy_I2 b1 count g12 g13 g22 g23 g24 g25 g26 g27 g28 g29 g30 g31 g32 g33 g34 g35 g36 g37 g38 g39 g40 g41 g42 g43 g44 list_a list_e list_n place r r1 r2 size t21 Inv, ν, ⟨t50, g15, g16, g51, g52, g53, g54, g55, g56, g57, g58, g59, g60, g61, g62, g63, rfl, h0⟩, fun μ tm H h => by obtain ⟨t50, g15, g16, g51, g52, g53, g54, g55, g56, g57, g58, g59, g60, g61, g62, g63, rfl, hI⟩ := h; exact hs μ t50 g15 g16 g51 g52 g53 g54 g55 g56 g57 g58 g59 g60 g61 g62 g63 H hI⟩
theorem impl_atomBy_n2 {b1 : Nat} {count : Int} {g12 : Value} {g13 : Value} {g22 : Value} {g23 : Value} {g24 : Value} {g25 : Value} {g26 : Value} {g27 : Value} {g28 : Value} {g29 : Value} {g30 : Value} {g31 : Value} {g32 : Value} {g33 : Value} {g34 : Value} {g35 : Value} {g36 : Value} {g37 : Value} {g38 : Value} {g39 : Value} {g40 : Value} {g41 : Value} {g42 : Value} {g43 : Value} {g44 : Value} {list_a : Option Addr} {list_e : Nat} {list_n : Nat} {place : Int} {r : Int} {r1 : Nat} {r2 : Nat} {size : Nat} {t21 : Int} {Q : Post} {Inv : Nat → Int → AHeap → Prop} {μ : Nat} (μ' : Nat) {t50 : Int} {g15 g16 g51 g52 g53 g54 g55 g56 g57 g58 g59 g60 g61 g62 g63 : Value} {H : AHeap} (hm : μ' < μ) (hI : Inv μ' t50 H) : loopQ (impl_atomBy_I2 b1 count g12 g13 g22 g23 g24 g25 g26 g27 g28 g29 g30 g31 g32 g33 g34 g35 g36 g37 g38 g39 g40 g41 g42 g43 g44 list_a list_e list_n place r r1 r2 size t21 Inv) μ Q .normal (impl_atomBy_P2 b1 count g12 g13 g22 g23 g24 g25 g26 g27 g28 g29 g30 g31 g32 g33 g34 g35 g36 g37 g38 g39 g40 g41 g42 g43 g44 list_a list_e list_n place r r1 r2 size t21 t50 g15 g16 g51 g52 g53 g54 g55 g56 g57 g58 g59 g60 g61 g62 g63) H := ⟨μ', hm, t50, g15, g16, g51, g52, g53, g54, g55, g56, g57, g58, g59, g60, g61, g62, g63, rfl, hI⟩
theorem impl_atomBy_x2_2 (b1 : Nat) (count : Int) (g12 : Value) (g13 : Value) (g22 : Value) (g23 : Value) (g24 : Value) (g25 : Value) (g26 : Value) (g27 : Value) (g28 : Value) (g29 : Value) (g30 : Value) (g31 : Value) (g32 : Value) (g33 : Value) (g34 : Value) (g35 : Value) (g36 : Value) (g37 : Value) (g38 : Value) (g39 : Value) (g40 : Value) (g41 : Value) (g42 : Value) (g43 : Value) (g44 : Value) (list_a : Option Addr) (list_e : Nat) (list_n : Nat) (place : Int) (r : Int) (r1 : Nat) (r2 : Nat) (size : Nat) (t21 : Int) (t50 : Int) (g15 g16 g51 g52 g53 g54 g55 g56 g57 g58 g59 g60 g61 g62 g63 : Value) (H : AHeap) (K : Value → AHeap → Prop)  {I : Nat → List Value → AHeap → Prop} {μ : Nat} : loopQ I μ (blockQ 2 (seqQ (exK Try.prog E_impl_atomBy (cr (cr (cr (cr (cr (bodyC Try.f59))))))) (retK Try.prog Try.f59 K))) (.exit 2) (impl_atomBy_P2 b1 count g12 g13 g22 g23 g24 g25 g26 g27 g28 g29 g30 g31 g32 g33 g34 g35 g36 g37 g38 g39 g40 g41 g42 g43 g44 list_a list_e list_n place r r1 r2 size t21 t50 g15 g16 g51 g52 g53 g54 g55 g56 g57 g58 g59 g60 g61 g62 g63) H =
  (K (.slice (some ⟨b1, 0, none⟩) ((count).toNat) 1) H) := by kernel_rfl
theorem E_impl_atomBy_ok : ∀ g, FnOk Try.prog g (E_impl_atomBy g) := FnOk.envOf (by
  intro x hx
  simp only [List.mem_cons, List.not_mem_nil, or_false] at hx
  rcases hx with rfl | rfl
  · exact impl_squares_ok
  · exact impl_RootNumber_ok)
set_option maxHeartbeats 1000000 in
theorem impl_atomBy_main (list_a : Option Addr) (list_n : Nat) (list_e : Nat) (r : Int) (count : Int) (place : Int) (size : Nat) (H : AHeap) (K : Value → AHeap → Prop) (h : T_impl_atomBy list_a list_n list_e r count place size H fun (r1_a : Option Addr) (r1_n : Nat) (r1_e : Nat) (H' : AHeap) => K (.slice r1_a r1_n r1_e) H') : bodyK Try.prog E_impl_atomBy Try.f59 [.slice list_a list_n list_e, .int .i64 r, .int .i64 count, .int .i64 place, .float .f32 size] H K := by
  rw [impl_atomBy_vc]
  obtain ⟨l_list, i_list, bd_46, pr0, pr1, pr2, pr3, pr4, pr5, hk⟩ := h
  obtain rfl := i_list.eqn
  have e : (p_impl_atomBy l_list r count place size) = _ := rfl
  have e := e.trans (p_impl_atomBy_eq l_list r count place size)
  have g0 := Grow.refl H
  refine ⟨by omega, rfl, o29, ?_⟩
  refine Al.intro (fun b_1 H_1 hb_2 hl_3 g_4 o_5 => ?_)
  rw [zeros_map fF 0 _ rfl] at o_5
  have l_7 := g_4.1
  have g_8 := g0.trans g_4
  have l_9 := g_8.1
  have w_45 := o_5.lt
  refine impl_atomBy_L1 _ _ _ _ _ _ _ _ (fun (μ : Nat) (t21 : Int) (H_2 : AHeap) => ∃ (y1_1 : List Nat), Own H_2 b_1 (y1_1.map fF) ∧ y1_1.length = (count).toNat ∧ Grow H H_2 ∧ (0 : Int) ≤ t21 ∧ ((t21 ≤ ((count).toNat : Int) ∨ t21 ≤ (0 : Int))) ∧ ((count).toNat : Int) - t21 ≤ (μ : Int) ∧ p_impl_atomBy l_list r count place size = p_impl_atomBy_l1 l_list r count place size (μ + 1) t21 y1_1) (Int.toNat (((count).toNat : Int) - (0 : Int))) _ _ _ _ _ _ _ _ _ _ _ _ _ _ _ _ _ _ _ _ _ _ _ _ _ _ H_1 ?_ ?_
  · exact ⟨_, o_5, o28, g_8, o6, o6, o3, e⟩
  · intro μ t21 g12 g13 g22 g23 g24 g25 g26 g27 g28 g29 g30 g31 g32 g33 g34 g35 g36 g37 g38 g39 g40 g41 g42 g43 g44 H_2 hI
    obtain ⟨y1_1, o_10, y_11, g_12, v_13, v_14, hμ, e⟩ := hI
    rw [impl_atomBy_r1]
    have e := e.trans (p_impl_atomBy_l1_s l_list r count place size μ t21 y1_1)
    have w_15 := o_10.lt
    have l_16 := g_12.1
    refine Br.intro (fun c_17 => ?_) (fun c_17 => ?_)
    · have e := e.trans (cond_t c_17)
      have c_17' := of_decide_eq_true c_17
      rw [show IntKind.wrap .i64 (t21 - place) = (t21 - place) from wrap64 o3 o3]
      rw [show IntKind.wrap .i64 ((t21 - place) + r) = ((t21 - place) + r) from wrap64 o3 o3]
      refine Br.intro (fun c_18 => ?_) (fun c_18 => ?_)
      · have e := e.trans (cond_t c_18)
        have c_18' := of_decide_eq_true c_18
        refine Br.intro (fun c_19 => ?_) (fun c_19 => ?_)
        · have e := e.trans (cond_t c_19)
          have c_19' := of_decide_eq_true c_19
          obtain ⟨b_20, f_21, q_22⟩ := ((i_list.grow g_12)).pos o0
          refine ⟨by omega, by omega, b_20, f_21, q_22, ?_⟩
          refine ⟨((l_list).getD (((t21 - place) + r) : Int).toNat 0), (i_list).rd g_12 q_22 o3 _, ?_⟩
          refine ⟨by omega, o3, _, _, rfl, ?_⟩
          refine Lt.set o_10 o12 (fun H_3 hl_23 o_25 k_24 => ?_)
          have o_25 := map_set o_25
          have l_26 := k_24.1
          have g_27 := g_12.keep (b := b_1) o3 k_24
          have l_28 := g_27.1
          have w_29 := o_25.lt
          rw [show IntKind.wrap .i64 (t21 + 1) = (t21 + 1) from wrap64 o3 o3]
          refine impl_atomBy_n1 (μ - 1) o11 ⟨_, o_25, o20, g_27, o1, o1, o11, (by rw [show μ - 1 + 1 = μ from by first | omega]; exact e)⟩
        · have e := e.trans (cond_f c_19)
          have c_19' := of_decide_eq_false c_19
          rw [show IntKind.wrap .i64 (t21 + 1) = (t21 + 1) from wrap64 o3 o3]
          refine impl_atomBy_n1 (μ - 1) o11 ⟨_, o_10, o20, g_12, o1, o1, o11, (by rw [show μ - 1 + 1 = μ from by first | omega]; exact e)⟩
      · have e := e.trans (cond_f c_18)
        have c_18' := of_decide_eq_false c_18
        rw [show IntKind.wrap .i64 (t21 + 1) = (t21 + 1) from wrap64 o3 o3]
        refine impl_atomBy_n1 (μ - 1) o11 ⟨_, o_10, o20, g_12, o1, o1, o11, (by rw [show μ - 1 + 1 = μ from by first | omega]; exact e)⟩
    · have e := e.trans (cond_f c_17)
      have c_17' := of_decide_eq_false c_17
      rw [impl_atomBy_x1_0]
      refine T_impl_squares_i ⟨_, (o_10.isL o31), o0, ?_⟩
      refine T_impl_RootNumber_i ?_
      refine impl_atomBy_L2 _ _ _ _ _ _ _ _ _ _ _ _ _ _ _ _ _ _ _ _ _ _ _ _ _ _ _ _ _ _ _ _ _ _ _ _ (fun (μ2 : Nat) (t50 : Int) (H_4 : AHeap) => ∃ (y2_1 : List Nat), Own H_4 b_1 (y2_1.map fF) ∧ y2_1.length = (count).toNat ∧ Grow H H_4 ∧ (0 : Int) ≤ t50 ∧ ((t50 ≤ ((count).toNat : Int) ∨ t50 ≤ (0 : Int))) ∧ ((count).toNat : Int) - t50 ≤ (μ2 : Int) ∧ p_impl_atomBy l_list r count place size = p_impl_atomBy_l2 l_list r count place size t21 y1_1 (fun (t50 : Int) (y2_1 : List Nat) => y2_1) (μ2 + 1) t50 y2_1) (Int.toNat (((count).toNat : Int) - (0 : Int))) _ _ _ _ _ _ _ _ _ _ _ _ _ _ _ _ H_2 ?_ ?_
      · exact ⟨_, o_10, o28, g_12, o6, o6, o3, e⟩
      · intro μ2 t50 g15 g16 g51 g52 g53 g54 g55 g56 g57 g58 g59 g60 g61 g62 g63 H_4 hI
        obtain ⟨y2_1, o_30, y_31, g_32, v_33, v_34, hμ, e⟩ := hI
        rw [impl_atomBy_r2]
        have e := e.trans (p_impl_atomBy_l2_s l_list r count place size t21 y1_1 (fun (t50 : Int) (y2_1 : List Nat) => y2_1) μ2 t50 y2_1)
        have w_35 := o_30.lt
        have l_36 := g_32.1
        refine Br.intro (fun c_37 => ?_) (fun c_37 => ?_)
        · have e := e.trans (cond_t c_37)
          have c_37' := of_decide_eq_true c_37
          refine ⟨by omega, o3, _, _, rfl, ?_⟩
          refine ⟨((y2_1).getD (t50 : Int).toNat 0), o_30.rd o0 _, ?_⟩
          refine ⟨by omega, o3, _, _, rfl, ?_⟩
          refine Lt.set o_30 o12 (fun H_5 hl_38 o_40 k_39 => ?_)
          have o_40 := map_set o_40
          have l_41 := k_39.1
          have g_42 := g_32.keep (b := b_1) o3 k_39
          have l_43 := g_42.1
          have w_44 := o_40.lt
          rw [show IntKind.wrap .i64 (t50 + 1) = (t50 + 1) from wrap64 o3 o3]
          refine impl_atomBy_n2 (μ2 - 1) o11 ⟨_, o_40, o20, g_42, o1, o1, o11, (by rw [show μ2 - 1 + 1 = μ2 from by first | omega]; exact e)⟩
        · have e := e.trans (cond_f c_37)
          have c_37' := of_decide_eq_false c_37
          rw [impl_atomBy_x2_2]
          rw [e] at hk
          exact hk _ _ _ H_4 g_32 (o_30.ownS o31 o3)
theorem impl_atomBy_ok : FnOk Try.prog 59 S_impl_atomBy := by
  refine FnOk.body mix_ok E_impl_atomBy_ok Try.func59 rfl (by kernel_rfl) (by kernel_rfl) ?_ ?_ ?_ ?_ ?_
  · intro args H K K' h hk
    simp only [S_impl_atomBy] at *
    unfold F_impl_atomBy at *
    split at hk
    · obtain ⟨l_list, i_list, bd_46, pr0, pr1, pr2, pr3, pr4, pr5, k⟩ := hk
      exact ⟨l_list, i_list, bd_46, pr0, pr1, pr2, pr3, pr4, pr5, (fun r1_a r1_n r1_e H' gg ow0 => h _ _ (k r1_a r1_n r1_e H' gg ow0))⟩
    · exact hk.elim
  · intro hq; cases hq
  · intro args H K hk
    simp only [S_impl_atomBy] at *
    unfold F_impl_atomBy at *
    split at hk
    · obtain ⟨l_list, i_list, bd_46, pr0, pr1, pr2, pr3, pr4, pr5, k⟩ := hk
      exact liveS fun a n e H1 g o => ⟨_, _, k a n e H1 g o⟩
    · exact hk.elim
  · intro _ args H K hk
    simp only [S_impl_atomBy] at *
    unfold F_impl_atomBy at *
    split at hk
    · obtain ⟨l_list, i_list, bd_46, pr0, pr1, pr2, pr3, pr4, pr5, k⟩ := hk
      exact ⟨l_list, i_list, bd_46, pr0, pr1, pr2, pr3, pr4, pr5, (fun r1_a r1_n r1_e H' gg ow0 => ⟨gg, k r1_a r1_n r1_e H' gg ow0⟩)⟩
    · exact hk.elim
  · have mm := @impl_atomBy_main
    revert mm
    generalize bodyK Try.prog E_impl_atomBy Try.f59 = Q
    intro mm args H K hk
    simp only [S_impl_atomBy] at *
    unfold F_impl_atomBy at *
    split at hk
    · exact mm _ _ _ _ _ _ _ H K hk
    · exact hk.elim
def p_impl_size (x : Nat) : Nat := (bif flt .f32 x 0 then fneg .f32 x else (bif feq .f32 x 0 then 0 else x))
def p_impl_size_eq := @p_impl_size.eq_1
def T_impl_size (x : Nat) (H : AHeap) (K : Nat → AHeap → Prop) : Prop := K (p_impl_size x) H

theorem T_impl_size_i {x : Nat} {H : AHeap} {K : Nat → AHeap → Prop} (h : K (p_impl_size x) H) : T_impl_size x H K := h
/-! impl_size: function 80 -/
def E_impl_size : Env := envOf []
def F_impl_size : List Value → AHeap → (Value → AHeap → Prop) → Prop
  | [.float .f32 x], H, K => T_impl_size x H fun (r1 : Nat) (H' : AHeap) => K (.float .f32 r1) H'
  | _, _, _ => False
def S_impl_size : FSpec := { F := F_impl_size, quiet := true, tame := false }
theorem impl_size_vc (x : Nat) (H : AHeap) (K : Value → AHeap → Prop) : bodyK Try.prog E_impl_size Try.f80 [.float .f32 x] H K =
  (Br (flt .f32 x 0) (K (.float .f32 (fneg .f32 x)) H) (Br (feq .f32 x 0) (K (.float .f32 0) H) (K (.float .f32 x) H))) := by kernel_rfl
theorem E_impl_size_ok : ∀ g, FnOk Try.prog g (E_impl_size g) := FnOk.envOf (by
  intro x hx; cases hx)
set_option maxHeartbeats 1000000 in
theorem impl_size_main (x : Nat) (H : AHeap) (K : Value → AHeap → Prop) (h : T_impl_size x H fun (r1 : Nat) (H' : AHeap) => K (.float .f32 r1) H') : bodyK Try.prog E_impl_size Try.f80 [.float .f32 x] H K := by
  rw [impl_size_vc]
  unfold T_impl_size p_impl_size at h
  repeat' (first | exact h | (exfalso; simp_all; done) | (refine ⟨by decide, ?_⟩) | (refine Br.intro (fun hb => ?_) (fun hb => ?_) <;> (try simp only [hb, cond_true, cond_false, Bool.not_true, Bool.not_false] at h)))
theorem impl_size_ok : FnOk Try.prog 80 S_impl_size := by
  refine FnOk.body mix_ok E_impl_size_ok Try.func80 rfl (by kernel_rfl) (by kernel_rfl) ?_ ?_ ?_ ?_ ?_
  · intro args H K K' h hk
    simp only [S_impl_size] at *
    unfold F_impl_size at *
    split at hk
    · have k := hk
      exact h _ _ k
    · exact hk.elim
  · intro _ args H K hk
    simp only [S_impl_size] at *
    unfold F_impl_size at *
    split at hk
    · have k := hk
      exact ⟨_, k, fun K' k' => k'⟩
    · exact hk.elim
  · intro args H K hk
    simp only [S_impl_size] at *
    unfold F_impl_size at *
    split at hk
    · have k := hk
      exact ⟨_, _, k⟩
    · exact hk.elim
  · intro hq; cases hq
  · have mm := @impl_size_main
    revert mm
    generalize bodyK Try.prog E_impl_size Try.f80 = Q
    intro mm args H K hk
    simp only [S_impl_size] at *
    unfold F_impl_size at *
    split at hk
    · exact mm _ H K hk
    · exact hk.elim

def p_impl_finiteList (l_list : List Nat) : (List Nat) × Bool := (bif !((p_impl_areFinite ([l_list]))) then ([], false) else (l_list, true))
def p_impl_finiteList_eq := @p_impl_finiteList.eq_1
def T_impl_finiteList (list_a : Option Addr) (list_n : Nat) (list_e : Nat) (H : AHeap) (K : (Option Addr) → Nat → Nat → Bool → AHeap → Prop) : Prop := ∃ (l_list : List Nat), IsL fF H list_a list_n l_list ∧ l_list.length < 1073741824 ∧ ((∀ H' : AHeap, Grow H H' → Br ((p_impl_finiteList l_list).2) (K list_a list_n list_e true H') (K none 0 0 false H')))
theorem T_impl_finiteList_i {list_a : Option Addr} {list_n : Nat} {list_e : Nat} {H : AHeap} {K : (Option Addr) → Nat → Nat → Bool → AHeap → Prop} (h : ∃ (l_list : List Nat), IsL fF H list_a list_n l_list ∧ l_list.length < 1073741824 ∧ ((∀ H' : AHeap, Grow H H' → Br ((p_impl_finiteList l_list).2) (K list_a list_n list_e true H') (K none 0 0 false H')))) : T_impl_finiteList list_a list_n list_e H K := h

/-! impl_finiteList: function 58 -/
def E_impl_finiteList : Env := envOf [(81, S_impl_areFinite)]
def F_impl_finiteList : List Value → AHeap → (Value → AHeap → Prop) → Prop
  | [.slice list_a list_n list_e], H, K => T_impl_finiteList list_a list_n list_e H fun (r1_a : Option Addr) (r1_n : Nat) (r1_e : Nat) (r2 : Bool) (H' : AHeap) => K (.tuple #[.slice r1_a r1_n r1_e, .bool r2]) H'
  | _, _, _ => False
def S_impl_finiteList : FSpec := { F := F_impl_finiteList, quiet := false, tame := true }
theorem impl_finiteList_vc (list_a : Option Addr) (list_n : Nat) (list_e : Nat) (H : AHeap) (K : Value → AHeap → Prop) : bodyK Try.prog E_impl_finiteList Try.f58 [.slice list_a list_n list_e] H K =
  (Al [.slice list_a list_n list_e] H fun b1 H1 => T_impl_areFinite (some ⟨b1, 0, none⟩) 1 1 H1 fun (r1 : Bool) (H2 : AHeap) => Br (!r1) (K (.tuple #[.slice none 0 0, .bool false]) H2) (K (.tuple #[.slice list_a list_n list_e, .bool true]) H2)) := by kernel_rfl
theorem E_impl_finiteList_ok : ∀ g, FnOk Try.prog g (E_impl_finiteList g) := FnOk.envOf (by
  intro x hx
  simp only [List.mem_cons, List.not_mem_nil, or_false] at hx
  subst hx; exact impl_areFinite_ok)
set_option maxHeartbeats 1000000 in
theorem impl_finiteList_main (list_a : Option Addr) (list_n : Nat) (list_e : Nat) (H : AHeap) (K : Value → AHeap → Prop) (h : T_impl_finiteList list_a list_n list_e H fun (r1_a : Option Addr) (r1_n : Nat) (r1_e : Nat) (r2 : Bool) (H' : AHeap) => K (.tuple #[.slice r1_a r1_n r1_e, .bool r2]) H') : bodyK Try.prog E_impl_finiteList Try.f58 [.slice list_a list_n list_e] H K := by
  rw [impl_finiteList_vc]
  obtain ⟨l_list, i_list, bd_12, hk⟩ := h
  obtain rfl := i_list.eqn
  have e : (p_impl_finiteList l_list) = _ := rfl
  have e := e.trans (p_impl_finiteList_eq l_list)
  have g0 := Grow.refl H
  refine Al.intro (fun b_1 H_1 hb_2 hl_3 g_4 o_5 => ?_)
  have l_7 := g_4.1
  have g_8 := g0.trans g_4
  have l_9 := g_8.1
  have w_11 := o_5.lt
  refine T_impl_areFinite_i ⟨[l_list], ⟨_, o_5.rdAll rfl, LLc.cons (i_list.grow g_8) (LLc.nil _ _)⟩, o0, (by first | assumption | (intro y hy; simp only [List.mem_cons, List.not_mem_nil, or_false] at hy; first | omega | (subst hy; omega) | (rcases hy with rfl | rfl <;> omega) | (rcases hy with rfl | rfl | rfl <;> omega))), ?_⟩
  refine Br.intro (fun c_10 => ?_) (fun c_10 => ?_)
  · have e := e.trans (cond_t c_10)
    have c_10n := nf_of_t c_10
    have q := hk H_1 g_8
    rw [e] at q
    exact q
  · have e := e.trans (cond_f c_10)
    have c_10n := nt_of_f c_10
    have q := hk H_1 g_8
    rw [e] at q
    exact q
theorem impl_finiteList_ok : FnOk Try.prog 58 S_impl_finiteList := by
  refine FnOk.body mix_ok E_impl_finiteList_ok Try.func58 rfl (by kernel_rfl) (by kernel_rfl) ?_ ?_ ?_ ?_ ?_
  · intro args H K K' h hk
    simp only [S_impl_finiteList] at *
    unfold F_impl_finiteList at *
    split at hk
    · obtain ⟨l_list, i_list, bd_12, k⟩ := hk
      exact ⟨l_list, i_list, bd_12, (fun H' gg => Br_mono (h _ _) (h _ _) (k H' gg))⟩
    · exact hk.elim
  · intro hq; cases hq
  · intro args H K hk
    simp only [S_impl_finiteList] at *
    unfold F_impl_finiteList at *
    split at hk
    · obtain ⟨l_list, i_list, bd_12, k⟩ := hk
      exact Br_live (k H (Grow.refl H))
    · exact hk.elim
  · intro _ args H K hk
    simp only [S_impl_finiteList] at *
    unfold F_impl_finiteList at *
    split at hk
    · obtain ⟨l_list, i_list, bd_12, k⟩ := hk
      exact ⟨l_list, i_list, bd_12, (fun H' gg => Br_mono (fun q => ⟨gg, q⟩) (fun q => ⟨gg, q⟩) (k H' gg))⟩
    · exact hk.elim
  · have mm := @impl_finiteList_main
    revert mm
    generalize bodyK Try.prog E_impl_finiteList Try.f58 = Q
    intro mm args H K hk
    simp only [S_impl_finiteList] at *
    unfold F_impl_finiteList at *
    split at hk
    · exact mm _ _ _ H K hk
    · exact hk.elim

def p_impl_AtomList (count : Int) (a_Place : Int) (a_Scale : Nat) (a_Size : Nat) : (List Nat) × Bool := (bif !((p_impl_within count (1 : Int) (128 : Int))) then ([], false) else (bif !((p_impl_within a_Place (0 : Int) (count - 1))) then ([], false) else (bif !(p_impl_isScale a_Scale) then ([], false) else (bif !(p_impl_IsFinite a_Size) then ([], false) else (bif (p_impl_finiteList ((p_impl_atomBy ((p_impl_realKernel a_Scale).1) ((p_impl_realKernel a_Scale).2) count a_Place a_Size))).2 then ((p_impl_atomBy ((p_impl_realKernel a_Scale).1) ((p_impl_realKernel a_Scale).2) count a_Place a_Size), true) else ([], false))))))
def p_impl_AtomList_eq := @p_impl_AtomList.eq_1
def T_impl_AtomList (count : Int) (a_Place : Int) (a_Scale : Nat) (a_Size : Nat) (H : AHeap) (K : (Option Addr) → Nat → Nat → Bool → AHeap → Prop) : Prop := ((∀ (r1_a : Option Addr) (r1_n r1_e : Nat), ∀ H' : AHeap, Grow H H' → OwnS fF H' H.length r1_a r1_n r1_e ((p_impl_AtomList count a_Place a_Scale a_Size).1) → K r1_a r1_n r1_e ((p_impl_AtomList count a_Place a_Scale a_Size).2) H'))
theorem T_impl_AtomList_i {count : Int} {a_Place : Int} {a_Scale : Nat} {a_Size : Nat} {H : AHeap} {K : (Option Addr) → Nat → Nat → Bool → AHeap → Prop} (h : ((∀ (r1_a : Option Addr) (r1_n r1_e : Nat), ∀ H' : AHeap, Grow H H' → OwnS fF H' H.length r1_a r1_n r1_e ((p_impl_AtomList count a_Place a_Scale a_Size).1) → K r1_a r1_n r1_e ((p_impl_AtomList count a_Place a_Scale a_Size).2) H'))) : T_impl_AtomList count a_Place a_Scale a_Size H K := h
theorem within_t {n a b : Int} (h : p_impl_within n a b = true) : a ≤ n ∧ n ≤ b := by
  unfold p_impl_within at h
  simp at h; omega
theorem impl_AtomList_len (c p : Int) (s z : Nat) : (p_impl_AtomList c p s z).1.length ≤ 1000 := by
  rw [p_impl_AtomList_eq]
  refine cnb (P := fun r : List Nat × Bool => r.1.length ≤ 1000) (fun h => Nat.zero_le _) (fun hc => ?_)
  have hc := within_t (nt_of_f hc)
  refine cnb (P := fun r : List Nat × Bool => r.1.length ≤ 1000) (fun h => Nat.zero_le _) (fun h => ?_)
  refine cnb (P := fun r : List Nat × Bool => r.1.length ≤ 1000) (fun h => Nat.zero_le _) (fun h => ?_)
  refine cnb (P := fun r : List Nat × Bool => r.1.length ≤ 1000) (fun h => Nat.zero_le _) (fun h => ?_)
  refine cnb (P := fun r : List Nat × Bool => r.1.length ≤ 1000) (fun h => ?_) (fun h => Nat.zero_le _)
  exact Nat.le_trans (impl_atomBy_len _ _ _ _ _) o3
theorem impl_AtomList_full {c p : Int} {s z : Nat} (h : (p_impl_AtomList c p s z).2 = true) : (p_impl_AtomList c p s z).1.length = c.toNat := by
  rw [p_impl_AtomList_eq] at h ⊢
  revert h
  refine cnb (P := fun r : List Nat × Bool => r.2 = true → r.1.length = c.toNat) (fun h => fun h => by cases h) (fun hc => ?_)
  refine cnb (P := fun r : List Nat × Bool => r.2 = true → r.1.length = c.toNat) (fun h => fun h => by cases h) (fun hc => ?_)
  refine cnb (P := fun r : List Nat × Bool => r.2 = true → r.1.length = c.toNat) (fun h => fun h => by cases h) (fun hc => ?_)
  refine cnb (P := fun r : List Nat × Bool => r.2 = true → r.1.length = c.toNat) (fun h => fun h => by cases h) (fun hc => ?_)
  refine cnb (P := fun r : List Nat × Bool => r.2 = true → r.1.length = c.toNat) (fun h => fun _ => impl_atomBy_full _ _ _ _ _) (fun h => fun h => by cases h)
/-! impl_AtomList: function 13 -/
def E_impl_AtomList : Env := envOf [(54, S_impl_within), (55, S_impl_isScale), (56, S_impl_IsFinite), (57, S_impl_realKernel), (59, S_impl_atomBy), (58, S_impl_finiteList)]
def F_impl_AtomList : List Value → AHeap → (Value → AHeap → Prop) → Prop
  | [.int .i64 count, .agg ⟨[.int .i64 a_Place, .float .f32 a_Scale, .float .f32 a_Size]⟩], H, K => T_impl_AtomList count a_Place a_Scale a_Size H fun (r1_a : Option Addr) (r1_n : Nat) (r1_e : Nat) (r2 : Bool) (H' : AHeap) => K (.tuple #[.slice r1_a r1_n r1_e, .bool r2]) H'
  | _, _, _ => False
def S_impl_AtomList : FSpec := { F := F_impl_AtomList, quiet := false, tame := true }
theorem impl_AtomList_vc (count : Int) (a_Place : Int) (a_Scale : Nat) (a_Size : Nat) (H : AHeap) (K : Value → AHeap → Prop) : bodyK Try.prog E_impl_AtomList Try.f13 [.int .i64 count, .agg #[.int .i64 a_Place, .float .f32 a_Scale, .float .f32 a_Size]] H K =
  (Al [.int .i64 a_Place, .float .f32 a_Scale, .float .f32 a_Size] H fun b1 H1 => T_impl_within count 1 128 H1 fun (r1 : Bool) (H2 : AHeap) => Br (!r1) (K (.tuple #[.slice none 0 0, .bool false]) H2) (∃ x1 : Int,  rdC H2 b1 0 = some (.int .i64 x1) ∧ T_impl_within x1 0 (IntKind.wrap .i64 (count - 1)) H2 fun (r2 : Bool) (H3 : AHeap) => Br (!r2) (K (.tuple #[.slice none 0 0, .bool false]) H3) (∃ x2 : Nat,  rdC H3 b1 1 = some (.float .f32 x2) ∧ T_impl_isScale x2 H3 fun (r3 : Bool) (H4 : AHeap) => Br (!r3) (K (.tuple #[.slice none 0 0, .bool false]) H4) (∃ x3 : Nat,  rdC H4 b1 2 = some (.float .f32 x3) ∧ T_impl_IsFinite x3 H4 fun (r4 : Bool) (H5 : AHeap) => Br (!r4) (K (.tuple #[.slice none 0 0, .bool false]) H5) (∃ x4 : Nat,  rdC H5 b1 1 = some (.float .f32 x4) ∧ T_impl_realKernel x4 H5 fun (a1 : Option Addr) (r5 : Nat) (r6 : Nat) (r7 : Int) (H6 : AHeap) => ∃ x5 : Int,  rdC H6 b1 0 = some (.int .i64 x5) ∧ ∃ x6 : Nat,  rdC H6 b1 2 = some (.float .f32 x6) ∧ T_impl_atomBy a1 r5 r6 r7 count x5 x6 H6 fun (a2 : Option Addr) (r8 : Nat) (r9 : Nat) (H7 : AHeap) => T_impl_finiteList a2 r8 r9 H7 fun (a3 : Option Addr) (r10 : Nat) (r11 : Nat) (r12 : Bool) (H8 : AHeap) => K (.tuple #[.slice a3 r10 r11, .bool r12]) H8))))) := by kernel_rfl
theorem E_impl_AtomList_ok : ∀ g, FnOk Try.prog g (E_impl_AtomList g) := FnOk.envOf (by
  intro x hx
  simp only [List.mem_cons, List.not_mem_nil, or_false] at hx
  rcases hx with rfl | rfl | rfl | rfl | rfl | rfl
  · exact impl_within_ok
  · exact impl_isScale_ok
  · exact impl_IsFinite_ok
  · exact impl_realKernel_ok
  · exact impl_atomBy_ok
  · exact impl_finiteList_ok)
set_option maxHeartbeats 1000000 in
theorem impl_AtomList_main (count : Int) (a_Place : Int) (a_Scale : Nat) (a_Size : Nat) (H : AHeap) (K : Value → AHeap → Prop) (h : T_impl_AtomList count a_Place a_Scale a_Size H fun (r1_a : Option Addr) (r1_n : Nat) (r1_e : Nat) (r2 : Bool) (H' : AHeap) => K (.tuple #[.slice r1_a r1_n r1_e, .bool r2]) H') : bodyK Try.prog E_impl_AtomList Try.f13 [.int .i64 count, .agg #[.int .i64 a_Place, .float .f32 a_Scale, .float .f32 a_Size]] H K := by
  rw [impl_AtomList_vc]
  have hk := h
  unfold T_impl_AtomList at hk
  have e : (p_impl_AtomList count a_Place a_Scale a_Size) = _ := rfl
  have e := e.trans (p_impl_AtomList_eq count a_Place a_Scale a_Size)
  have g0 := Grow.refl H
  refine Al.intro (fun b_1 H_1 hb_2 hl_3 g_4 o_5 => ?_)
  have l_7 := g_4.1
  have g_8 := g0.trans g_4
  have l_9 := g_8.1
  have w_56 := o_5.lt
  refine T_impl_within_i ?_
  refine Br.intro (fun c_10 => ?_) (fun c_10 => ?_)
  · have e := e.trans (cond_t c_10)
    have c_10n := nf_of_t c_10
    rw [e] at hk
    exact hk _ _ _ H_1 g_8 o15
  · have e := e.trans (cond_f c_10)
    have c_10n := nt_of_f c_10
    have c_10n' := impl_within_t c_10n
    refine ⟨a_Place, (o_5.rdC _).trans rfl, ?_⟩
    rw [show IntKind.wrap .i64 (count - 1) = (count - 1) from wrap64 o3 o3]
    refine T_impl_within_i ?_
    refine Br.intro (fun c_11 => ?_) (fun c_11 => ?_)
    · have e := e.trans (cond_t c_11)
      have c_11n := nf_of_t c_11
      rw [e] at hk
      exact hk _ _ _ H_1 g_8 o15
    · have e := e.trans (cond_f c_11)
      have c_11n := nt_of_f c_11
      have c_11n' := impl_within_t c_11n
      refine ⟨a_Scale, (o_5.rdC _).trans rfl, ?_⟩
      refine T_impl_isScale_i ?_
      refine Br.intro (fun c_12 => ?_) (fun c_12 => ?_)
      · have e := e.trans (cond_t c_12)
        have c_12n := nf_of_t c_12
        rw [e] at hk
        exact hk _ _ _ H_1 g_8 o15
      · have e := e.trans (cond_f c_12)
        have c_12n := nt_of_f c_12
        refine ⟨a_Size, (o_5.rdC _).trans rfl, ?_⟩
        refine T_impl_IsFinite_i ?_
        refine Br.intro (fun c_13 => ?_) (fun c_13 => ?_)
        · have e := e.trans (cond_t c_13)
          have c_13n := nf_of_t c_13
          rw [e] at hk
          exact hk _ _ _ H_1 g_8 o15
        · have e := e.trans (cond_f c_13)
          have c_13n := nt_of_f c_13
          refine ⟨a_Scale, (o_5.rdC _).trans rfl, ?_⟩
          refine T_impl_realKernel_i ⟨o14, fun a_14 n_15 e_16 H_2 g_19 r_17 => ?_⟩
          have z_18 := impl_realKernel_len a_Scale o34
          have l_20 := g_19.1
          have g_21 := g_8.trans g_19
          have l_22 := g_21.1
          have o_23 := o_5.grow g_19
          have w_24 := o_23.lt
          obtain rfl := r_17.isL.eqn
          have u_25 := r_17.up
          have u_26 := r_17.lo
          refine ⟨a_Place, (o_23.rdC _).trans rfl, ?_⟩
          refine ⟨a_Size, (o_23.rdC _).trans rfl, ?_⟩
          refine T_impl_atomBy_i ⟨_, r_17.isL, o0, o14, o14, o14, o14, o14, o14, fun a_28 n_29 e_30 H_3 g_33 r_31 => ?_⟩
          have z_32 := impl_atomBy_full ((p_impl_realKernel a_Scale).1) ((p_impl_realKernel a_Scale).2) count a_Place a_Size
          have l_34 := g_33.1
          have g_35 := g_21.trans g_33
          have l_36 := g_35.1
          have o_37 := o_23.grow g_33
          have w_38 := o_37.lt
          have r_39 := r_17.grow g_33
          obtain rfl := r_31.isL.eqn
          have u_40 := r_31.up
          have u_41 := r_31.lo
          refine T_impl_finiteList_i ⟨_, r_31.isL, o0, (fun H_4 g_47 => ?_)⟩
          have l_49 := g_47.1
          have g_50 := g_35.trans g_47
          have l_51 := g_50.1
          have o_52 := o_37.grow g_47
          have w_53 := o_52.lt
          have r_54 := r_39.grow g_47
          have r_55 := r_31.grow g_47
          refine Br.intro (fun c_48 => ?_) (fun c_48 => ?_)
          · have e := e.trans (cond_t c_48)
            rw [e] at hk
            exact hk _ _ _ H_4 g_50 (r_55.weak o3)
          · have e := e.trans (cond_f c_48)
            rw [e] at hk
            exact hk _ _ _ H_4 g_50 o15
theorem impl_AtomList_ok : FnOk Try.prog 13 S_impl_AtomList := by
  refine FnOk.body mix_ok E_impl_AtomList_ok Try.func13 rfl (by kernel_rfl) (by kernel_rfl) ?_ ?_ ?_ ?_ ?_
  · intro args H K K' h hk
    simp only [S_impl_AtomList] at *
    unfold F_impl_AtomList at *
    split at hk
    · have k := hk
      exact fun r1_a r1_n r1_e H' gg ow0 => h _ _ (k r1_a r1_n r1_e H' gg ow0)
    · exact hk.elim
  · intro hq; cases hq
  · intro args H K hk
    simp only [S_impl_AtomList] at *
    unfold F_impl_AtomList at *
    split at hk
    · have k := hk
      exact liveS fun a n e H1 g o => ⟨_, _, k a n e H1 g o⟩
    · exact hk.elim
  · intro _ args H K hk
    simp only [S_impl_AtomList] at *
    unfold F_impl_AtomList at *
    split at hk
    · have k := hk
      exact fun r1_a r1_n r1_e H' gg ow0 => ⟨gg, k r1_a r1_n r1_e H' gg ow0⟩
    · exact hk.elim
  · have mm := @impl_AtomList_main
    revert mm
    generalize bodyK Try.prog E_impl_AtomList Try.f13 = Q
    intro mm args H K hk
    simp only [S_impl_AtomList] at *
    unfold F_impl_AtomList at *
    split at hk
    · exact mm _ _ _ _ H K hk
    · exact hk.elim
end Go.Proofs.Ytghkkclonabpkab.Ai
