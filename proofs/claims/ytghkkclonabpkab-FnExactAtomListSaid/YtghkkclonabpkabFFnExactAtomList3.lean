/- What functions of the program come to on the abstract machine, and that they do so; printed by a program of mine around proofs of mine. -/
import Derived.Test.YtghkkclonabpkabFFnExactAtomList2
set_option linter.unusedVariables false
set_option linter.unusedSimpArgs false
set_option maxRecDepth 100000
namespace Go.Proofs.Ytghkkclonabpkab.Ai
open Go
attribute [local irreducible] bodyK

def p_laws_FnExactAtomList (aCount : Int) (aA_Place : Int) (aA_Scale : Nat) (aA_Size : Nat) : Bool := ((bif !((p_laws_eqFloat32S ((p_impl_AtomList aCount ((p_laws_toAtom aA_Place aA_Scale aA_Size).1) ((p_laws_toAtom aA_Place aA_Scale aA_Size).2.1) ((p_laws_toAtom aA_Place aA_Scale aA_Size).2.2)).1) ((p_spec_AtomList aCount ((p_laws_toAtom aA_Place aA_Scale aA_Size).1) ((p_laws_toAtom aA_Place aA_Scale aA_Size).2.1) ((p_laws_toAtom aA_Place aA_Scale aA_Size).2.2)).1))) then false else (bif !(((p_impl_AtomList aCount ((p_laws_toAtom aA_Place aA_Scale aA_Size).1) ((p_laws_toAtom aA_Place aA_Scale aA_Size).2.1) ((p_laws_toAtom aA_Place aA_Scale aA_Size).2.2)).2) == ((p_spec_AtomList aCount ((p_laws_toAtom aA_Place aA_Scale aA_Size).1) ((p_laws_toAtom aA_Place aA_Scale aA_Size).2.1) ((p_laws_toAtom aA_Place aA_Scale aA_Size).2.2)).2)) then false else (bif decide (((p_laws_heldFloat32S ((marks (FloatKind.nearest .f32) (1 : Int) ((p_impl_AtomList aCount ((p_laws_toAtom aA_Place aA_Scale aA_Size).1) ((p_laws_toAtom aA_Place aA_Scale aA_Size).2.1) ((p_laws_toAtom aA_Place aA_Scale aA_Size).2.2)).1).length)) (1 : Int)) : Int) < 0) then false else (bif ((p_laws_heldFloat32S ((marks (FloatKind.nearest .f32) (1 : Int) ((p_impl_AtomList aCount ((p_laws_toAtom aA_Place aA_Scale aA_Size).1) ((p_laws_toAtom aA_Place aA_Scale aA_Size).2.1) ((p_laws_toAtom aA_Place aA_Scale aA_Size).2.2)).1).length)) (1 : Int)) : Int) != (wk (1 : Int) ((p_impl_AtomList aCount ((p_laws_toAtom aA_Place aA_Scale aA_Size).1) ((p_laws_toAtom aA_Place aA_Scale aA_Size).2.1) ((p_laws_toAtom aA_Place aA_Scale aA_Size).2.2)).1).length) then false else (bif !((p_laws_eqFloat32S ((p_impl_AtomList aCount ((p_laws_toAtom aA_Place aA_Scale aA_Size).1) ((p_laws_toAtom aA_Place aA_Scale aA_Size).2.1) ((p_laws_toAtom aA_Place aA_Scale aA_Size).2.2)).1) ((p_spec_AtomList aCount ((p_laws_toAtom aA_Place aA_Scale aA_Size).1) ((p_laws_toAtom aA_Place aA_Scale aA_Size).2.1) ((p_laws_toAtom aA_Place aA_Scale aA_Size).2.2)).1))) then false else (bif !(((p_impl_AtomList aCount ((p_laws_toAtom aA_Place aA_Scale aA_Size).1) ((p_laws_toAtom aA_Place aA_Scale aA_Size).2.1) ((p_laws_toAtom aA_Place aA_Scale aA_Size).2.2)).2) == ((p_spec_AtomList aCount ((p_laws_toAtom aA_Place aA_Scale aA_Size).1) ((p_laws_toAtom aA_Place aA_Scale aA_Size).2.1) ((p_laws_toAtom aA_Place aA_Scale aA_Size).2.2)).2)) then false else (bif decide (((p_laws_heldFloat32S ((marks (FloatKind.nearest .f32) (1 : Int) ((p_impl_AtomList aCount ((p_laws_toAtom aA_Place aA_Scale aA_Size).1) ((p_laws_toAtom aA_Place aA_Scale aA_Size).2.1) ((p_laws_toAtom aA_Place aA_Scale aA_Size).2.2)).1).length)) (1 : Int)) : Int) < 0) then false else (bif ((p_laws_heldFloat32S ((marks (FloatKind.nearest .f32) (1 : Int) ((p_impl_AtomList aCount ((p_laws_toAtom aA_Place aA_Scale aA_Size).1) ((p_laws_toAtom aA_Place aA_Scale aA_Size).2.1) ((p_laws_toAtom aA_Place aA_Scale aA_Size).2.2)).1).length)) (1 : Int)) : Int) != (wk (1 : Int) ((p_impl_AtomList aCount ((p_laws_toAtom aA_Place aA_Scale aA_Size).1) ((p_laws_toAtom aA_Place aA_Scale aA_Size).2.1) ((p_laws_toAtom aA_Place aA_Scale aA_Size).2.2)).1).length) then false else true)))))))))
theorem p_laws_FnExactAtomList_eq (aCount : Int) (aA_Place : Int) (aA_Scale : Nat) (aA_Size : Nat) : p_laws_FnExactAtomList aCount aA_Place aA_Scale aA_Size = ((bif !((p_laws_eqFloat32S ((p_impl_AtomList aCount ((p_laws_toAtom aA_Place aA_Scale aA_Size).1) ((p_laws_toAtom aA_Place aA_Scale aA_Size).2.1) ((p_laws_toAtom aA_Place aA_Scale aA_Size).2.2)).1) ((p_spec_AtomList aCount ((p_laws_toAtom aA_Place aA_Scale aA_Size).1) ((p_laws_toAtom aA_Place aA_Scale aA_Size).2.1) ((p_laws_toAtom aA_Place aA_Scale aA_Size).2.2)).1))) then false else (bif !(((p_impl_AtomList aCount ((p_laws_toAtom aA_Place aA_Scale aA_Size).1) ((p_laws_toAtom aA_Place aA_Scale aA_Size).2.1) ((p_laws_toAtom aA_Place aA_Scale aA_Size).2.2)).2) == ((p_spec_AtomList aCount ((p_laws_toAtom aA_Place aA_Scale aA_Size).1) ((p_laws_toAtom aA_Place aA_Scale aA_Size).2.1) ((p_laws_toAtom aA_Place aA_Scale aA_Size).2.2)).2)) then false else (bif decide (((p_laws_heldFloat32S ((marks (FloatKind.nearest .f32) (1 : Int) ((p_impl_AtomList aCount ((p_laws_toAtom aA_Place aA_Scale aA_Size).1) ((p_laws_toAtom aA_Place aA_Scale aA_Size).2.1) ((p_laws_toAtom aA_Place aA_Scale aA_Size).2.2)).1).length)) (1 : Int)) : Int) < 0) then false else (bif ((p_laws_heldFloat32S ((marks (FloatKind.nearest .f32) (1 : Int) ((p_impl_AtomList aCount ((p_laws_toAtom aA_Place aA_Scale aA_Size).1) ((p_laws_toAtom aA_Place aA_Scale aA_Size).2.1) ((p_laws_toAtom aA_Place aA_Scale aA_Size).2.2)).1).length)) (1 : Int)) : Int) != (wk (1 : Int) ((p_impl_AtomList aCount ((p_laws_toAtom aA_Place aA_Scale aA_Size).1) ((p_laws_toAtom aA_Place aA_Scale aA_Size).2.1) ((p_laws_toAtom aA_Place aA_Scale aA_Size).2.2)).1).length) then false else (bif !((p_laws_eqFloat32S ((p_impl_AtomList aCount ((p_laws_toAtom aA_Place aA_Scale aA_Size).1) ((p_laws_toAtom aA_Place aA_Scale aA_Size).2.1) ((p_laws_toAtom aA_Place aA_Scale aA_Size).2.2)).1) ((p_spec_AtomList aCount ((p_laws_toAtom aA_Place aA_Scale aA_Size).1) ((p_laws_toAtom aA_Place aA_Scale aA_Size).2.1) ((p_laws_toAtom aA_Place aA_Scale aA_Size).2.2)).1))) then false else (bif !(((p_impl_AtomList aCount ((p_laws_toAtom aA_Place aA_Scale aA_Size).1) ((p_laws_toAtom aA_Place aA_Scale aA_Size).2.1) ((p_laws_toAtom aA_Place aA_Scale aA_Size).2.2)).2) == ((p_spec_AtomList aCount ((p_laws_toAtom aA_Place aA_Scale aA_Size).1) ((p_laws_toAtom aA_Place aA_Scale aA_Size).2.1) ((p_laws_toAtom aA_Place aA_Scale aA_Size).2.2)).2)) then false else (bif decide (((p_laws_heldFloat32S ((marks (FloatKind.nearest .f32) (1 : Int) ((p_impl_AtomList aCount ((p_laws_toAtom aA_Place aA_Scale aA_Size).1) ((p_laws_toAtom aA_Place aA_Scale aA_Size).2.1) ((p_laws_toAtom aA_Place aA_Scale aA_Size).2.2)).1).length)) (1 : Int)) : Int) < 0) then false else (bif ((p_laws_heldFloat32S ((marks (FloatKind.nearest .f32) (1 : Int) ((p_impl_AtomList aCount ((p_laws_toAtom aA_Place aA_Scale aA_Size).1) ((p_laws_toAtom aA_Place aA_Scale aA_Size).2.1) ((p_laws_toAtom aA_Place aA_Scale aA_Size).2.2)).1).length)) (1 : Int)) : Int) != (wk (1 : Int) ((p_impl_AtomList aCount ((p_laws_toAtom aA_Place aA_Scale aA_Size).1) ((p_laws_toAtom aA_Place aA_Scale aA_Size).2.1) ((p_laws_toAtom aA_Place aA_Scale aA_Size).2.2)).1).length) then false else true))))))))) := rfl
def T_laws_FnExactAtomList (aCount : Int) (aA_Place : Int) (aA_Scale : Nat) (aA_Size : Nat) (H : AHeap) (K : Bool → AHeap → Prop) : Prop := I64 aCount ∧ I64 aA_Place ∧ W32 aA_Scale ∧ W32 aA_Size ∧ ∀ H' : AHeap, K true H'
theorem exp_sq (y y' P P' K : Nat) (k : Int) : ∀ (μ p : Nat) (i : Int), p_impl_expWide_l2 y P K (fun (p : Nat) (t : Int) => p) μ p i = p_spec_l01ExpWide_l2 y' P' k (fun (p : Nat) (t : Int) => p) μ p i := by
  intro μ
  induction μ with
  | zero => intro p i; rfl
  | succ μ ih => intro p i; rw [p_impl_expWide_l2_s, p_spec_l01ExpWide_l2_s, ih]
theorem exp_ser (y : Nat) : ∀ (μ p : Nat) (n : Int), n ≤ 12 → -1 ≤ n → p_impl_expWide_l1 y μ p (FloatKind.nearest .f64 n) = p_spec_l01ExpWide_l1 y μ p n := by
  intro μ
  induction μ with
  | zero => intro p n _ _; rfl
  | succ μ ih =>
    intro p n h1 h0
    have c := cnt_at (n := n) (by omega) (by omega)
    rw [p_impl_expWide_l1_s, p_spec_l01ExpWide_l1_s, c.2.1]
    by_cases hc : (1 : Int) ≤ n
    · rw [decide_eq_true hc, cond_true, cond_true, c.2.2.1, ih _ (n - 1) (by omega) (by omega)]
    · rw [decide_eq_false hc, cond_false, cond_false, exp_sq y y p p _ n]
theorem expWide_same {y : Nat} (hy : Wd .f64 y) : p_impl_expWide y = p_spec_l01ExpWide y := by
  by_cases hn : (FloatKind.f64.format.read y).isNaN = true
  · have e : y = qnan .f64 := by rw [← hy.2]; exact cn_of_nan hn
    rw [e]; decide +kernel
  · have hn : (FloatKind.f64.format.read y).isNaN = false := by simpa using hn
    rw [p_impl_expWide_eq, p_spec_l01ExpWide_eq, feq_self hn, Bool.not_true, cond_false]
    have e1 : Int.toNat (cnt 4622945017495814144) + 1 = Int.toNat ((12 : Int) - 1 + 1) + 1 := by decide +kernel
    have e5 : (4622945017495814144 : Nat) = FloatKind.nearest .f64 12 := by decide +kernel
    have := exp_ser y (Int.toNat ((12 : Int) - 1 + 1) + 1) 4607182418800017408 12 (by decide) (by decide)
    rw [← e5] at this
    rw [e1, this]
theorem exp_same (x : Nat) : p_impl_ExpNumber x = p_spec_l01Exp x := by
  rw [p_impl_ExpNumber_eq, p_spec_l01Exp_eq, p_spec_l01Narrow_eq, p_impl_expOf_eq, expWide_same (wide_wd x)]
theorem abs_sv {x : Nat} (h : fin .f64 x = true) : fin .f64 (p_math_Abs x) = true ∧ sv .f64 (p_math_Abs x) = ((sv .f64 x).natAbs : Int) := by
  obtain ⟨s, m, e, hr⟩ := fin_num h
  have hm := read_mod hr
  rw [show FloatKind.f64.format.signWeight = 9223372036854775808 by decide] at hm
  have ea : p_math_Abs x = x % 9223372036854775808 := by
    unfold p_math_Abs
    rw [cn_of_not_nan (fin_nn h), cn_of_not_nan (show (FloatKind.f64.decode _).isNaN = false from by show (FloatKind.f64.format.read _).isNaN = false; rw [hm]; rfl)]
  rw [ea]
  unfold fin sv
  rw [hm, hr]
  refine ⟨rfl, ?_⟩
  simp only []
  rw [signed_natAbs, signed_eq, if_neg (by decide), Nat.shiftLeft_eq]
theorem abs_cond {x : Nat} (h : fin .f64 x = true) : fle .f64 4841369599423283200 (p_math_Abs x) = (fle .f64 4841369599423283200 x || fle .f64 x 14064741636278059008) := by
  obtain ⟨A, -, hs⟩ := two52_sv
  obtain ⟨h1, h2⟩ := abs_sv h
  rw [fle_fin two52_fin h1, fle_fin two52_fin h, mtwo52_eq, fle_fin h (fin_neg two52_fin), sv_neg two52_fin, h2, hs]
  have hp := Nat.two_pow_pos A
  generalize 2 ^ A = a at *
  generalize sv .f64 x = v at *
  by_cases c1 : (a : Int) ≤ v
  · rw [decide_eq_true c1, decide_eq_true (by omega)]; rfl
  · by_cases c2 : v ≤ -(a : Int)
    · rw [decide_eq_true c2, decide_eq_true (by omega), Bool.or_true]
    · rw [decide_eq_false c1, decide_eq_false c2, decide_eq_false (by omega)]; rfl
theorem sine_same {f : Nat} (h : Bd .f64 (1 + lp .f64) f) : p_spec_l01SineWide f = p_impl_sine f := by
  rw [spec_sine_val f (h.mono (by omega)) (in52 h), impl_sine_val]; rfl
theorem phasor_go (t : Nat) : ∀ (μ f : Nat) (q : Int), Bd .f64 (lp .f64) f → p_impl_PhasorOf_l1 t μ f q = p_spec_l01Phasor_l1 t μ f q := by
  intro μ
  induction μ with
  | zero => intro f q _; rfl
  | succ μ ih =>
    intro f q hb
    rw [p_impl_PhasorOf_l1_s, p_spec_l01Phasor_l1_s, sine_same (lp_up1 hb), sine_same (rest_bd1 hb)]
    simp only [p_spec_l01Narrow_eq]
    cases hc : fle .f64 4598175219545276416 f
    · rfl
    · simp only [cond_true]; exact ih _ _ (qm_step hb hc).1
theorem nan_same : (((fnarrow p_math_NaN).getD 0), ((fnarrow p_math_NaN).getD 0)) = ((p_spec_l01From (2143289344 : Int)), (p_spec_l01From (2143289344 : Int))) := by decide +kernel
theorem phasor_bad {t : Nat} (hf : fin .f64 t = false) : p_impl_PhasorOf t = p_spec_l01Phasor t := by
  rw [p_impl_PhasorOf_eq, p_spec_l01Phasor_eq, fin_asked, show p_impl_isFinite64 t = fin .f64 t from fin_asked t, hf, Bool.not_false]
  exact (cond_t rfl).trans (nan_same.trans (cond_t rfl).symm)
theorem phasor_mix {α : Type} (a b : Bool) (one X Y : α) (h : a = false → b = false → X = Y) : (bif (a || b) then one else X) = (bif a then one else (bif b then one else Y)) := by
  cases a
  · cases b
    · exact h rfl rfl
    · rfl
  · rfl
theorem phasor_mix2 (L : Nat → Nat → Int → Nat × Nat) (Q : Nat → Nat) (c : Bool) (x y : Nat) : L (Q (bif c then x else y)) (bif c then x else y) 0 = (bif c then L (Q x) x 0 else L (Q y) y 0) := by
  cases c <;> rfl
theorem phasor_fin {t : Nat} (hf : fin .f64 t = true) : p_impl_PhasorOf t = p_spec_l01Phasor t := by
  rw [p_impl_PhasorOf_eq, p_spec_l01Phasor_eq, fin_asked, show p_impl_isFinite64 t = fin .f64 t from fin_asked t, hf, Bool.not_true, abs_cond hf]
  refine (cond_f rfl).trans (Eq.trans ?_ (cond_f rfl).symm)
  refine phasor_mix _ _ _ _ _ (fun h1 h2 => ?_)
  have hb := wide_in (by rw [fin_asked]; exact hf) h1 h2
  rw [phasor_go t _ _ _ (impl_fraction_bd t hb), p_impl_fraction_eq]
  exact phasor_mix2 (p_spec_l01Phasor_l1 t) (fun g => Int.toNat (qm g) + 1) _ _ _
theorem phasor_same (t : Nat) : p_impl_PhasorOf t = p_spec_l01Phasor t := by
  cases hf : fin .f64 t
  · exact phasor_bad hf
  · exact phasor_fin hf
/-- How far, as the program says it. -/
def kR (x : Nat) : Int := (ftoi .f64 (p_math_Ceil (fwide (fmul .f32 1077936128 x))) .i64).getD 0
theorem kernel_go (x : Nat) : ∀ (μ ν : Nat) (o : List (Nat × Nat)) (k : Int), (2 * kR x + 1 - k).toNat < μ → (2 * kR x + 1 - k).toNat < ν →
    p_impl_kernel_l1 x μ o k = (p_spec_l03Kernel_l1 x ν o k, kR x) ∧ (p_spec_l03Kernel_l1 x ν o k).length = o.length + (2 * kR x + 1 - k).toNat := by
  intro μ
  induction μ with
  | zero => intro ν o k h; omega
  | succ μ ih =>
    intro ν o k h1 h2
    obtain _ | ν := ν
    · omega
    rw [p_impl_kernel_l1_s, p_spec_l03Kernel_l1_s]
    simp only [phasor_same, exp_same]
    rw [show (ftoi .f64 (p_math_Ceil (fwide (fmul .f32 1077936128 x))) .i64).getD 0 = kR x from rfl]
    by_cases hk : k < 2 * kR x + 1
    · rw [decide_eq_true hk, decide_eq_true (show k ≤ 2 * kR x by omega), cond_true, cond_true]
      obtain ⟨a, b⟩ := ih ν (o ++ [((p_spec_l01Scale ((p_spec_l01Phasor (fwide (fdiv .f32 (FloatKind.nearest .f32 ((k - kR x))) x))).1) ((p_spec_l01Phasor (fwide (fdiv .f32 (FloatKind.nearest .f32 ((k - kR x))) x))).2) (fdiv .f32 ((p_spec_l01Exp (fmul .f32 (fmul .f32 3204448256 (fdiv .f32 (FloatKind.nearest .f32 ((k - kR x))) x)) (fdiv .f32 (FloatKind.nearest .f32 ((k - kR x))) x)))) x)).1, (p_spec_l01Scale ((p_spec_l01Phasor (fwide (fdiv .f32 (FloatKind.nearest .f32 ((k - kR x))) x))).1) ((p_spec_l01Phasor (fwide (fdiv .f32 (FloatKind.nearest .f32 ((k - kR x))) x))).2) (fdiv .f32 ((p_spec_l01Exp (fmul .f32 (fmul .f32 3204448256 (fdiv .f32 (FloatKind.nearest .f32 ((k - kR x))) x)) (fdiv .f32 (FloatKind.nearest .f32 ((k - kR x))) x)))) x)).2)]) (k + 1) (by omega) (by omega)
      exact ⟨a, b.trans (by rw [List.length_append, List.length_singleton]; omega)⟩
    · rw [decide_eq_false hk, decide_eq_false (show ¬ k ≤ 2 * kR x by omega), cond_false, cond_false]
      exact ⟨rfl, by omega⟩
theorem kernel_same (x : Nat) : p_impl_kernel x = (p_spec_l03Kernel x, kR x) ∧ (p_spec_l03Kernel x).length = (2 * kR x + 1).toNat := by
  rw [p_impl_kernel_eq, p_spec_l03Kernel_eq]
  rw [show (ftoi .f64 (p_math_Ceil (fwide (fmul .f32 1077936128 x))) .i64).getD 0 = kR x from rfl]
  obtain ⟨a, b⟩ := kernel_go x (Int.toNat (2 * kR x + 1 - 0) + 1) (Int.toNat (2 * kR x - 0 + 1) + 1) [] 0 (by omega) (by omega)
  exact ⟨a, b.trans (by simp)⟩
theorem sqrt_eq (x : Nat) : p_impl_RootNumber x = p_spec_l01Sqrt x := rfl
theorem spec_fin (x : Nat) : p_spec_l01Finite x = fin .f32 x := fin_asked x
theorem impl_fin (x : Nat) : p_impl_IsFinite x = fin .f32 x := fin_asked x
theorem w32_wd {x : Nat} (h : W32 x) : Wd .f32 x := ⟨h.1, h.2⟩
theorem wd_w32 {x : Nat} (h : Wd .f32 x) : W32 x := ⟨h.1, h.2⟩
theorem l02Finite_go (l : List Nat) : ∀ (μ : Nat) (t : Bool) (i : Nat), l.length - i < μ → p_spec_l02Finite_l1 l μ t (i : Int) = (l.drop i).all (fin .f32) := by
  intro μ
  induction μ with
  | zero => intro t i h; omega
  | succ μ ih =>
    intro t i hm
    rw [p_spec_l02Finite_l1_s]
    by_cases h : i < l.length
    · rw [decide_eq_true (show (i : Int) < (l.length : Int) by omega), cond_true, Int.toNat_natCast, spec_fin]
      rw [List.drop_eq_getElem_cons h, List.all_cons, List.getD_eq_getElem?_getD, List.getElem?_eq_getElem h, Option.getD_some]
      have := ih t (i + 1) (by omega)
      cases fin .f32 l[i]
      · rfl
      · simp only [Bool.not_true, cond_false, Bool.true_and]; exact this
    · rw [decide_eq_false (show ¬ (i : Int) < (l.length : Int) by omega), cond_false, List.drop_eq_nil_of_le (by omega)]; rfl
theorem l02Finite_all (l : List Nat) : p_spec_l02Finite l = l.all (fin .f32) := by
  rw [p_spec_l02Finite_eq]
  have := l02Finite_go l (Int.toNat ((l.length : Int) - (0 : Int)) + 1) false 0 (by omega)
  simpa using this
theorem areFinite_in (ls : List (List Nat)) (t2 : Bool) (t9 : Int) (k : Bool → Int → Bool) : ∀ (μ : Nat) (t : Bool) (i : Nat), i ≤ (ls.getD t9.toNat []).length → (ls.getD t9.toNat []).length - i < μ →
    p_impl_areFinite_l2 ls t2 t9 k μ t (i : Int) = bif ((ls.getD t9.toNat []).drop i).all (fin .f32) then k t ((ls.getD t9.toNat []).length : Int) else false := by
  intro μ
  generalize hl : ls.getD t9.toNat [] = l
  induction μ with
  | zero => intro t i _ h; omega
  | succ μ ih =>
    intro t i hi hm
    rw [p_impl_areFinite_l2_s, hl]
    by_cases h : i < l.length
    · rw [decide_eq_true (show (i : Int) < (l.length : Int) by omega), cond_true, Int.toNat_natCast, impl_fin]
      rw [List.drop_eq_getElem_cons h, List.all_cons, List.getD_eq_getElem?_getD, List.getElem?_eq_getElem h, Option.getD_some]
      have := ih t (i + 1) (by omega) (by omega)
      cases fin .f32 l[i]
      · rfl
      · simp only [Bool.not_true, cond_false, Bool.true_and]; exact this
    · rw [decide_eq_false (show ¬ (i : Int) < (l.length : Int) by omega), cond_false, List.drop_eq_nil_of_le (by omega), show i = l.length by omega]; rfl
theorem areFinite_go (ls : List (List Nat)) : ∀ (μ : Nat) (t : Bool) (i : Nat), ls.length - i < μ → p_impl_areFinite_l1 ls μ t (i : Int) = (ls.drop i).all (fun l => l.all (fin .f32)) := by
  intro μ
  induction μ with
  | zero => intro t i h; omega
  | succ μ ih =>
    intro t i hm
    rw [p_impl_areFinite_l1_s]
    by_cases h : i < ls.length
    · rw [decide_eq_true (show (i : Int) < (ls.length : Int) by omega), cond_true]
      have := areFinite_in ls t (i : Int) (fun t2 t15 => p_impl_areFinite_l1 ls μ t2 ((i : Int) + 1)) (Int.toNat ((((ls).getD ((i : Int) : Int).toNat []).length : Int) - (0 : Int)) + 1) t 0 (Nat.zero_le _) (by omega)
      refine Eq.trans this ?_
      rw [Int.toNat_natCast, List.drop_zero, List.drop_eq_getElem_cons h, List.all_cons, List.getD_eq_getElem?_getD, List.getElem?_eq_getElem h, Option.getD_some]
      have := ih t (i + 1) (by omega)
      cases ls[i].all (fin .f32)
      · rfl
      · simp only [cond_true, Bool.true_and]; exact this
    · rw [decide_eq_false (show ¬ (i : Int) < (ls.length : Int) by omega), cond_false, List.drop_eq_nil_of_le (by omega)]; rfl
theorem areFinite_all (ls : List (List Nat)) : p_impl_areFinite ls = ls.all (fun l => l.all (fin .f32)) := by
  rw [p_impl_areFinite_eq]
  have := areFinite_go ls (Int.toNat ((ls.length : Int) - (0 : Int)) + 1) false 0 (by omega)
  simpa using this
theorem finite_same (l : List Nat) : p_impl_areFinite [l] = p_spec_l02Finite l := by rw [areFinite_all, l02Finite_all]; simp
theorem energy_go (a : List Nat) : ∀ (μ : Nat) (s : Nat) (t : Int), p_impl_squares_l1 a μ s t = p_spec_l03Energy_l1 a μ s t := by
  intro μ
  induction μ with
  | zero => intro s t; unfold p_impl_squares_l1 p_spec_l03Energy_l1; rfl
  | succ μ ih =>
    intro s t
    rw [p_impl_squares_l1_s, p_spec_l03Energy_l1_s, ih]
theorem energy_same (a : List Nat) : p_impl_squares a = p_spec_l03Energy a := by
  rw [p_impl_squares_eq, p_spec_l03Energy_eq, energy_go]
theorem atom_l2 (l : List Nat) (r c p : Int) (s z : Nat) (t i0 : Int) (A : List Nat) (hA : (c).toNat = A.length) : ∀ (μ : Nat) (i : Int) (y : List Nat),
    p_impl_atomBy_l2 l r c p z t A (fun (t50 : Int) (y2_1 : List Nat) => y2_1) μ i y = p_spec_l05Of_l2 c p s z A i0 (fun (t54 : Int) (y2_1 : List Nat) => y2_1) μ i y := by
  intro μ
  induction μ with
  | zero => intro i y; rfl
  | succ μ ih =>
    intro i y
    rw [p_impl_atomBy_l2_s, p_spec_l05Of_l2_s, hA, energy_same, sqrt_eq, ih]
theorem set_app (A : List Nat) (m v : Nat) : (A ++ List.replicate (m + 1) 0).set A.length v = (A ++ [v]) ++ List.replicate m 0 := by
  rw [List.set_append_right _ _ (Nat.le_refl _), Nat.sub_self, List.replicate_succ, List.set_cons_zero, List.append_assoc]; rfl
theorem keep_app (A : List Nat) (m : Nat) : (A ++ List.replicate (m + 1) 0) = (A ++ [0]) ++ List.replicate m 0 := by
  rw [List.replicate_succ, List.append_assoc]; rfl
theorem atom_l1 (c p : Int) (s z : Nat) : ∀ (μ ν : Nat) (A : List Nat), A.length ≤ c.toNat → c.toNat - A.length < μ → c.toNat - A.length < ν → 0 ≤ c →
    p_impl_atomBy_l1 ((p_spec_l03Kernel s).map Prod.fst) (kR s) c p z μ (A.length : Int) (A ++ List.replicate (c.toNat - A.length) 0) = p_spec_l05Of_l1 c p s z ν A (A.length : Int) := by
  intro μ
  induction μ with
  | zero => intro ν A h1 h2; omega
  | succ μ ih =>
    intro ν A h1 h2 h3 h0
    obtain _ | ν := ν
    · omega
    rw [p_impl_atomBy_l1_s, p_spec_l05Of_l1_s]
    obtain ⟨-, hlen⟩ := kernel_same s
    by_cases hc : (A.length : Int) < c
    · rw [decide_eq_true (show (A.length : Int) < ((c).toNat : Int) by omega), decide_eq_true hc, cond_true, cond_true]
      obtain ⟨m, hm⟩ : ∃ m, c.toNat - A.length = m + 1 := ⟨c.toNat - A.length - 1, by omega⟩
      have step : ∀ v : Nat, p_impl_atomBy_l1 ((p_spec_l03Kernel s).map Prod.fst) (kR s) c p z μ ((A.length : Int) + 1) ((A ++ [v]) ++ List.replicate m 0) = p_spec_l05Of_l1 c p s z ν (A ++ [v]) ((A.length : Int) + 1) := by
        intro v
        have := ih ν (A ++ [v]) (by rw [List.length_append, List.length_singleton]; omega) (by rw [List.length_append, List.length_singleton]; omega) (by rw [List.length_append, List.length_singleton]; omega) h0
        rw [List.length_append, List.length_singleton, show c.toNat - (A.length + 1) = m by omega] at this
        exact this
      rw [List.length_map, Int.toNat_natCast, hm, set_app]
      by_cases hR : 0 ≤ kR s
      · have ht : Int.tdiv (((p_spec_l03Kernel s).length : Int)) 2 = kR s := by
          rw [hlen, Int.tdiv_eq_ediv_of_nonneg (by omega)]; omega
        rw [ht]
        generalize hk : ((A.length : Int) - p) + kR s = k at *
        by_cases k0 : 0 ≤ k
        · by_cases k1 : k < ((p_spec_l03Kernel s).length : Int)
          · have hin : p_spec_l00In k 0 ((((p_spec_l03Kernel s).length : Int)) - 1) = true := by
              rw [p_spec_l00In_eq, decide_eq_true k0, cond_true]; exact decide_eq_true (by omega)
            rw [decide_eq_true k0, decide_eq_true k1, cond_true, cond_true, hin, cond_true]
            have hg : ((p_spec_l03Kernel s).map Prod.fst).getD k.toNat 0 = ((p_spec_l03Kernel s).getD k.toNat (0, 0)).1 := by
              have hk' : k.toNat < (p_spec_l03Kernel s).length := by omega
              rw [List.getD_eq_getElem?_getD, List.getD_eq_getElem?_getD, List.getElem?_map, List.getElem?_eq_getElem hk']; rfl
            rw [hg]
            exact step _
          · have hin : p_spec_l00In k 0 ((((p_spec_l03Kernel s).length : Int)) - 1) = false := by
              rw [p_spec_l00In_eq, decide_eq_true k0, cond_true]; exact decide_eq_false (by omega)
            rw [decide_eq_true k0, decide_eq_false k1, cond_true, cond_false, hin, cond_false, keep_app]
            exact step _
        · have hin : p_spec_l00In k 0 ((((p_spec_l03Kernel s).length : Int)) - 1) = false := by
            rw [p_spec_l00In_eq, decide_eq_false k0, cond_false]
          rw [decide_eq_false k0, cond_false, hin, cond_false, keep_app]
          exact step _
      · have hz : (p_spec_l03Kernel s).length = 0 := by rw [hlen]; omega
        have hin : ∀ k : Int, p_spec_l00In k 0 ((((p_spec_l03Kernel s).length : Int)) - 1) = false := by
          intro k
          rw [p_spec_l00In_eq, hz]
          by_cases k0 : 0 ≤ k
          · rw [decide_eq_true k0, cond_true]; exact decide_eq_false (by omega)
          · rw [decide_eq_false k0, cond_false]
        have hno : ∀ k : Int, ∀ (X Y : List Nat), (bif decide ((0 : Int) ≤ k) then (bif decide (k < ((p_spec_l03Kernel s).length : Int)) then X else Y) else Y) = Y := by
          intro k X Y
          rw [hz]
          by_cases k0 : 0 ≤ k
          · rw [decide_eq_true k0, decide_eq_false (by omega)]; rfl
          · rw [decide_eq_false k0]; rfl
        rw [hin, cond_false, hno, keep_app]
        exact step _
    · rw [decide_eq_false (show ¬ (A.length : Int) < ((c).toNat : Int) by omega), decide_eq_false hc, cond_false, cond_false]
      have e : c.toNat = A.length := by omega
      rw [show c.toNat - A.length = 0 by omega, List.replicate_zero, List.append_nil, atom_l2 _ _ c p s z _ (A.length : Int) A e, e]
theorem atomBy_same (c p : Int) (s z : Nat) (h0 : 0 ≤ c) : p_impl_atomBy (p_impl_realKernel s).1 (p_impl_realKernel s).2 c p z = p_spec_l05Of c p s z := by
  obtain ⟨hk, -⟩ := kernel_same s
  rw [impl_realKernel_val, hk, p_impl_atomBy_eq, p_spec_l05Of_eq]
  have := atom_l1 c p s z (Int.toNat (((c).toNat : Int) - (0 : Int)) + 1) (Int.toNat (c - (0 : Int)) + 1) [] (Nat.zero_le _) (by simp only [List.length_nil]; omega) (by simp only [List.length_nil]; omega) h0
  rw [List.length_nil, Nat.sub_zero, List.nil_append] at this
  exact this
theorem wk_one {n : Nat} (h : n < 1073741824) : decide (wk 1 n < (0 : Int)) = false := by
  rw [wk_eq n 1 (by omega) (by omega)]; exact decide_eq_false (by omega)
theorem atomList_same (c p : Int) (s z : Nat) : p_impl_AtomList c p s z = p_spec_AtomList c p s z := by
  rw [p_impl_AtomList_eq, p_spec_AtomList_eq, p_spec_l05Atom_eq]
  rw [show p_impl_within c 1 128 = p_spec_l00In c 1 128 from rfl, show p_impl_within p 0 (c - 1) = p_spec_l00In p 0 (c - 1) from rfl, show p_impl_isScale s = p_spec_l03Scale s from rfl, show p_impl_IsFinite z = p_spec_l01Finite z from rfl]
  cases hc : p_spec_l00In c 1 128
  · rfl
  · have h0 := l00In_t hc
    rw [atomBy_same c p s z (by omega), p_impl_finiteList_eq, finite_same]
    cases p_spec_l00In p 0 (c - 1)
    · rfl
    · cases p_spec_l03Scale s
      · rfl
      · cases p_spec_l01Finite z
        · rfl
        · cases p_spec_l02Finite (p_spec_l05Of c p s z) <;> rfl
theorem laws_FnExactAtomList_true (aCount : Int) (aA_Place : Int) (aA_Scale : Nat) (aA_Size : Nat) (q0 : I64 aCount) (q1 : I64 aA_Place) (q2 : W32 aA_Scale) (q3 : W32 aA_Size) : p_laws_FnExactAtomList aCount aA_Place aA_Scale aA_Size = true := by
  rw [p_laws_FnExactAtomList_eq, atomList_same]
  have hr := spec_AtomList_len aCount (p_laws_toAtom aA_Place aA_Scale aA_Size).1 (p_laws_toAtom aA_Place aA_Scale aA_Size).2.1 (p_laws_toAtom aA_Place aA_Scale aA_Size).2.2
  simp only [laws_eqFloat32S_self, laws_heldFloat32S_marks, Bool.not_true, cond_false, beq_self_eq_true, bne_self_eq_false, wk_one (show (p_spec_AtomList aCount (p_laws_toAtom aA_Place aA_Scale aA_Size).1 (p_laws_toAtom aA_Place aA_Scale aA_Size).2.1 (p_laws_toAtom aA_Place aA_Scale aA_Size).2.2).1.length < 1073741824 by omega)]
/-! laws_FnExactAtomList: function 3 -/
def E_laws_FnExactAtomList : Env := envOf [(12, S_laws_toAtom), (11, S_spec_AtomList), (13, S_impl_AtomList), (14, S_laws_eqFloat32S), (15, S_laws_markFloat32S), (16, S_laws_heldFloat32S)]
def F_laws_FnExactAtomList : List Value → AHeap → (Value → AHeap → Prop) → Prop
  | [.int .i64 aCount, .agg ⟨[.int .i64 aA_Place, .float .f32 aA_Scale, .float .f32 aA_Size]⟩], H, K => T_laws_FnExactAtomList aCount aA_Place aA_Scale aA_Size H fun (r1 : Bool) (H' : AHeap) => K (.bool r1) H'
  | _, _, _ => False
def S_laws_FnExactAtomList : FSpec := { F := F_laws_FnExactAtomList, quiet := false, tame := false }
theorem laws_FnExactAtomList_vc (aCount : Int) (aA_Place : Int) (aA_Scale : Nat) (aA_Size : Nat) (H : AHeap) (K : Value → AHeap → Prop) : bodyK Try.prog E_laws_FnExactAtomList Try.f3 [.int .i64 aCount, .agg #[.int .i64 aA_Place, .float .f32 aA_Scale, .float .f32 aA_Size]] H K =
  (Al [.int .i64 aA_Place, .float .f32 aA_Scale, .float .f32 aA_Size] H fun b1 H1 => ∃ c1 : Int, ∃ c2 : Nat, ∃ c3 : Nat,  rdN H1 b1 0 3 = some [.int .i64 c1, .float .f32 c2, .float .f32 c3] ∧ T_laws_toAtom c1 c2 c3 H1 fun (r1 : Int) (r2 : Nat) (r3 : Nat) (H2 : AHeap) => T_spec_AtomList aCount r1 r2 r3 H2 fun (a1 : Option Addr) (r4 : Nat) (r5 : Nat) (r6 : Bool) (H3 : AHeap) => ∃ c4 : Int, ∃ c5 : Nat, ∃ c6 : Nat,  rdN H3 b1 0 3 = some [.int .i64 c4, .float .f32 c5, .float .f32 c6] ∧ T_laws_toAtom c4 c5 c6 H3 fun (r7 : Int) (r8 : Nat) (r9 : Nat) (H4 : AHeap) => T_impl_AtomList aCount r7 r8 r9 H4 fun (a2 : Option Addr) (r10 : Nat) (r11 : Nat) (r12 : Bool) (H5 : AHeap) => T_laws_eqFloat32S a2 r10 r11 a1 r4 r5 H5 fun (r13 : Bool) (H6 : AHeap) => Br (!r13) (K (.bool false) H6) (Br (!(r12 == r6)) (K (.bool false) H6) (T_laws_markFloat32S a2 r10 r11 1 H6 fun (r14 : Int) (H7 : AHeap) => T_laws_heldFloat32S a2 r10 r11 1 H7 fun (r15 : Int) (H8 : AHeap) => Br (decide ((r15 : Int) < 0)) (K (.bool false) H8) (Br ((r15 : Int) != r14) (K (.bool false) H8) (∃ c7 : Int, ∃ c8 : Nat, ∃ c9 : Nat,  rdN H8 b1 0 3 = some [.int .i64 c7, .float .f32 c8, .float .f32 c9] ∧ T_laws_toAtom c7 c8 c9 H8 fun (r16 : Int) (r17 : Nat) (r18 : Nat) (H9 : AHeap) => T_impl_AtomList aCount r16 r17 r18 H9 fun (a3 : Option Addr) (r19 : Nat) (r20 : Nat) (r21 : Bool) (H10 : AHeap) => T_laws_eqFloat32S a3 r19 r20 a1 r4 r5 H10 fun (r22 : Bool) (H11 : AHeap) => Br (!r22) (K (.bool false) H11) (Br (!(r21 == r6)) (K (.bool false) H11) (T_laws_heldFloat32S a2 r10 r11 1 H11 fun (r23 : Int) (H12 : AHeap) => Br (decide ((r23 : Int) < 0)) (K (.bool false) H12) (Br ((r23 : Int) != r14) (K (.bool false) H12) (K (.bool true) H12))))))))) := by kernel_rfl
theorem E_laws_FnExactAtomList_ok : ∀ g, FnOk Try.prog g (E_laws_FnExactAtomList g) := FnOk.envOf (by
  intro x hx
  simp only [List.mem_cons, List.not_mem_nil, or_false] at hx
  rcases hx with rfl | rfl | rfl | rfl | rfl | rfl
  · exact laws_toAtom_ok
  · exact spec_AtomList_ok
  · exact impl_AtomList_ok
  · exact laws_eqFloat32S_ok
  · exact laws_markFloat32S_ok
  · exact laws_heldFloat32S_ok)
set_option maxHeartbeats 1000000 in
theorem laws_FnExactAtomList_main (aCount : Int) (aA_Place : Int) (aA_Scale : Nat) (aA_Size : Nat) (H : AHeap) (K : Value → AHeap → Prop) (h : T_laws_FnExactAtomList aCount aA_Place aA_Scale aA_Size H fun (r1 : Bool) (H' : AHeap) => K (.bool r1) H') : bodyK Try.prog E_laws_FnExactAtomList Try.f3 [.int .i64 aCount, .agg #[.int .i64 aA_Place, .float .f32 aA_Scale, .float .f32 aA_Size]] H K := by
  rw [laws_FnExactAtomList_vc]
  obtain ⟨h_0, h_1, h_2, h_3, hk⟩ := h
  have hl := laws_FnExactAtomList_true aCount aA_Place aA_Scale aA_Size h_0 h_1 h_2 h_3
  have e : p_laws_FnExactAtomList aCount aA_Place aA_Scale aA_Size = _ := rfl
  have e := e.trans (p_laws_FnExactAtomList_eq aCount aA_Place aA_Scale aA_Size)
  have e := hl.symm.trans e
  have g0 := Grow.refl H
  refine Al.intro (fun b_1 H_1 hb_2 hl_3 g_4 o_5 => ?_)
  have l_7 := g_4.1
  have g_8 := g0.trans g_4
  have l_9 := g_8.1
  have w_92 := o_5.lt
  refine ⟨aA_Place, aA_Scale, aA_Size, (o_5.rdN (Nat.le_of_ble_eq_true rfl)).trans rfl, ?_⟩
  refine T_laws_toAtom_i (fun  H_2 g_10  => ?_)
  have l_11 := g_10.1
  have g_12 := g_8.trans g_10
  have l_13 := g_12.1
  have o_14 := o_5.grow g_10
  have w_15 := o_14.lt
  refine T_spec_AtomList_i (fun a_16 n_17 e_18 H_3 g_21 r_19 => ?_)
  have z_20 := spec_AtomList_len aCount ((p_laws_toAtom aA_Place aA_Scale aA_Size).1) ((p_laws_toAtom aA_Place aA_Scale aA_Size).2.1) ((p_laws_toAtom aA_Place aA_Scale aA_Size).2.2)
  have l_22 := g_21.1
  have g_23 := g_12.trans g_21
  have l_24 := g_23.1
  have o_25 := o_14.grow g_21
  have w_26 := o_25.lt
  obtain rfl := r_19.isL.eqn
  have u_27 := r_19.up
  have u_28 := r_19.lo
  refine ⟨aA_Place, aA_Scale, aA_Size, (o_25.rdN (Nat.le_of_ble_eq_true rfl)).trans rfl, ?_⟩
  refine T_laws_toAtom_i (fun  H_4 g_30  => ?_)
  have l_31 := g_30.1
  have g_32 := g_23.trans g_30
  have l_33 := g_32.1
  have o_34 := o_25.grow g_30
  have w_35 := o_34.lt
  have r_36 := r_19.grow g_30
  refine T_impl_AtomList_i (fun a_37 n_38 e_39 H_5 g_42 r_40 => ?_)
  have z_41 := impl_AtomList_len aCount ((p_laws_toAtom aA_Place aA_Scale aA_Size).1) ((p_laws_toAtom aA_Place aA_Scale aA_Size).2.1) ((p_laws_toAtom aA_Place aA_Scale aA_Size).2.2)
  have l_43 := g_42.1
  have g_44 := g_32.trans g_42
  have l_45 := g_44.1
  have o_46 := o_34.grow g_42
  have w_47 := o_46.lt
  have r_48 := r_36.grow g_42
  obtain rfl := r_40.isL.eqn
  have u_49 := r_40.up
  have u_50 := r_40.lo
  refine T_laws_eqFloat32S_i ⟨_, _, r_40.isL, r_48.isL, (by first | omega | (simp only [List.length_set, List.length_replicate, List.length_append, List.length_cons, List.length_nil, List.length_take, List.length_drop, marks_length]; done) | (simp only [List.length_set, List.length_replicate, List.length_append, List.length_cons, List.length_nil, List.length_take, List.length_drop, marks_length]; omega)), (by first | omega | (simp only [List.length_set, List.length_replicate, List.length_append, List.length_cons, List.length_nil, List.length_take, List.length_drop, marks_length]; done) | (simp only [List.length_set, List.length_replicate, List.length_append, List.length_cons, List.length_nil, List.length_take, List.length_drop, marks_length]; omega)), ?_⟩
  refine Br.intro (fun c_52 => ?_) (fun c_52 => ?_)
  · have e := e.trans (cond_t c_52)
    have c_52n := nf_of_t c_52
    first | exact hk _ | (exfalso; cases e; done) | (rw [← e]; exact hk _)
  · have e := e.trans (cond_f c_52)
    have c_52n := nt_of_f c_52
    refine Br.intro (fun c_53 => ?_) (fun c_53 => ?_)
    · have e := e.trans (cond_t c_53)
      have c_53n := nf_of_t c_53
      first | exact hk _ | (exfalso; cases e; done) | (rw [← e]; exact hk _)
    · have e := e.trans (cond_f c_53)
      have c_53n := nt_of_f c_53
      refine T_laws_markFloat32S_i ⟨_, _, r_40, (by first | omega | (simp only [List.length_set, List.length_replicate, List.length_append, List.length_cons, List.length_nil, List.length_take, List.length_drop, marks_length]; done) | (simp only [List.length_set, List.length_replicate, List.length_append, List.length_cons, List.length_nil, List.length_take, List.length_drop, marks_length]; omega)), (fun H_6 k_54 o_55 => ?_)⟩
      have l_56 := k_54.1
      have g_57 := g_44.keepA (fun x hx => by have := u_50 x hx; omega) k_54
      have l_58 := g_57.1
      have o_59 := o_46.keepA (fun x hx => by have := u_50 x hx; have := u_49 x hx; omega) k_54
      have w_60 := o_59.lt
      have r_61 := r_48.keepA (fun x y hx hy => by have := u_50 x hx; have := u_49 x hx; have := u_28 y hy; have := u_27 y hy; omega) k_54
      refine T_laws_heldFloat32S_i ⟨_, o_55.isL, (by first | omega | (simp only [List.length_set, List.length_replicate, List.length_append, List.length_cons, List.length_nil, List.length_take, List.length_drop, marks_length]; done) | (simp only [List.length_set, List.length_replicate, List.length_append, List.length_cons, List.length_nil, List.length_take, List.length_drop, marks_length]; omega)), ?_⟩
      refine Br.intro (fun c_62 => ?_) (fun c_62 => ?_)
      · have e := e.trans (cond_t c_62)
        have c_62' := of_decide_eq_true c_62
        first | exact hk _ | (exfalso; cases e; done) | (rw [← e]; exact hk _)
      · have e := e.trans (cond_f c_62)
        have c_62' := of_decide_eq_false c_62
        refine Br.intro (fun c_63 => ?_) (fun c_63 => ?_)
        · have e := e.trans (cond_t c_63)
          have c_63' := ine_t c_63
          first | exact hk _ | (exfalso; cases e; done) | (rw [← e]; exact hk _)
        · have e := e.trans (cond_f c_63)
          have c_63' := ine_f c_63
          refine ⟨aA_Place, aA_Scale, aA_Size, (o_59.rdN (Nat.le_of_ble_eq_true rfl)).trans rfl, ?_⟩
          refine T_laws_toAtom_i (fun  H_7 g_64  => ?_)
          have l_65 := g_64.1
          have g_66 := g_57.trans g_64
          have l_67 := g_66.1
          have o_68 := o_59.grow g_64
          have w_69 := o_68.lt
          have r_70 := r_61.grow g_64
          have r_71 := o_55.grow g_64
          refine T_impl_AtomList_i (fun a_72 n_73 e_74 H_8 g_77 r_75 => ?_)
          have z_76 := impl_AtomList_len aCount ((p_laws_toAtom aA_Place aA_Scale aA_Size).1) ((p_laws_toAtom aA_Place aA_Scale aA_Size).2.1) ((p_laws_toAtom aA_Place aA_Scale aA_Size).2.2)
          have l_78 := g_77.1
          have g_79 := g_66.trans g_77
          have l_80 := g_79.1
          have o_81 := o_68.grow g_77
          have w_82 := o_81.lt
          have r_83 := r_70.grow g_77
          have r_84 := r_71.grow g_77
          obtain rfl := r_75.isL.eqn
          have u_85 := r_75.up
          have u_86 := r_75.lo
          refine T_laws_eqFloat32S_i ⟨_, _, r_75.isL, r_83.isL, (by first | omega | (simp only [List.length_set, List.length_replicate, List.length_append, List.length_cons, List.length_nil, List.length_take, List.length_drop, marks_length]; done) | (simp only [List.length_set, List.length_replicate, List.length_append, List.length_cons, List.length_nil, List.length_take, List.length_drop, marks_length]; omega)), (by first | omega | (simp only [List.length_set, List.length_replicate, List.length_append, List.length_cons, List.length_nil, List.length_take, List.length_drop, marks_length]; done) | (simp only [List.length_set, List.length_replicate, List.length_append, List.length_cons, List.length_nil, List.length_take, List.length_drop, marks_length]; omega)), ?_⟩
          refine Br.intro (fun c_88 => ?_) (fun c_88 => ?_)
          · have e := e.trans (cond_t c_88)
            have c_88n := nf_of_t c_88
            first | exact hk _ | (exfalso; cases e; done) | (rw [← e]; exact hk _)
          · have e := e.trans (cond_f c_88)
            have c_88n := nt_of_f c_88
            refine Br.intro (fun c_89 => ?_) (fun c_89 => ?_)
            · have e := e.trans (cond_t c_89)
              have c_89n := nf_of_t c_89
              first | exact hk _ | (exfalso; cases e; done) | (rw [← e]; exact hk _)
            · have e := e.trans (cond_f c_89)
              have c_89n := nt_of_f c_89
              refine T_laws_heldFloat32S_i ⟨_, r_84.isL, (by first | omega | (simp only [List.length_set, List.length_replicate, List.length_append, List.length_cons, List.length_nil, List.length_take, List.length_drop, marks_length]; done) | (simp only [List.length_set, List.length_replicate, List.length_append, List.length_cons, List.length_nil, List.length_take, List.length_drop, marks_length]; omega)), ?_⟩
              refine Br.intro (fun c_90 => ?_) (fun c_90 => ?_)
              · have e := e.trans (cond_t c_90)
                have c_90' := of_decide_eq_true c_90
                first | exact hk _ | (exfalso; cases e; done) | (rw [← e]; exact hk _)
              · have e := e.trans (cond_f c_90)
                have c_90' := of_decide_eq_false c_90
                refine Br.intro (fun c_91 => ?_) (fun c_91 => ?_)
                · have e := e.trans (cond_t c_91)
                  have c_91' := ine_t c_91
                  first | exact hk _ | (exfalso; cases e; done) | (rw [← e]; exact hk _)
                · have e := e.trans (cond_f c_91)
                  have c_91' := ine_f c_91
                  first | exact hk _ | (exfalso; cases e; done) | (rw [← e]; exact hk _)
theorem laws_FnExactAtomList_ok : FnOk Try.prog 3 S_laws_FnExactAtomList := by
  refine FnOk.body mix_ok E_laws_FnExactAtomList_ok Try.func3 rfl (by kernel_rfl) (by kernel_rfl) ?_ ?_ ?_ ?_ ?_
  · intro args H K K' h hk
    simp only [S_laws_FnExactAtomList] at *
    unfold F_laws_FnExactAtomList at *
    split at hk
    · obtain ⟨h_0, h_1, h_2, h_3, k⟩ := hk
      exact ⟨h_0, h_1, h_2, h_3, (fun H' => h _ _ (k H'))⟩
    · exact hk.elim
  · intro hq; cases hq
  · intro args H K hk
    simp only [S_laws_FnExactAtomList] at *
    unfold F_laws_FnExactAtomList at *
    split at hk
    · obtain ⟨h_0, h_1, h_2, h_3, k⟩ := hk
      exact ⟨_, _, k []⟩
    · exact hk.elim
  · intro hq; cases hq
  · have mm := @laws_FnExactAtomList_main
    revert mm
    generalize bodyK Try.prog E_laws_FnExactAtomList Try.f3 = Q
    intro mm args H K hk
    simp only [S_laws_FnExactAtomList] at *
    unfold F_laws_FnExactAtomList at *
    split at hk
    · exact mm _ _ _ _ H K hk
    · exact hk.elim
end Go.Proofs.Ytghkkclonabpkab.Ai
