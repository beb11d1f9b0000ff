/- What functions of the program come to on the abstract machine, and that they do so; printed by a program of mine around proofs of mine. -/
import Derived.Test.YtghkkclonabpkabFFnExactPursueOnce3
set_option linter.unusedVariables false
set_option linter.unusedSimpArgs false
set_option linter.defProp false
set_option maxRecDepth 100000
namespace Go.Proofs.Ytghkkclonabpkab.Ai
open Go
attribute [local irreducible] bodyK

def p_laws_FnExactPursueOnce (l_aList : List Nat) (l_aScales : List Nat) : Bool := ((bif decide ((1048576 : Int) < (l_aList.length : Int)) then true else (bif decide ((1048576 : Int) < (l_aScales.length : Int)) then true else (bif !((p_laws_eqAtom ((p_impl_PursueOnce l_aList l_aScales).1) ((p_impl_PursueOnce l_aList l_aScales).2.1) ((p_impl_PursueOnce l_aList l_aScales).2.2.1) ((p_spec_PursueOnce l_aList l_aScales).1) ((p_spec_PursueOnce l_aList l_aScales).2.1) ((p_spec_PursueOnce l_aList l_aScales).2.2.1))) then false else (bif !((p_laws_eqFloat32S ((p_impl_PursueOnce l_aList l_aScales).2.2.2.1) ((p_spec_PursueOnce l_aList l_aScales).2.2.2.1))) then false else (bif !(((p_impl_PursueOnce l_aList l_aScales).2.2.2.2) == ((p_spec_PursueOnce l_aList l_aScales).2.2.2.2)) then false else (bif !(p_laws_eqFloat32S l_aList l_aList) then false else (bif !(p_laws_eqFloat32S l_aScales l_aScales) then false else (bif decide (((wk ((wk (1 : Int) l_aList.length)) l_aScales.length) : Int) < 0) then false else (bif !((p_laws_eqAtom ((p_impl_PursueOnce l_aList l_aScales).1) ((p_impl_PursueOnce l_aList l_aScales).2.1) ((p_impl_PursueOnce l_aList l_aScales).2.2.1) ((p_spec_PursueOnce l_aList l_aScales).1) ((p_spec_PursueOnce l_aList l_aScales).2.1) ((p_spec_PursueOnce l_aList l_aScales).2.2.1))) then false else (bif !((p_laws_eqFloat32S ((p_impl_PursueOnce l_aList l_aScales).2.2.2.1) ((p_spec_PursueOnce l_aList l_aScales).2.2.2.1))) then false else (bif !(((p_impl_PursueOnce l_aList l_aScales).2.2.2.2) == ((p_spec_PursueOnce l_aList l_aScales).2.2.2.2)) then false else (bif decide (((p_laws_heldFloat32S ((marks (FloatKind.nearest .f32) (1 : Int) ((p_impl_PursueOnce l_aList l_aScales).2.2.2.1).length)) (1 : Int)) : Int) < 0) then false else (bif ((p_laws_heldFloat32S ((marks (FloatKind.nearest .f32) (1 : Int) ((p_impl_PursueOnce l_aList l_aScales).2.2.2.1).length)) (1 : Int)) : Int) != (wk (1 : Int) ((p_impl_PursueOnce l_aList l_aScales).2.2.2.1).length) then false else (bif !((p_laws_eqAtom ((p_impl_PursueOnce l_aList l_aScales).1) ((p_impl_PursueOnce l_aList l_aScales).2.1) ((p_impl_PursueOnce l_aList l_aScales).2.2.1) ((p_spec_PursueOnce l_aList l_aScales).1) ((p_spec_PursueOnce l_aList l_aScales).2.1) ((p_spec_PursueOnce l_aList l_aScales).2.2.1))) then false else (bif !((p_laws_eqFloat32S ((p_impl_PursueOnce l_aList l_aScales).2.2.2.1) ((p_spec_PursueOnce l_aList l_aScales).2.2.2.1))) then false else (bif !(((p_impl_PursueOnce l_aList l_aScales).2.2.2.2) == ((p_spec_PursueOnce l_aList l_aScales).2.2.2.2)) then false else (bif decide (((p_laws_heldFloat32S ((marks (FloatKind.nearest .f32) (1 : Int) ((p_impl_PursueOnce l_aList l_aScales).2.2.2.1).length)) (1 : Int)) : Int) < 0) then false else (bif ((p_laws_heldFloat32S ((marks (FloatKind.nearest .f32) (1 : Int) ((p_impl_PursueOnce l_aList l_aScales).2.2.2.1).length)) (1 : Int)) : Int) != (wk (1 : Int) ((p_impl_PursueOnce l_aList l_aScales).2.2.2.1).length) then false else true)))))))))))))))))))
def p_laws_FnExactPursueOnce_eq := @p_laws_FnExactPursueOnce.eq_1
def T_laws_FnExactPursueOnce (aList_a : Option Addr) (aList_n : Nat) (aList_e : Nat) (aScales_a : Option Addr) (aScales_n : Nat) (aScales_e : Nat) (H : AHeap) (K : Bool → AHeap → Prop) : Prop := ∃ l_aList : List Nat, ∃ l_aScales : List Nat, IsL fF H aList_a aList_n l_aList ∧ (∀ y ∈ l_aList, W32 y) ∧ l_aList.length ≤ 9223372036854775807 ∧ IsL fF H aScales_a aScales_n l_aScales ∧ (∀ y ∈ l_aScales, W32 y) ∧ l_aScales.length ≤ 9223372036854775807 ∧ ∀ H' : AHeap, K true H'
theorem exp_sq (y y' P P' K : Nat) (k : Int) : ∀ (μ p : Nat) (i : Int), p_impl_expWide_l2 y P K (fun (p : Nat) (t : Int) => p) μ p i = p_spec_l01ExpWide_l2 y' P' k (fun (p : Nat) (t : Int) => p) μ p i := by
  intro μ
  induction μ with
  | zero => intro p i; rfl
  | succ μ ih => intro p i; rw [p_impl_expWide_l2_s, p_spec_l01ExpWide_l2_s, ih]
theorem exp_ser (y : Nat) : ∀ (μ p : Nat) (n : Int), n ≤ 12 → -1 ≤ n → p_impl_expWide_l1 y μ p (FloatKind.nearest .f64 n) = p_spec_l01ExpWide_l1 y μ p n := by
  intro μ
  induction μ with
  | zero => intro p n _ _; rfl
  | succ μ ih =>
    intro p n h1 h0
    have c := cnt_at (n := n) o3 o3
    rw [p_impl_expWide_l1_s, p_spec_l01ExpWide_l1_s, c.2.1]
    by_cases hc : (1 : Int) ≤ n
    · rw [decide_eq_true hc, cond_true, cond_true, c.2.2.1, ih _ (n - 1) o3 o3]
    · rw [decide_eq_false hc, cond_false, cond_false, exp_sq y y p p _ n]
theorem expWide_same {y : Nat} (hy : Wd .f64 y) : p_impl_expWide y = p_spec_l01ExpWide y := by
  by_cases hn : (FloatKind.f64.format.read y).isNaN = true
  · have e : y = qnan .f64 := by rw [← hy.2]; exact cn_of_nan hn
    rw [e]; decide +kernel
  · have hn : (FloatKind.f64.format.read y).isNaN = false := by simpa using hn
    rw [p_impl_expWide_eq, p_spec_l01ExpWide_eq, feq_self hn, Bool.not_true, cond_false]
    have e1 : Int.toNat (cnt 4622945017495814144) + 1 = Int.toNat ((12 : Int) - 1 + 1) + 1 := by decide +kernel
    have e5 : (4622945017495814144 : Nat) = FloatKind.nearest .f64 12 := by decide +kernel
    have := exp_ser y (Int.toNat ((12 : Int) - 1 + 1) + 1) 4607182418800017408 12 o22 o22
    rw [← e5] at this
    rw [e1, this]
theorem exp_same (x : Nat) : p_impl_ExpNumber x = p_spec_l01Exp x := by
  rw [p_impl_ExpNumber_eq, p_spec_l01Exp_eq, p_spec_l01Narrow_eq, p_impl_expOf_eq, expWide_same (wide_wd x)]
theorem abs_sv {x : Nat} (h : fin .f64 x = true) : fin .f64 (p_math_Abs x) = true ∧ sv .f64 (p_math_Abs x) = ((sv .f64 x).natAbs : Int) := by
  obtain ⟨s, m, e, hr⟩ := fin_num h
  have hm := read_mod hr
  rw [show FloatKind.f64.format.signWeight = 9223372036854775808 by decide] at hm
  have ea : p_math_Abs x = x % 9223372036854775808 := by
    unfold p_math_Abs
    rw [cn_of_not_nan (fin_nn h), cn_of_not_nan (show (FloatKind.f64.decode _).isNaN = false from by show (FloatKind.f64.format.read _).isNaN = false; rw [hm]; rfl)]
  rw [ea]
  unfold fin sv
  rw [hm, hr]
  refine ⟨rfl, ?_⟩
  simp only []
  rw [signed_natAbs, signed_eq, if_neg o22, Nat.shiftLeft_eq]
theorem abs_cond {x : Nat} (h : fin .f64 x = true) : fle .f64 4841369599423283200 (p_math_Abs x) = (fle .f64 4841369599423283200 x || fle .f64 x 14064741636278059008) := by
  obtain ⟨A, -, hs⟩ := two52_sv
  obtain ⟨h1, h2⟩ := abs_sv h
  rw [fle_fin two52_fin h1, fle_fin two52_fin h, mtwo52_eq, fle_fin h (fin_neg two52_fin), sv_neg two52_fin, h2, hs]
  have hp := Nat.two_pow_pos A
  generalize 2 ^ A = a at *
  generalize sv .f64 x = v at *
  by_cases c1 : (a : Int) ≤ v
  · rw [decide_eq_true c1, decide_eq_true o3]; rfl
  · by_cases c2 : v ≤ -(a : Int)
    · rw [decide_eq_true c2, decide_eq_true o3, Bool.or_true]
    · rw [decide_eq_false c1, decide_eq_false c2, decide_eq_false o3]; rfl
theorem sine_same {f : Nat} (h : Bd .f64 (1 + lp .f64) f) : p_spec_l01SineWide f = p_impl_sine f := by
  rw [spec_sine_val f (h.mono o3) (in52 h), impl_sine_val]; rfl
theorem phasor_go (t : Nat) : ∀ (μ f : Nat) (q : Int), Bd .f64 (lp .f64) f → p_impl_PhasorOf_l1 t μ f q = p_spec_l01Phasor_l1 t μ f q := by
  intro μ
  induction μ with
  | zero => intro f q _; rfl
  | succ μ ih =>
    intro f q hb
    rw [p_impl_PhasorOf_l1_s, p_spec_l01Phasor_l1_s, sine_same (lp_up1 hb), sine_same (rest_bd1 hb)]
    simp only [p_spec_l01Narrow_eq]
    cases hc : fle .f64 4598175219545276416 f
    · rfl
    · simp only [cond_true]; exact ih _ _ (qm_step hb hc).1
theorem nan_same : (((fnarrow p_math_NaN).getD 0), ((fnarrow p_math_NaN).getD 0)) = ((p_spec_l01From (2143289344 : Int)), (p_spec_l01From (2143289344 : Int))) := by decide +kernel
theorem phasor_bad {t : Nat} (hf : fin .f64 t = false) : p_impl_PhasorOf t = p_spec_l01Phasor t := by
  rw [p_impl_PhasorOf_eq, p_spec_l01Phasor_eq, fin_asked, show p_impl_isFinite64 t = fin .f64 t from fin_asked t, hf, Bool.not_false]
  exact (cond_t rfl).trans (nan_same.trans (cond_t rfl).symm)
theorem phasor_mix {α : Type} (a b : Bool) (one X Y : α) (h : a = false → b = false → X = Y) : (bif (a || b) then one else X) = (bif a then one else (bif b then one else Y)) := by
  cases a
  · cases b
    · exact h rfl rfl
    · rfl
  · rfl
theorem phasor_mix2 (L : Nat → Nat → Int → Nat × Nat) (Q : Nat → Nat) (c : Bool) (x y : Nat) : L (Q (bif c then x else y)) (bif c then x else y) 0 = (bif c then L (Q x) x 0 else L (Q y) y 0) := by
  cases c <;> rfl
theorem phasor_fin {t : Nat} (hf : fin .f64 t = true) : p_impl_PhasorOf t = p_spec_l01Phasor t := by
  rw [p_impl_PhasorOf_eq, p_spec_l01Phasor_eq, fin_asked, show p_impl_isFinite64 t = fin .f64 t from fin_asked t, hf, Bool.not_true, abs_cond hf]
  refine (cond_f rfl).trans (Eq.trans ?_ (cond_f rfl).symm)
  refine phasor_mix _ _ _ _ _ (fun h1 h2 => ?_)
  have hb := wide_in (by rw [fin_asked]; exact hf) h1 h2
  rw [phasor_go t _ _ _ (impl_fraction_bd t hb), p_impl_fraction_eq]
  exact phasor_mix2 (p_spec_l01Phasor_l1 t) (fun g => Int.toNat (qm g) + 1) _ _ _
theorem phasor_same (t : Nat) : p_impl_PhasorOf t = p_spec_l01Phasor t := by
  cases hf : fin .f64 t
  · exact phasor_bad hf
  · exact phasor_fin hf
/-- How far, as the program says it. -/
def kR (x : Nat) : Int := (ftoi .f64 (p_math_Ceil (fwide (fmul .f32 1077936128 x))) .i64).getD 0
theorem kernel_go (x : Nat) : ∀ (μ ν : Nat) (o : List (Nat × Nat)) (k : Int), (2 * kR x + 1 - k).toNat < μ → (2 * kR x + 1 - k).toNat < ν →
    p_impl_kernel_l1 x μ o k = (p_spec_l03Kernel_l1 x ν o k, kR x) ∧ (p_spec_l03Kernel_l1 x ν o k).length = o.length + (2 * kR x + 1 - k).toNat := by
  intro μ
  induction μ with
  | zero => intro ν o k h; omega
  | succ μ ih =>
    intro ν o k h1 h2
    obtain _ | ν := ν
    · omega
    rw [p_impl_kernel_l1_s, p_spec_l03Kernel_l1_s]
    simp only [phasor_same, exp_same]
    rw [show (ftoi .f64 (p_math_Ceil (fwide (fmul .f32 1077936128 x))) .i64).getD 0 = kR x from rfl]
    by_cases hk : k < 2 * kR x + 1
    · rw [decide_eq_true hk, decide_eq_true (show k ≤ 2 * kR x by omega), cond_true, cond_true]
      obtain ⟨a, b⟩ := ih ν (o ++ [((p_spec_l01Scale ((p_spec_l01Phasor (fwide (fdiv .f32 (FloatKind.nearest .f32 ((k - kR x))) x))).1) ((p_spec_l01Phasor (fwide (fdiv .f32 (FloatKind.nearest .f32 ((k - kR x))) x))).2) (fdiv .f32 ((p_spec_l01Exp (fmul .f32 (fmul .f32 3204448256 (fdiv .f32 (FloatKind.nearest .f32 ((k - kR x))) x)) (fdiv .f32 (FloatKind.nearest .f32 ((k - kR x))) x)))) x)).1, (p_spec_l01Scale ((p_spec_l01Phasor (fwide (fdiv .f32 (FloatKind.nearest .f32 ((k - kR x))) x))).1) ((p_spec_l01Phasor (fwide (fdiv .f32 (FloatKind.nearest .f32 ((k - kR x))) x))).2) (fdiv .f32 ((p_spec_l01Exp (fmul .f32 (fmul .f32 3204448256 (fdiv .f32 (FloatKind.nearest .f32 ((k - kR x))) x)) (fdiv .f32 (FloatKind.nearest .f32 ((k - kR x))) x)))) x)).2)]) (k + 1) o3 o3
      exact ⟨a, b.trans o25⟩
    · rw [decide_eq_false hk, decide_eq_false (show ¬ k ≤ 2 * kR x by omega), cond_false, cond_false]
      exact ⟨rfl, by omega⟩
theorem kernel_same (x : Nat) : p_impl_kernel x = (p_spec_l03Kernel x, kR x) ∧ (p_spec_l03Kernel x).length = (2 * kR x + 1).toNat := by
  rw [p_impl_kernel_eq, p_spec_l03Kernel_eq]
  rw [show (ftoi .f64 (p_math_Ceil (fwide (fmul .f32 1077936128 x))) .i64).getD 0 = kR x from rfl]
  obtain ⟨a, b⟩ := kernel_go x (Int.toNat (2 * kR x + 1 - 0) + 1) (Int.toNat (2 * kR x - 0 + 1) + 1) [] 0 o3 o3
  exact ⟨a, b.trans (by simp)⟩
theorem sqrt_eq (x : Nat) : p_impl_RootNumber x = p_spec_l01Sqrt x := rfl
theorem spec_fin (x : Nat) : p_spec_l01Finite x = fin .f32 x := fin_asked x
theorem impl_fin (x : Nat) : p_impl_IsFinite x = fin .f32 x := fin_asked x
theorem w32_wd {x : Nat} (h : W32 x) : Wd .f32 x := ⟨h.1, h.2⟩
theorem wd_w32 {x : Nat} (h : Wd .f32 x) : W32 x := ⟨h.1, h.2⟩
theorem l02Finite_go (l : List Nat) : ∀ (μ : Nat) (t : Bool) (i : Nat), l.length - i < μ → p_spec_l02Finite_l1 l μ t (i : Int) = (l.drop i).all (fin .f32) := by
  intro μ
  induction μ with
  | zero => intro t i h; omega
  | succ μ ih =>
    intro t i hm
    rw [p_spec_l02Finite_l1_s]
    by_cases h : i < l.length
    · rw [decide_eq_true (show (i : Int) < (l.length : Int) by omega), cond_true, Int.toNat_natCast, spec_fin]
      rw [List.drop_eq_getElem_cons h, List.all_cons, List.getD_eq_getElem?_getD, List.getElem?_eq_getElem h, Option.getD_some]
      have := ih t (i + 1) o3
      cases fin .f32 l[i]
      · rfl
      · simp only [Bool.not_true, cond_false, Bool.true_and]; exact this
    · rw [decide_eq_false (show ¬ (i : Int) < (l.length : Int) by omega), cond_false, List.drop_eq_nil_of_le o3]; rfl
theorem l02Finite_all (l : List Nat) : p_spec_l02Finite l = l.all (fin .f32) := by
  rw [p_spec_l02Finite_eq]
  have := l02Finite_go l (Int.toNat ((l.length : Int) - (0 : Int)) + 1) false 0 o3
  simpa using this
theorem areFinite_in (ls : List (List Nat)) (t2 : Bool) (t9 : Int) (k : Bool → Int → Bool) : ∀ (μ : Nat) (t : Bool) (i : Nat), i ≤ (ls.getD t9.toNat []).length → (ls.getD t9.toNat []).length - i < μ →
    p_impl_areFinite_l2 ls t2 t9 k μ t (i : Int) = bif ((ls.getD t9.toNat []).drop i).all (fin .f32) then k t ((ls.getD t9.toNat []).length : Int) else false := by
  intro μ
  generalize hl : ls.getD t9.toNat [] = l
  induction μ with
  | zero => intro t i _ h; omega
  | succ μ ih =>
    intro t i hi hm
    rw [p_impl_areFinite_l2_s, hl]
    by_cases h : i < l.length
    · rw [decide_eq_true (show (i : Int) < (l.length : Int) by omega), cond_true, Int.toNat_natCast, impl_fin]
      rw [List.drop_eq_getElem_cons h, List.all_cons, List.getD_eq_getElem?_getD, List.getElem?_eq_getElem h, Option.getD_some]
      have := ih t (i + 1) o3 o3
      cases fin .f32 l[i]
      · rfl
      · simp only [Bool.not_true, cond_false, Bool.true_and]; exact this
    · rw [decide_eq_false (show ¬ (i : Int) < (l.length : Int) by omega), cond_false, List.drop_eq_nil_of_le o3, show i = l.length by omega]; rfl
theorem areFinite_go (ls : List (List Nat)) : ∀ (μ : Nat) (t : Bool) (i : Nat), ls.length - i < μ → p_impl_areFinite_l1 ls μ t (i : Int) = (ls.drop i).all (fun l => l.all (fin .f32)) := by
  intro μ
  induction μ with
  | zero => intro t i h; omega
  | succ μ ih =>
    intro t i hm
    rw [p_impl_areFinite_l1_s]
    by_cases h : i < ls.length
    · rw [decide_eq_true (show (i : Int) < (ls.length : Int) by omega), cond_true]
      have := areFinite_in ls t (i : Int) (fun t2 t15 => p_impl_areFinite_l1 ls μ t2 ((i : Int) + 1)) (Int.toNat ((((ls).getD ((i : Int) : Int).toNat []).length : Int) - (0 : Int)) + 1) t 0 (Nat.zero_le _) o3
      refine Eq.trans this ?_
      rw [Int.toNat_natCast, List.drop_zero, List.drop_eq_getElem_cons h, List.all_cons, List.getD_eq_getElem?_getD, List.getElem?_eq_getElem h, Option.getD_some]
      have := ih t (i + 1) o3
      cases ls[i].all (fin .f32)
      · rfl
      · simp only [cond_true, Bool.true_and]; exact this
    · rw [decide_eq_false (show ¬ (i : Int) < (ls.length : Int) by omega), cond_false, List.drop_eq_nil_of_le o3]; rfl
theorem areFinite_all (ls : List (List Nat)) : p_impl_areFinite ls = ls.all (fun l => l.all (fin .f32)) := by
  rw [p_impl_areFinite_eq]
  have := areFinite_go ls (Int.toNat ((ls.length : Int) - (0 : Int)) + 1) false 0 o3
  simpa using this
theorem finite_same (l : List Nat) : p_impl_areFinite [l] = p_spec_l02Finite l := by rw [areFinite_all, l02Finite_all]; simp
theorem energy_go (a : List Nat) : ∀ (μ : Nat) (s : Nat) (t : Int), p_impl_squares_l1 a μ s t = p_spec_l03Energy_l1 a μ s t := by
  intro μ
  induction μ with
  | zero => intro s t; unfold p_impl_squares_l1 p_spec_l03Energy_l1; rfl
  | succ μ ih =>
    intro s t
    rw [p_impl_squares_l1_s, p_spec_l03Energy_l1_s, ih]
theorem energy_same (a : List Nat) : p_impl_squares a = p_spec_l03Energy a := by
  rw [p_impl_squares_eq, p_spec_l03Energy_eq, energy_go]
theorem atom_l2 (l : List Nat) (r c p : Int) (s z : Nat) (t i0 : Int) (A : List Nat) (hA : (c).toNat = A.length) : ∀ (μ : Nat) (i : Int) (y : List Nat),
    p_impl_atomBy_l2 l r c p z t A (fun (t50 : Int) (y2_1 : List Nat) => y2_1) μ i y = p_spec_l05Of_l2 c p s z A i0 (fun (t54 : Int) (y2_1 : List Nat) => y2_1) μ i y := by
  intro μ
  induction μ with
  | zero => intro i y; rfl
  | succ μ ih =>
    intro i y
    rw [p_impl_atomBy_l2_s, p_spec_l05Of_l2_s, hA, energy_same, sqrt_eq, ih]
theorem set_app (A : List Nat) (m v : Nat) : (A ++ List.replicate (m + 1) 0).set A.length v = (A ++ [v]) ++ List.replicate m 0 := by
  rw [List.set_append_right _ _ (Nat.le_refl _), Nat.sub_self, List.replicate_succ, List.set_cons_zero, List.append_assoc]; rfl
theorem keep_app (A : List Nat) (m : Nat) : (A ++ List.replicate (m + 1) 0) = (A ++ [0]) ++ List.replicate m 0 := by
  rw [List.replicate_succ, List.append_assoc]; rfl
theorem atom_l1 (c p : Int) (s z : Nat) : ∀ (μ ν : Nat) (A : List Nat), A.length ≤ c.toNat → c.toNat - A.length < μ → c.toNat - A.length < ν → 0 ≤ c →
    p_impl_atomBy_l1 ((p_spec_l03Kernel s).map Prod.fst) (kR s) c p z μ (A.length : Int) (A ++ List.replicate (c.toNat - A.length) 0) = p_spec_l05Of_l1 c p s z ν A (A.length : Int) := by
  intro μ
  induction μ with
  | zero => intro ν A h1 h2; omega
  | succ μ ih =>
    intro ν A h1 h2 h3 h0
    obtain _ | ν := ν
    · omega
    rw [p_impl_atomBy_l1_s, p_spec_l05Of_l1_s]
    obtain ⟨-, hlen⟩ := kernel_same s
    by_cases hc : (A.length : Int) < c
    · rw [decide_eq_true (show (A.length : Int) < ((c).toNat : Int) by omega), decide_eq_true hc, cond_true, cond_true]
      obtain ⟨m, hm⟩ : ∃ m, c.toNat - A.length = m + 1 := ⟨c.toNat - A.length - 1, by omega⟩
      have step : ∀ v : Nat, p_impl_atomBy_l1 ((p_spec_l03Kernel s).map Prod.fst) (kR s) c p z μ ((A.length : Int) + 1) ((A ++ [v]) ++ List.replicate m 0) = p_spec_l05Of_l1 c p s z ν (A ++ [v]) ((A.length : Int) + 1) := by
        intro v
        have := ih ν (A ++ [v]) o25 o25 o25 h0
        rw [List.length_append, List.length_singleton, show c.toNat - (A.length + 1) = m by omega] at this
        exact this
      rw [List.length_map, Int.toNat_natCast, hm, set_app]
      by_cases hR : 0 ≤ kR s
      · have ht : Int.tdiv (((p_spec_l03Kernel s).length : Int)) 2 = kR s := by
          rw [hlen, Int.tdiv_eq_ediv_of_nonneg o3]; omega
        rw [ht]
        generalize hk : ((A.length : Int) - p) + kR s = k at *
        by_cases k0 : 0 ≤ k
        · by_cases k1 : k < ((p_spec_l03Kernel s).length : Int)
          · have hin : p_spec_l00In k 0 ((((p_spec_l03Kernel s).length : Int)) - 1) = true := by
              rw [p_spec_l00In_eq, decide_eq_true k0, cond_true]; exact decide_eq_true o3
            rw [decide_eq_true k0, decide_eq_true k1, cond_true, cond_true, hin, cond_true]
            have hg : ((p_spec_l03Kernel s).map Prod.fst).getD k.toNat 0 = ((p_spec_l03Kernel s).getD k.toNat (0, 0)).1 := by
              have hk' : k.toNat < (p_spec_l03Kernel s).length := by omega
              rw [List.getD_eq_getElem?_getD, List.getD_eq_getElem?_getD, List.getElem?_map, List.getElem?_eq_getElem hk']; rfl
            rw [hg]
            exact step _
          · have hin : p_spec_l00In k 0 ((((p_spec_l03Kernel s).length : Int)) - 1) = false := by
              rw [p_spec_l00In_eq, decide_eq_true k0, cond_true]; exact decide_eq_false o3
            rw [decide_eq_true k0, decide_eq_false k1, cond_true, cond_false, hin, cond_false, keep_app]
            exact step _
        · have hin : p_spec_l00In k 0 ((((p_spec_l03Kernel s).length : Int)) - 1) = false := by
            rw [p_spec_l00In_eq, decide_eq_false k0, cond_false]
          rw [decide_eq_false k0, cond_false, hin, cond_false, keep_app]
          exact step _
      · have hz : (p_spec_l03Kernel s).length = 0 := by rw [hlen]; omega
        have hin : ∀ k : Int, p_spec_l00In k 0 ((((p_spec_l03Kernel s).length : Int)) - 1) = false := by
          intro k
          rw [p_spec_l00In_eq, hz]
          by_cases k0 : 0 ≤ k
          · rw [decide_eq_true k0, cond_true]; exact decide_eq_false o3
          · rw [decide_eq_false k0, cond_false]
        have hno : ∀ k : Int, ∀ (X Y : List Nat), (bif decide ((0 : Int) ≤ k) then (bif decide (k < ((p_spec_l03Kernel s).length : Int)) then X else Y) else Y) = Y := by
          intro k X Y
          rw [hz]
          by_cases k0 : 0 ≤ k
          · rw [decide_eq_true k0, decide_eq_false o3]; rfl
          · rw [decide_eq_false k0]; rfl
        rw [hin, cond_false, hno, keep_app]
        exact step _
    · rw [decide_eq_false (show ¬ (A.length : Int) < ((c).toNat : Int) by omega), decide_eq_false hc, cond_false, cond_false]
      have e : c.toNat = A.length := by omega
      rw [show c.toNat - A.length = 0 by omega, List.replicate_zero, List.append_nil, atom_l2 _ _ c p s z _ (A.length : Int) A e, e]
theorem atomBy_same (c p : Int) (s z : Nat) (h0 : 0 ≤ c) : p_impl_atomBy (p_impl_realKernel s).1 (p_impl_realKernel s).2 c p z = p_spec_l05Of c p s z := by
  obtain ⟨hk, -⟩ := kernel_same s
  rw [impl_realKernel_val, hk, p_impl_atomBy_eq, p_spec_l05Of_eq]
  have := atom_l1 c p s z (Int.toNat (((c).toNat : Int) - (0 : Int)) + 1) (Int.toNat (c - (0 : Int)) + 1) [] (Nat.zero_le _) (by simp only [List.length_nil]; omega) (by simp only [List.length_nil]; omega) h0
  rw [List.length_nil, Nat.sub_zero, List.nil_append] at this
  exact this
theorem long_same (l : List Nat) : p_impl_isLong l = p_spec_l03Long l := by
  rw [p_impl_isLong_eq, p_spec_l03Long_eq, finite_same]
  unfold p_impl_within
  cases decide ((1 : Int) ≤ (l.length : Int)) <;> cases decide (((l.length : Int) : Int) ≤ 128) <;> rfl
theorem long_t {l : List Nat} (h : p_spec_l03Long l = true) : 1 ≤ l.length ∧ l.length ≤ 128 ∧ l.all (fin .f32) = true := by
  rw [p_spec_l03Long_eq, l02Finite_all] at h
  by_cases h1 : (1 : Int) ≤ (l.length : Int)
  · rw [decide_eq_true h1, cond_true] at h
    by_cases h2 : (l.length : Int) ≤ 128
    · rw [decide_eq_true h2, cond_true] at h; exact ⟨by omega, by omega, h⟩
    · rw [decide_eq_false h2] at h; cases h
  · rw [decide_eq_false h1] at h; cases h
theorem fin_getD {l : List Nat} (h : l.all (fin .f32) = true) (i : Nat) : fin .f32 (l.getD i 0) = true := by
  rw [List.getD_eq_getElem?_getD]
  cases hx : l[i]? with
  | none => exact fin_zero _
  | some y => exact List.all_eq_true.1 h y (List.mem_of_getElem? hx)
theorem w32_zero : W32 0 := ⟨by decide, by decide +kernel⟩
theorem w32_getD {l : List Nat} (h : ∀ y ∈ l, W32 y) (i : Nat) : W32 (l.getD i 0) := by
  rw [List.getD_eq_getElem?_getD]
  cases hx : l[i]? with
  | none => exact w32_zero
  | some y => exact h y (List.mem_of_getElem? hx)
theorem energy_fold (l : List Nat) : p_spec_l03Energy l = l.foldl sqs2 0 := by
  have go : ∀ (μ : Nat) (s : Nat) (i : Int), 0 ≤ i → ((l.length : Int) - i).toNat < μ → p_spec_l03Energy_l1 l μ s i = (l.drop i.toNat).foldl sqs2 s := by
    intro μ
    induction μ with
    | zero => intro s i h0 h; omega
    | succ μ ih =>
      intro s i h0 h
      rw [p_spec_l03Energy_l1_s]
      by_cases hi : i < (l.length : Int)
      · have hi' : i.toNat < l.length := by omega
        rw [decide_eq_true hi, cond_true, ih _ _ o3 o3, List.drop_eq_getElem_cons hi', List.foldl_cons, List.getD_eq_getElem?_getD, List.getElem?_eq_getElem hi', show (i + 1).toNat = i.toNat + 1 by omega]; rfl
      · rw [decide_eq_false hi, cond_false, List.drop_eq_nil_of_le o3]; rfl
  rw [p_spec_l03Energy_eq, go _ _ _ o22 o3]; rfl
/-- A number of a ripple. -/
def kel (x : Nat) (k : Int) : Nat × Nat := p_spec_l01Scale (p_spec_l01Phasor (fwide (fdiv .f32 (FloatKind.nearest .f32 (k - kR x)) x))).1 (p_spec_l01Phasor (fwide (fdiv .f32 (FloatKind.nearest .f32 (k - kR x)) x))).2
  (fdiv .f32 (p_spec_l01Exp (fmul .f32 (fmul .f32 3204448256 (fdiv .f32 (FloatKind.nearest .f32 (k - kR x)) x)) (fdiv .f32 (FloatKind.nearest .f32 (k - kR x)) x))) x)
theorem kernel_at (x : Nat) (j : Nat) (hj : (j : Int) < 2 * kR x + 1) : (p_spec_l03Kernel x)[j]? = some (kel x j) := by
  have go : ∀ (μ : Nat) (o : List (Nat × Nat)), (2 * kR x + 1 - (o.length : Int)).toNat < μ → (∀ i : Nat, i < o.length → o[i]? = some (kel x i)) → ∀ j : Nat, (j : Int) < 2 * kR x + 1 ∨ j < o.length → (p_spec_l03Kernel_l1 x μ o (o.length : Int))[j]? = some (kel x j) := by
    intro μ
    induction μ with
    | zero => intro o h; omega
    | succ μ ih =>
      intro o h ho j hj
      rw [p_spec_l03Kernel_l1_s]
      rw [show (ftoi .f64 (p_math_Ceil (fwide (fmul .f32 1077936128 x))) .i64).getD 0 = kR x from rfl]
      by_cases hk : (o.length : Int) ≤ 2 * kR x
      · rw [decide_eq_true hk, cond_true]
        have := ih (o ++ [kel x o.length]) o25 (by
          intro i hi
          rw [List.length_append, List.length_singleton] at hi
          by_cases e : i < o.length
          · rw [List.getElem?_append_left e]; exact ho i e
          · obtain rfl : i = o.length := by omega
            rw [List.getElem?_append_right (Nat.le_refl _), Nat.sub_self]; rfl) j o25
        rw [List.length_append, List.length_singleton] at this
        exact this
      · rw [decide_eq_false hk, cond_false]
        exact ho j o3
  rw [p_spec_l03Kernel_eq, show (ftoi .f64 (p_math_Ceil (fwide (fmul .f32 1077936128 x))) .i64).getD 0 = kR x from rfl]
  exact go _ [] o35 (fun i hi => by cases hi) j (.inl hj)
theorem ftoi_nn {x : Nat} {n : Int} (hx : (FloatKind.f64.format.read x).neg = false) (h : ftoi .f64 x .i64 = some n) : 0 ≤ n := by
  unfold ftoi at h
  cases hr : FloatKind.f64.format.read x with
  | nan s t => rw [show FloatKind.f64.decode x = _ from hr] at h; cases h
  | infinity s => rw [show FloatKind.f64.decode x = _ from hr] at h; cases h
  | number s m e =>
    rw [hr] at hx
    have hs : s = false := hx
    subst hs
    rw [show FloatKind.f64.decode x = _ from hr] at h
    have h : (if _ then _ else _) = some n := h
    split at h
    · cases h
      rw [signed_eq, if_neg o22]; omega
    · cases h
theorem ceil_neg {x : Nat} (hf : fin .f64 x = true) (hx : (FloatKind.f64.format.read x).neg = false) : (FloatKind.f64.format.read (fint .up x)).neg = false := by
  obtain ⟨s, m, e, hr⟩ := fin_num hf
  rw [hr] at hx
  have hs : s = false := hx
  subst hs
  unfold fint
  rw [hr, if_neg (fun h => by cases h)]
  exact write_neg .f64 rfl
theorem kR_nn {x : Nat} (h1 : fle .f32 1056964608 x = true) (h2 : fle .f32 x 1098907648 = true) : 0 ≤ kR x := by
  obtain ⟨hb, hge⟩ := scale_bd h1 h2
  have hxn : (FloatKind.f32.format.read x).neg = false := by
    cases h : (FloatKind.f32.format.read x).neg
    · rfl
    · have := sv_le_zero h
      have := Nat.two_pow_pos 148
      omega
  have m1 := Bd.mul (T := 132) three_32 hb (top32 o22) o22
  have h3 : (FloatKind.f32.format.read 1077936128).neg = false := by decide +kernel
  have hw := wide_bd (three_bd h1 h2)
  have hn : (FloatKind.f64.format.read (fwide (fmul .f32 1077936128 x))).neg = false := by
    rw [wide_neg (fin_nn m1.1.1), m1.2, h3, hxn]; rfl
  obtain ⟨n, hs, -⟩ := rad_some h1 h2
  have := ftoi_nn (ceil_neg hw.1 hn) hs
  unfold kR
  rw [show p_math_Ceil (fwide (fmul .f32 1077936128 x)) = fint .up (fwide (fmul .f32 1077936128 x)) from rfl, hs]
  exact this
theorem phasor_zero : (p_spec_l01Phasor 0).1 = 1065353216 := by decide +kernel
theorem exp_zero : p_spec_l01Exp (fmul .f32 (fmul .f32 3204448256 0) 0) = 1065353216 := by decide +kernel
theorem near_z : FloatKind.nearest .f32 0 = 0 := by decide +kernel
theorem wide_z : fwide 0 = 0 := by decide +kernel
theorem div_zero {x : Nat} {n : Nat} {j : Int} (hr : FloatKind.f32.format.read x = .number false n j) (hn : n ≠ 0) : fdiv .f32 0 x = 0 := by
  rw [fdiv_num (read_zero .f32) hr hn rfl]
  have e0 : ∀ d : Nat, 2 * (0 <<< d / n) + (0 <<< d % n != 0).toNat = 0 := by intro d; simp
  rw [e0]
  unfold Ieee.Format.nearest
  rw [if_pos rfl]; rfl
theorem kel_center {x n : Nat} {j : Int} (hr : FloatKind.f32.format.read x = .number false n j) (hn : n ≠ 0) : (kel x (kR x)).1 = fmul .f32 1065353216 (fdiv .f32 1065353216 x) := by
  unfold kel
  rw [Int.sub_self, near_z, div_zero hr hn, wide_z, exp_zero]
  show fmul .f32 (p_spec_l01Phasor 0).1 _ = _
  rw [phasor_zero]
theorem half_quot {D n : Nat} (hn : n ≠ 0) (h : n ≤ D) (b : Nat) : D ≤ (2 * (D / n) + b) * n := by
  have h1 := Nat.div_add_mod D n
  have h2 := Nat.mod_lt D (Nat.pos_of_ne_zero hn)
  have h3 : 1 ≤ D / n := (Nat.le_div_iff_mul_le (Nat.pos_of_ne_zero hn)).2 o3
  have h4 : n * 1 ≤ n * (D / n) := Nat.mul_le_mul_left _ h3
  have h5 : (2 * (D / n)) * n ≤ (2 * (D / n) + b) * n := Nat.mul_le_mul_right _ o3
  have h6 : (2 * (D / n)) * n = n * (D / n) + n * (D / n) := by rw [Nat.mul_assoc, Nat.mul_comm (D / n) n]; omega
  omega
theorem inv_ge {x n q : Nat} (hr : FloatKind.f32.format.read x = .number false n (FloatKind.f32.format.leastPlace + q)) (hn : n ≠ 0) (h : n * 2 ^ q ≤ 2 ^ 153) :
    ∃ r, fdiv .f32 1065353216 x = r ∧ 121 * 2 ^ 23 + 2 ^ 23 ≤ r ∧ r ≤ FloatKind.f32.format.infRung := by
  generalize hd : FloatKind.f32.format.fractionBits + 2 + n.log2 - (2 ^ 23).log2 = d
  rw [fdiv_num one_read hr hn hd]
  have hfb : FloatKind.f32.format.fractionBits = 23 := rfl
  have hlg : (2 ^ 23 : Nat).log2 = 23 := by decide +kernel
  have hnd : n ≤ 2 ^ 23 * 2 ^ d := by
    rw [← Nat.pow_add]
    have : n < 2 ^ (n.log2 + 1) := Nat.lt_log2_self
    exact Nat.le_of_lt (Nat.lt_of_lt_of_le this (Nat.pow_le_pow_right o22 (by rw [hfb, hlg] at hd; omega)))
  have hq := half_quot hn (show n ≤ 2 ^ 23 <<< d by rw [Nat.shiftLeft_eq]; exact hnd) ((2 ^ 23 <<< d % n != 0).toNat)
  generalize 2 * (2 ^ 23 <<< d / n) + (2 ^ 23 <<< d % n != 0).toNat = m' at *
  rw [Nat.shiftLeft_eq, ← Nat.pow_add] at hq
  have hq153 : q ≤ 153 := by
    apply Classical.byContradiction
    intro hc
    exact hn (zero_of_mul_pow h o3)
  have hn2 := le_of_mul_pow h hq153
  have hm : 2 ^ (23 + d) ≤ m' * 2 ^ (153 - q) := Nat.le_trans hq (Nat.mul_le_mul_left _ hn2)
  have key : Le2 (2 ^ 23) (FloatKind.f32.format.leastPlace + (121 : Nat)) m' (FloatKind.f32.format.leastPlace + (126 : Nat) - (FloatKind.f32.format.leastPlace + (q : Int)) - (d : Int) - 1) := by
    rw [le2_at (-(q : Int) - d - 28) (by rw [l32]; omega) (by rw [l32]; omega), ← Nat.pow_add]
    rw [l32, show (-149 + ((121 : Nat) : Int) - (-(q : Int) - d - 28)).toNat = q + d by omega, show (-149 + ((126 : Nat) : Int) - (-149 + (q : Int)) - (d : Int) - 1 - (-(q : Int) - d - 28)).toNat = 153 by omega]
    have h5 : 2 ^ (23 + d) * 2 ^ q ≤ m' * 2 ^ (153 - q) * 2 ^ q := Nat.mul_le_mul_right _ hm
    rw [← Nat.pow_add, Nat.mul_assoc, ← Nat.pow_add, show 153 - q + q = 153 by omega, show 23 + d + q = 23 + (q + d) by omega] at h5
    exact h5
  obtain ⟨r, g1, g2, g3⟩ := near_ge .f32 (false ^^ false) (T := 121) (.inl (by have := b32; omega)) o22 (by have := b32; omega) (by rw [b32, i32]; decide) key
  rw [b32] at g2
  rw [g1]
  exact ⟨r, word_pos _ _, g2, g3⟩
theorem one_mul_ge {y : Nat} {r0 : Nat} (h0 : r0 ≠ 0) (h : r0 ≤ y) (hy : y < FloatKind.f32.format.infRung) : ∃ r, fmul .f32 1065353216 y = r ∧ r0 ≤ r ∧ r ≤ FloatKind.f32.format.infRung := by
  obtain ⟨M, T, hr, hv⟩ := read_pos .f32 hy
  rw [fmul_num one_read hr]
  have h1 := (rv_le FloatKind.f32.format).1 h
  rw [hv] at h1
  have key : rv FloatKind.f32.format r0 * 2 ^ (FloatKind.f32.format.leastPlace - (FloatKind.f32.format.leastPlace + (126 : Nat) + (FloatKind.f32.format.leastPlace + (T : Int)))).toNat ≤ 2 ^ 23 * M * 2 ^ (FloatKind.f32.format.leastPlace + (126 : Nat) + (FloatKind.f32.format.leastPlace + (T : Int)) - FloatKind.f32.format.leastPlace).toNat := by
    rw [l32]
    by_cases hT : T ≤ 23
    · rw [show ((-149 : Int) - (-149 + ((126 : Nat) : Int) + (-149 + (T : Int)))).toNat = 23 - T by omega, show ((-149 : Int) + ((126 : Nat) : Int) + (-149 + (T : Int)) - -149).toNat = 0 by omega, Nat.pow_zero, Nat.mul_one]
      refine Nat.le_trans (Nat.mul_le_mul_right _ h1) ?_
      rw [Nat.mul_assoc, ← Nat.pow_add, show T + (23 - T) = 23 by omega, Nat.mul_comm]
      exact Nat.le_refl _
    · rw [show ((-149 : Int) - (-149 + ((126 : Nat) : Int) + (-149 + (T : Int)))).toNat = 0 by omega, show ((-149 : Int) + ((126 : Nat) : Int) + (-149 + (T : Int)) - -149).toNat = T - 23 by omega, Nat.pow_zero, Nat.mul_one]
      refine Nat.le_trans h1 ?_
      rw [Nat.mul_comm (2 ^ 23), Nat.mul_assoc, ← Nat.pow_add, show 23 + (T - 23) = T by omega]
      exact Nat.le_refl _
  obtain ⟨r, g1, g2, g3⟩ := nearest_ge .f32 (false ^^ false) h0 (Nat.le_trans h (Nat.le_of_lt hy)) key
  rw [g1]
  exact ⟨r, word_pos _ _, g2, g3⟩
theorem narrow_bd {v a : Nat} (h : Bd .f64 (1074 + a) v) (ha : a ≤ 90) : Bd .f32 (150 + a) ((fnarrow v).getD 0) := by
  obtain ⟨s, m, q, hr, hm⟩ := h.out
  have hd : FloatKind.f64.decode v = .number s m (FloatKind.f64.format.leastPlace + q) := hr
  have hn := narrow_ok (h.mono (show 1074 + a ≤ 1174 by omega))
  have hval : (fnarrow v).getD 0 = FloatKind.f32.format.nearest s m (FloatKind.f64.format.leastPlace + q) := by
    unfold fnarrow at hn ⊢
    rw [hd] at hn ⊢
    simp only [] at hn ⊢
    split at hn
    · exact absurd rfl hn
    · rename_i h; rw [if_neg h]; rfl
  rw [hval]
  have hfb : FloatKind.f32.format.fractionBits = 23 := rfl
  by_cases h0 : m = 0
  · subst h0
    rw [near_zero]
    exact ((Bd.near (k := .f32) (n := 0) (T := 0) (top32 o22) (Nat.zero_le _) o3).1).mono (by rw [hfb]; omega)
  · have h1 := log_le h0 hm
    have h2 : m ≤ 2 ^ (m.log2 + 1) := Nat.le_of_lt Nat.lt_log2_self
    exact ((Bd.near (k := .f32) (T := 127 + a) (top32 o3) h2 (by rw [l32, l64, hfb]; omega)).1).mono (by rw [hfb]; omega)
theorem exp_bd {x : Nat} (hf : fin .f32 x = true) (hs : (FloatKind.f32.format.read x).neg = true) : Bd .f64 1074 (p_spec_l01ExpWide (fwide x)) := by
  have wf := wide_fin hf
  have wn := wide_neg (x := x) (fin_nn hf)
  rw [hs] at wn
  have z := sv_le_zero wn
  rw [p_spec_l01ExpWide_eq]
  rw [feq_self (fin_nn wf), Bool.not_true, cond_false]
  rw [flt_fin o26 wf, flt_fin wf o26]
  have e1 : sv .f64 4641240890982006784 = 200 * 2 ^ 1074 := by decide +kernel
  have e2 : sv .f64 13864612927836782592 = -200 * 2 ^ 1074 := by decide +kernel
  have hpow := pow_cast 1074
  rw [e1, e2, ← hpow]
  have hp := Nat.two_pow_pos 1074
  rw [decide_eq_false (by generalize (2 ^ 1074 : Nat) = W at *; omega), cond_false]
  by_cases hc : sv .f64 (fwide x) < -200 * ((2 ^ 1074 : Nat) : Int)
  · rw [decide_eq_true hc, cond_true]; exact bd_zero _
  · rw [decide_eq_false hc, cond_false]
    have hy : Bd .f64 (8 + 1074) (fwide x) := by
      refine ⟨wf, ?_⟩
      have e3 : (2 : Nat) ^ (8 + 1074) = 2 ^ 8 * 2 ^ 1074 := Nat.pow_add 2 8 1074
      rw [e3]
      generalize (2 ^ 1074 : Nat) = W at *
      omega
    have one : Bd .f64 1074 4607182418800017408 := ⟨by decide +kernel, by decide +kernel⟩
    have b := spec_l01ExpWide_ser hy wn (Int.toNat ((12 : Int) - 1 + 1) + 1) 4607182418800017408 12 o22 o22 one o26
    exact b
theorem nar1 {x : Nat} (h : Bd .f64 1140 x) : Bd .f32 228 ((fnarrow x).getD 0) := (narrow_bd (a := 66) (h.pow o22) o22).mono o22
theorem nar0 {x : Nat} (h : Bd .f64 1140 x) : Bd .f32 228 ((fnarrow (fsub .f64 0 x)).getD 0) := by
  have s1 := Bd.sub2 (T := 1100) (bd_zero 1140) h (top64 o22) (by rw [fb64]; decide)
  rw [fb64] at s1
  exact narrow_bd (a := 78) (s1.pow o22) o22
theorem bd_zero32 (A : Nat) : Bd .f32 A 0 := ⟨fin_zero _, by rw [sv_zero]; exact Nat.zero_le _⟩
theorem phasor_bd (t : Nat) : ∀ (μ f : Nat) (q : Int), Bd .f64 (lp .f64) f → Bd .f32 228 (p_spec_l01Phasor_l1 t μ f q).1 := by
  intro μ
  induction μ with
  | zero => intro f q _; exact bd_zero32 _
  | succ μ ih =>
    intro f q hb
    have s1 := spec_sine_bd f (lp_up1 hb)
    have s2 := spec_sine_bd (fsub .f64 4598175219545276416 f) (rest_bd1 hb)
    rw [p_spec_l01Phasor_l1_s]
    simp only [p_spec_l01Narrow_eq]
    generalize p_spec_l01SineWide f = a at *
    generalize p_spec_l01SineWide (fsub .f64 4598175219545276416 f) = b at *
    cases hc : fle .f64 4598175219545276416 f
    · simp only [cond_false]
      refine cnb (P := fun r : Nat × Nat => Bd .f32 228 r.1) (fun _ => nar0 s1) (fun _ => ?_)
      refine cnb (P := fun r : Nat × Nat => Bd .f32 228 r.1) (fun _ => nar0 s2) (fun _ => ?_)
      exact cnb (P := fun r : Nat × Nat => Bd .f32 228 r.1) (fun _ => nar1 s1) (fun _ => nar1 s2)
    · simp only [cond_true]; exact ih _ _ (qm_step hb hc).1
theorem phasor_fin_bd {t : Nat} (hf : fin .f64 t = true) : Bd .f32 228 (p_spec_l01Phasor t).1 := by
  rw [p_spec_l01Phasor_eq, fin_asked, hf]
  have one : Bd .f32 228 1065353216 := ⟨by decide +kernel, by decide +kernel⟩
  refine cnb (P := fun r : Nat × Nat => Bd .f32 228 r.1) (fun h => by cases h) (fun _ => ?_)
  refine cnb (P := fun r : Nat × Nat => Bd .f32 228 r.1) (fun _ => one) (fun h1 => ?_)
  refine cnb (P := fun r : Nat × Nat => Bd .f32 228 r.1) (fun _ => one) (fun h2 => ?_)
  have hb := wide_in (by rw [fin_asked]; exact hf) h1 h2
  exact cnb (P := fun r : Nat × Nat => Bd .f32 228 r.1) (fun h3 => phasor_bd _ _ _ _ (fract_bd1 hb h3)) (fun _ => phasor_bd _ _ _ _ (fract_bd hb))
theorem kel_fin {x : Nat} (h1 : fle .f32 1056964608 x = true) (h2 : fle .f32 x 1098907648 = true) {k : Int} (hk : (k - kR x).natAbs ≤ 2000) : fin .f32 (kel x k).1 = true := by
  obtain ⟨hb, hge⟩ := scale_bd h1 h2
  have hB : 2 ^ 148 ≤ (sv .f32 x).natAbs := by omega
  have hfb : FloatKind.f32.format.fractionBits = 23 := rfl
  have hlp : lp .f32 = 149 := rfl
  have hbin : (k - kR x).natAbs < 2 * FloatKind.f32.format.binade := by have := b32; omega
  obtain ⟨n1, n2⟩ := int_exact .f32 hbin
  have hn : Bd .f32 160 (FloatKind.nearest .f32 (k - kR x)) := by
    refine ⟨n1, ?_⟩
    rw [n2, hlp, Int.natAbs_mul, pow_abs 149, show (160 : Nat) = 11 + 149 by decide, Nat.pow_add]
    exact Nat.mul_le_mul_right _ o3
  have hu := (Bd.div (T := 138) hn hb.1 hB (top32 o22) (by rw [hfb, hlp]; decide)).1
  rw [hfb] at hu
  have hc : Bd .f32 148 3204448256 := ⟨by decide +kernel, by decide +kernel⟩
  unfold kel
  generalize fdiv .f32 (FloatKind.nearest .f32 (k - kR x)) x = u at *
  have m1 := (Bd.mul (T := 137) hc hu (top32 o22) (by rw [hfb, hlp]; decide)).1
  rw [hfb] at m1
  have m2 := (Bd.mul (T := 149) m1 hu (top32 o22) (by rw [hfb, hlp]; decide)).1
  have hneg : (FloatKind.f32.format.read (fmul .f32 (fmul .f32 3204448256 u) u)).neg = true := by
    rcases sq_neg (c := 3204448256) (u := u) o26 with h | h
    · rw [fin_nn m2.1] at h; cases h
    · exact h
  have he : Bd .f32 150 (p_spec_l01Exp (fmul .f32 (fmul .f32 3204448256 u) u)) := by
    rw [p_spec_l01Exp_eq, p_spec_l01Narrow_eq]
    exact narrow_bd (a := 0) (exp_bd m2.1 hneg) o22
  have hw := (Bd.div (T := 128) he hb.1 hB (top32 o22) (by rw [hfb, hlp]; decide)).1
  rw [hfb] at hw
  have hp := phasor_fin_bd (wide_fin hu.1)
  exact (Bd.mul (T := 210) hp hw (top32 o22) (by rw [hfb, hlp]; decide)).1.1
/-- The numbers of an atom before they are divided. -/
def winAt (p : Int) (s : Nat) (i : Nat) : Nat := bif p_spec_l00In ((i : Int) - p + Int.tdiv ((p_spec_l03Kernel s).length : Int) 2) 0 (((p_spec_l03Kernel s).length : Int) - 1) then ((p_spec_l03Kernel s).getD ((i : Int) - p + Int.tdiv ((p_spec_l03Kernel s).length : Int) 2).toNat (0, 0)).1 else 0
def win (c p : Int) (s : Nat) : List Nat := (List.range c.toNat).map (winAt p s)
theorem of_win_go (c p : Int) (s z : Nat) : ∀ (μ : Nat) (m : Nat), (m : Int) ≤ c → (c - m).toNat < μ → p_spec_l05Of_l1 c p s z μ ((List.range m).map (winAt p s)) (m : Int) =
    p_spec_l05Of_l2 c p s z (win c p s) c (fun (t54 : Int) (y2_1 : List Nat) => y2_1) (Int.toNat (((win c p s).length : Int) - (0 : Int)) + 1) (0 : Int) (win c p s) := by
  intro μ
  induction μ with
  | zero => intro m h0 h; omega
  | succ μ ih =>
    intro m h0 h
    rw [p_spec_l05Of_l1_s]
    by_cases hm : (m : Int) < c
    · rw [decide_eq_true hm, cond_true]
      have := ih (m + 1) o3 o3
      rw [List.range_succ, List.map_append] at this
      have hw : ∀ b : Bool, ∀ X : Nat, (bif b then p_spec_l05Of_l1 c p s z μ ((List.range m).map (winAt p s) ++ [X]) ((m : Int) + 1) else p_spec_l05Of_l1 c p s z μ ((List.range m).map (winAt p s) ++ [0]) ((m : Int) + 1)) = p_spec_l05Of_l1 c p s z μ ((List.range m).map (winAt p s) ++ [bif b then X else 0]) ((m : Int) + 1) := by
        intro b X; cases b <;> rfl
      rw [hw]
      exact this
    · have : c = (m : Int) := by omega
      subst this
      rw [decide_eq_false hm, cond_false]
      rfl
theorem of_map_go (c p : Int) (s z : Nat) (A : List Nat) (t : Int) : ∀ (μ i : Nat), i ≤ A.length → A.length - i < μ →
    p_spec_l05Of_l2 c p s z A t (fun (t54 : Int) (y2_1 : List Nat) => y2_1) μ (i : Int) ((A.take i).map (fun a => fmul .f32 (fdiv .f32 a (p_spec_l01Sqrt (p_spec_l03Energy A))) z) ++ A.drop i) = A.map (fun a => fmul .f32 (fdiv .f32 a (p_spec_l01Sqrt (p_spec_l03Energy A))) z) := by
  intro μ
  generalize hg : (fun a => fmul .f32 (fdiv .f32 a (p_spec_l01Sqrt (p_spec_l03Energy A))) z) = g
  induction μ with
  | zero => intro i h0 h; omega
  | succ μ ih =>
    intro i h0 h
    rw [p_spec_l05Of_l2_s]
    by_cases hi : (i : Int) < (A.length : Int)
    · have hi' : i < A.length := by omega
      have := ih (i + 1) o3 o3
      rw [decide_eq_true hi, cond_true, Int.toNat_natCast]
      have hl : ((A.take i).map g).length = i := by rw [List.length_map, List.length_take]; omega
      have e1 : ((A.take i).map g ++ A.drop i).getD i 0 = A[i] := by
        rw [List.getD_eq_getElem?_getD, List.getElem?_append_right o3, hl, Nat.sub_self, List.drop_eq_getElem_cons hi']; rfl
      rw [e1, List.set_append_right _ _ o3, hl, Nat.sub_self, List.drop_eq_getElem_cons hi', List.set_cons_zero, show fmul .f32 (fdiv .f32 A[i] (p_spec_l01Sqrt (p_spec_l03Energy A))) z = g A[i] by rw [← hg]]
      rw [← List.take_append_getElem hi', List.map_append, List.append_assoc] at this
      exact this
    · have : i = A.length := by omega
      subst this
      rw [decide_eq_false hi, cond_false, List.take_length, List.drop_length, List.append_nil]
theorem of_val (c p : Int) (s z : Nat) (h : 0 ≤ c) : p_spec_l05Of c p s z = (win c p s).map (fun a => fmul .f32 (fdiv .f32 a (p_spec_l01Sqrt (p_spec_l03Energy (win c p s)))) z) := by
  rw [p_spec_l05Of_eq]
  have a := of_win_go c p s z (Int.toNat (c - (0 : Int)) + 1) 0 o3 o3
  have b := of_map_go c p s z (win c p s) c (Int.toNat (((win c p s).length : Int) - (0 : Int)) + 1) 0 (Nat.zero_le _) o3
  exact a.trans b
theorem kR_hi {x : Nat} (h1 : fle .f32 1056964608 x = true) (h2 : fle .f32 x 1098907648 = true) : kR x ≤ 256 :=
  (rad_le (x := x) (by rw [h1]; exact h2)).2
theorem win_mid {s : Nat} (h1 : fle .f32 1056964608 s = true) (h2 : fle .f32 s 1098907648 = true) : Int.tdiv ((p_spec_l03Kernel s).length : Int) 2 = kR s ∧ ((p_spec_l03Kernel s).length : Int) = 2 * kR s + 1 := by
  have h := kR_nn h1 h2
  have hl := (kernel_same s).2
  have e : ((p_spec_l03Kernel s).length : Int) = 2 * kR s + 1 := by omega
  exact ⟨by rw [e, Int.tdiv_eq_ediv_of_nonneg o3]; omega, e⟩
theorem winAt_in {s : Nat} (h1 : fle .f32 1056964608 s = true) (h2 : fle .f32 s 1098907648 = true) (p : Int) (i : Nat) : winAt p s i = 0 ∨ ∃ k : Int, 0 ≤ k ∧ k ≤ 2 * kR s ∧ winAt p s i = (kel s k).1 := by
  obtain ⟨e1, e2⟩ := win_mid h1 h2
  unfold winAt
  rw [e1, e2]
  cases hc : p_spec_l00In ((i : Int) - p + kR s) 0 (2 * kR s + 1 - 1)
  · exact .inl rfl
  · have : 0 ≤ (i : Int) - p + kR s ∧ (i : Int) - p + kR s ≤ 2 * kR s + 1 - 1 := by
      unfold p_spec_l00In at hc
      simp at hc; omega
    refine .inr ⟨(i : Int) - p + kR s, this.1, by omega, ?_⟩
    have hk := kernel_at s ((i : Int) - p + kR s).toNat o3
    rw [cond_true, List.getD_eq_getElem?_getD, hk, show ((((i : Int) - p + kR s).toNat : Nat) : Int) = (i : Int) - p + kR s by omega]; rfl
theorem win_fin {s : Nat} (h1 : fle .f32 1056964608 s = true) (h2 : fle .f32 s 1098907648 = true) (c p : Int) : (win c p s).all (fin .f32) = true := by
  rw [List.all_eq_true]
  intro a ha
  obtain ⟨i, -, rfl⟩ := List.mem_map.1 ha
  have h0 := kR_nn h1 h2
  have h3 := kR_hi h1 h2
  rcases winAt_in h1 h2 p i with h | ⟨k, k0, k1, h⟩
  · rw [h]; exact fin_zero _
  · rw [h]; exact kel_fin h1 h2 o3
theorem win_center {s : Nat} (h1 : fle .f32 1056964608 s = true) (h2 : fle .f32 s 1098907648 = true) {c p : Int} (h0 : 0 ≤ p) (hp : p < c) : (kel s (kR s)).1 ∈ win c p s := by
  refine List.mem_map.2 ⟨p.toNat, List.mem_range.2 o3, ?_⟩
  obtain ⟨e1, e2⟩ := win_mid h1 h2
  have hR := kR_nn h1 h2
  unfold winAt
  rw [e1, e2]
  have hin : p_spec_l00In ((p.toNat : Int) - p + kR s) 0 (2 * kR s + 1 - 1) = true := by
    unfold p_spec_l00In
    rw [decide_eq_true o3, cond_true]; exact decide_eq_true o3
  have hk := kernel_at s (kR s).toNat o3
  rw [hin, cond_true, show ((p.toNat : Int) - p + kR s).toNat = (kR s).toNat by omega, List.getD_eq_getElem?_getD, hk, show (((kR s).toNat : Nat) : Int) = kR s by omega]; rfl
theorem center_read {s : Nat} (h1 : fle .f32 1056964608 s = true) (h2 : fle .f32 s 1098907648 = true) : ∃ M T : Nat, FloatKind.f32.format.read (kel s (kR s)).1 = .number false M (FloatKind.f32.format.leastPlace + T) ∧ 2 ^ 23 ≤ M ∧ 64 ≤ T := by
  obtain ⟨hb, hge⟩ := scale_bd h1 h2
  obtain ⟨g, n, q, hr, hm⟩ := hb.out
  have hg : g = false := by
    cases g
    · rfl
    · have := sv_le_zero (k := .f32) (x := s) (by rw [hr]; rfl)
      have := Nat.two_pow_pos 148
      omega
  subst hg
  have hn : n ≠ 0 := by
    rintro rfl
    have := (sv_mag hr).2 rfl
    have := Nat.two_pow_pos 148
    omega
  have hf := kel_fin h1 h2 (k := kR s) o3
  rw [kel_center hr hn] at hf ⊢
  obtain ⟨r, e1, e2, e3⟩ := inv_ge hr hn hm
  rw [e1] at hf ⊢
  have hr2 := (fin_of_mul hf).2
  have hlt : r < FloatKind.f32.format.infRung := by
    apply Classical.byContradiction
    intro hc
    have : r = FloatKind.f32.format.infRung := by omega
    rw [this, fin_inf read_inf32] at hr2; cases hr2
  obtain ⟨w, f1, f2, f3⟩ := one_mul_ge o22 e2 hlt
  rw [f1] at hf ⊢
  have wlt : w < FloatKind.f32.format.infRung := by
    apply Classical.byContradiction
    intro hc
    have : w = FloatKind.f32.format.infRung := by omega
    rw [this, fin_inf read_inf32] at hf; cases hf
  obtain ⟨M, T, w1, w2⟩ := read_pos .f32 wlt
  obtain ⟨T', u1, u2, u3, -⟩ := read_rung w1
  obtain rfl : T = T' := by omega
  have hv := (rv_le FloatKind.f32.format).1 f2
  rw [w2, ← b32, rv_shape _ (.inl (Nat.le_refl _)) (by have := b32; omega), b32] at hv
  rw [b32] at u2 u3
  have hT : 64 ≤ T := by
    apply Classical.byContradiction
    intro hc
    have a : 2 ^ T ≤ 2 ^ 63 := Nat.pow_le_pow_right o22 o3
    have b : M * 2 ^ T ≤ (2 * 2 ^ 23) * 2 ^ 63 := Nat.mul_le_mul o3 a
    have c : (2 * 2 ^ 23) * 2 ^ 63 < 2 ^ 23 * 2 ^ 121 := by decide
    omega
  refine ⟨M, T, w1, ?_, hT⟩
  rcases u2 with u2 | u2
  · exact u2
  · omega
theorem of_small {s : Nat} (h : okS s) {c p : Int} (h0 : 0 ≤ p) (hp : p < c) {a : Nat} (ha : a ∈ p_spec_l05Of c p s 1065353216) {y : Nat} (hy : fin .f32 y = true) : fin .f32 (fmul .f32 a y) = true := by
  have h1 : fle .f32 1056964608 s = true := by
    unfold okS at h
    cases hc : fle .f32 1056964608 s
    · rw [hc] at h; cases h
    · rfl
  have h2 : fle .f32 s 1098907648 = true := by unfold okS at h; rw [h1] at h; exact h
  rw [of_val _ _ _ _ o3] at ha
  obtain ⟨b, hb, rfl⟩ := List.mem_map.1 ha
  obtain ⟨M, T, e1, e2, e3⟩ := center_read h1 h2
  have hR : p_spec_l01Sqrt (p_spec_l03Energy (win c p s)) = (fnarrow (fsqrt .f64 (fwide ((win c p s).foldl sqs2 0)))).getD 0 := by
    rw [energy_fold]; rfl
  obtain ⟨s', r, g1, g2⟩ := over_root (win_fin h1 h2 c p) (win_center h1 h2 h0 hp) e1 e2 e3 hR hb
  rw [g1]
  have one : fin .f32 1065353216 = true := by decide +kernel
  obtain ⟨s2, r2, k1, k2⟩ := (small_fin (s := s') g2 one).2 rfl
  rw [k1]
  exact (small_fin k2 hy).1
def dg (x l : List Nat) : Nat → Nat → Int → Nat
  | 0, q, _ => q
  | μ + 1, q, t => bif decide (t < (x.length : Int)) then dg x l μ (fadd .f32 q (fmul .f32 (x.getD t.toNat 0) (l.getD t.toNat 0))) (t + 1) else q
theorem dg_good {x l : List Nat} (hx : ∀ a ∈ x, ∀ i : Nat, fin .f32 (fmul .f32 a (l.getD i 0)) = true) : ∀ (μ q : Nat) (t : Int), 0 ≤ t → Wd .f32 q → nn .f32 q → Wd .f32 (dg x l μ q t) ∧ nn .f32 (dg x l μ q t) := by
  intro μ
  induction μ with
  | zero => intro q t h0 h1 h2; exact ⟨h1, h2⟩
  | succ μ ih =>
    intro q t h0 h1 h2
    unfold dg
    by_cases ht : t < (x.length : Int)
    · rw [decide_eq_true ht, cond_true]
      have ht' : t.toNat < x.length := by omega
      refine ih _ _ o3 (Wd.add _ _ _) (nn_add_fin h2 ?_)
      rw [List.getD_eq_getElem?_getD (l := x), List.getElem?_eq_getElem ht']
      exact hx _ (List.getElem_mem _) _
    · rw [decide_eq_false ht, cond_false]; exact ⟨h1, h2⟩
theorem impl_l3_val (l sc : List Nat) (t6 fo : Bool) (t35 : Int) (a : Int) (b c : Nat) (d : Int) (e f : Nat) (f8 : Bool) (t50 g : Int) (h i : Nat) (K : Nat → Int → Int → Nat → Nat → (Int × Nat × Nat × (List Nat) × Bool)) (x : List Nat)
    (hx : p_impl_atomBy (p_impl_realKernel (sc.getD t35.toNat 0)).1 (p_impl_realKernel (sc.getD t35.toNat 0)).2 (l.length : Int) t50 1065353216 = x) (y1 : Int) (y2 y3 : Nat) : ∀ (μ q : Nat) (t : Int), 0 ≤ t → t ≤ (x.length : Int) → ((x.length : Int) - t).toNat < μ →
    p_impl_PursueOnce_l3 l sc t6 fo t35 a b c d e f f8 t50 g h i K μ q t y1 y2 y3 = K (dg x l μ q t) (x.length : Int) y1 y2 y3 := by
  intro μ
  induction μ with
  | zero => intro q t h0 h1 h2; omega
  | succ μ ih =>
    intro q t h0 h1 h2
    rw [p_impl_PursueOnce_l3_s, hx]
    unfold dg
    by_cases ht : t < (x.length : Int)
    · rw [decide_eq_true ht, cond_true, cond_true]; exact ih _ _ o3 o3 o3
    · rw [decide_eq_false ht, cond_false, cond_false, show t = (x.length : Int) by omega]
theorem spec_l3_val (l sc : List Nat) (t6 fo : Bool) (t35 : Int) (a : Int) (b c : Nat) (d : Int) (e f : Nat) (t7 f8 : Bool) (t50 g : Int) (h i : Nat) (j : Int) (m n : Nat) (K : Nat → Int → Int → Nat → Nat → Int → Nat → Nat → (Int × Nat × Nat × (List Nat) × Bool)) (x : List Nat)
    (hx : p_spec_l05Of (l.length : Int) t50 (sc.getD t35.toNat 0) 1065353216 = x) (y1 : Int) (y2 y3 : Nat) (y4 : Int) (y5 y6 : Nat) : ∀ (μ q : Nat) (t : Int), 0 ≤ t → t ≤ (x.length : Int) → ((x.length : Int) - t).toNat < μ →
    p_spec_l05Pursue_l3 l sc t6 fo t35 a b c d e f t7 f8 t50 g h i j m n K μ q t y1 y2 y3 y4 y5 y6 = K (dg x l μ q t) (x.length : Int) y1 y2 y3 y4 y5 y6 := by
  intro μ
  induction μ with
  | zero => intro q t h0 h1 h2; omega
  | succ μ ih =>
    intro q t h0 h1 h2
    rw [p_spec_l05Pursue_l3_s, hx]
    unfold dg
    by_cases ht : t < (x.length : Int)
    · rw [decide_eq_true ht, cond_true, cond_true]; exact ih _ _ o3 o3 o3
    · rw [decide_eq_false ht, cond_false, cond_false, show t = (x.length : Int) by omega]
/-- Infinite: no size is above it. -/
def InfW (e : Nat) : Prop := fin .f32 e = false ∧ ∀ x, flt .f32 (p_impl_size e) x = false
theorem inf_w {e : Nat} (h1 : Wd .f32 e) (h2 : nn .f32 e) (h3 : fin .f32 e = false) : InfW e ∧ p_impl_size e = FloatKind.f32.format.word false FloatKind.f32.format.infRung := by
  have hs : p_impl_size e = FloatKind.f32.format.word false FloatKind.f32.format.infRung := by
    rcases h1.cases with h | h | h | h
    · rw [h] at h3; cases h3
    · rw [h]; decide +kernel
    · rw [h]; decide +kernel
    · unfold nn at h2; rw [h] at h2
      have : (FloatKind.f32.format.read (qnan .f32)).isNaN = true := by decide +kernel
      rw [this] at h2; cases h2
  exact ⟨⟨h3, fun x => by rw [hs]; exact inf_flt _ _⟩, hs⟩
theorem size_fin {x : Nat} (h : fin .f32 x = true) : fin .f32 (p_impl_size x) = true := by
  rw [p_impl_size_eq]
  cases flt .f32 x 0
  · cases feq .f32 x 0
    · exact h
    · exact fin_zero _
  · exact fin_neg h
theorem impl_l3_F (l sc : List Nat) (t6 fo : Bool) (t35 : Int) (a : Int) (b c : Nat) (d : Int) (e f : Nat) (f8 : Bool) (t50 g : Int) (h i : Nat) (K : Nat → Int → Int → Nat → Nat → (Int × Nat × Nat × (List Nat) × Bool)) (y1 : Int) (y2 y3 : Nat) (hK : ∀ q t, K q t y1 y2 y3 = (0, 0, 0, [], false)) : ∀ (μ q : Nat) (t : Int),
    p_impl_PursueOnce_l3 l sc t6 fo t35 a b c d e f f8 t50 g h i K μ q t y1 y2 y3 = (0, 0, 0, [], false) := by
  intro μ
  induction μ with
  | zero => intro q t; rfl
  | succ μ ih =>
    intro q t
    rw [p_impl_PursueOnce_l3_s, ih, hK]
    cases decide (t < _) <;> rfl
theorem impl_l2_inf (l sc : List Nat) (t6 fo : Bool) (t35 : Int) (a : Int) (b c : Nat) (d : Int) (e f : Nat) (K : Bool → Int → Int → Nat → Nat → (Int × Nat × Nat × (List Nat) × Bool)) (hK : ∀ i x y z, InfW z → K true i x y z = (0, 0, 0, [], false)) : ∀ (μ : Nat) (i x : Int) (y z : Nat), InfW z →
    p_impl_PursueOnce_l2 l sc t6 fo t35 a b c d e f K μ true i x y z = (0, 0, 0, [], false) := by
  intro μ
  induction μ with
  | zero => intro i x y z hz; rfl
  | succ μ ih =>
    intro i x y z hz
    rw [p_impl_PursueOnce_l2_s, hK _ _ _ _ hz, impl_l3_F _ _ _ _ _ _ _ _ _ _ _ _ _ _ _ _ _ _ _ _ ?_]
    · cases decide (i < _) <;> rfl
    · intro q t
      rw [hz.2]
      simp only [Bool.not_true, cond_false]
      exact ih _ _ _ _ hz
theorem impl_l2_F (l sc : List Nat) (t6 fo : Bool) (t35 : Int) (a : Int) (b c : Nat) (d : Int) (e f : Nat) (K : Bool → Int → Int → Nat → Nat → (Int × Nat × Nat × (List Nat) × Bool)) (hK : ∀ g i x y z, K g i x y z = (0, 0, 0, [], false)) : ∀ (μ : Nat) (g : Bool) (i x : Int) (y z : Nat),
    p_impl_PursueOnce_l2 l sc t6 fo t35 a b c d e f K μ g i x y z = (0, 0, 0, [], false) := by
  intro μ
  induction μ with
  | zero => intro g i x y z; rfl
  | succ μ ih =>
    intro g i x y z
    rw [p_impl_PursueOnce_l2_s, hK, impl_l3_F _ _ _ _ _ _ _ _ _ _ _ _ _ _ _ _ _ _ _ _ ?_]
    · cases decide (i < _) <;> rfl
    · intro q t
      simp only [ih]
      cases (!g)
      · cases flt .f32 (p_impl_size z) (p_impl_size q) <;> rfl
      · rfl
theorem atom_fin (c p : Int) (s z : Nat) (h : fin .f32 z = false) : (p_impl_AtomList c p s z).2 = false := by
  rw [p_impl_AtomList_eq, impl_fin, h]
  cases p_impl_within c 1 128
  · rfl
  · cases p_impl_within p 0 (c - 1)
    · rfl
    · cases p_impl_isScale s <;> rfl
theorem impl_l1_inf (l sc : List Nat) : ∀ (μ : Nat) (t6 : Bool) (t a : Int) (b c : Nat) (d : Int) (e f : Nat), InfW f → p_impl_PursueOnce_l1 l sc μ t6 true t a b c d e f = (0, 0, 0, [], false) := by
  intro μ
  induction μ with
  | zero => intro t6 t a b c d e f h; rfl
  | succ μ ih =>
    intro t6 t a b c d e f h
    rw [p_impl_PursueOnce_l1_s, atom_fin _ _ _ _ h.1]
    rw [impl_l2_inf _ _ _ _ _ _ _ _ _ _ _ _ (fun i x y z hz => ih _ _ _ _ _ _ _ _ hz) _ _ _ _ _ h]
    cases decide (t < (sc.length : Int))
    · rfl
    · cases (p_impl_isScale (sc.getD t.toNat 0)) <;> rfl
theorem impl_l1_bad (l sc : List Nat) : ∀ (μ : Nat) (t6 fo : Bool) (t a : Int) (b c : Nat) (d : Int) (e f : Nat), 0 ≤ t → (∃ j : Int, t ≤ j ∧ j < (sc.length : Int) ∧ p_impl_isScale (sc.getD j.toNat 0) = false) → p_impl_PursueOnce_l1 l sc μ t6 fo t a b c d e f = (0, 0, 0, [], false) := by
  intro μ
  induction μ with
  | zero => intro t6 fo t a b c d e f h0 h; rfl
  | succ μ ih =>
    intro t6 fo t a b c d e f h0 h
    obtain ⟨j, j0, j1, j2⟩ := h
    rw [p_impl_PursueOnce_l1_s, decide_eq_true (show t < (sc.length : Int) by omega), cond_true]
    by_cases e1 : t = j
    · subst e1; rw [j2]; rfl
    · rw [impl_l2_F _ _ _ _ _ _ _ _ _ _ _ _ (fun g i x y z => ih _ _ _ _ _ _ _ _ _ o3 ⟨j, by omega, j1, j2⟩) _ _ _ _ _ _]
      cases (p_impl_isScale (sc.getD t.toNat 0)) <;> rfl
theorem scales_bad (l : List Nat) (t2 : Bool) : ∀ (μ : Nat) (i : Int), 0 ≤ i → ((l.length : Int) - i).toNat < μ → p_spec_l05Scales_l1 l μ t2 i = false → ∃ j : Int, i ≤ j ∧ j < (l.length : Int) ∧ p_impl_isScale (l.getD j.toNat 0) = false := by
  intro μ
  induction μ with
  | zero => intro i h0 h; omega
  | succ μ ih =>
    intro i h0 hm h
    rw [p_spec_l05Scales_l1_s] at h
    by_cases hi : i < (l.length : Int)
    · rw [decide_eq_true hi, cond_true] at h
      cases hc : p_spec_l03Scale (l.getD i.toNat 0)
      · exact ⟨i, by omega, hi, hc⟩
      · rw [hc] at h
        simp only [Bool.not_true, cond_false] at h
        obtain ⟨j, j0, j1, j2⟩ := ih _ o3 o3 h
        exact ⟨j, by omega, j1, j2⟩
    · rw [decide_eq_false hi, cond_false] at h; cases h
/-- What holds of the best atom so far. -/
def Bst (z : Prop) (n : Nat) (fo : Bool) (d : Int) (e f : Nat) : Prop := PI z fo d n e ∧ Wd .f32 f ∧ fin .f32 f = true
theorem l2_same (l sc : List Nat) (hl : l.all (fin .f32) = true) (hn : 1 ≤ l.length) (z : Prop) (t6 fo : Bool) (t : Int) (ok : okS (sc.getD t.toNat 0)) (a : Int) (b c : Nat) (d : Int) (e f : Nat) (t6' fo' : Bool) (a' : Int) (b' c' : Nat) (d' : Int) (e' f' : Nat)
    (K : Bool → Int → Int → Nat → Nat → (Int × Nat × Nat × (List Nat) × Bool)) (K' : Bool → Bool → Int → Int → Nat → Nat → Int → Nat → Nat → (Int × Nat × Nat × (List Nat) × Bool))
    (hI : ∀ i x y z, InfW z → K true i x y z = (0, 0, 0, [], false))
    (hK : ∀ (g h : Bool) (n m u : Int) (v w : Nat) (x : Int) (y r : Nat), Bst False l.length g x y r → K g n x y r = K' h g m u v w x y r) :
    ∀ (μ : Nat) (h g : Bool) (i u : Int) (v w : Nat) (x : Int) (y r : Nat), 0 ≤ i → ((l.length : Int) - i).toNat < μ → Bst (z ∧ i = 0) l.length g x y r →
      p_impl_PursueOnce_l2 l sc t6 fo t a b c d e f K μ g i x y r = p_spec_l05Pursue_l2 l sc t6' fo' t a' b' c' d' e' f' K' μ h g i u v w x y r := by
  intro μ
  induction μ with
  | zero => intro h g i u v w x y r h0 hm; omega
  | succ μ ih =>
    intro h g i u v w x y r h0 hm hb
    rw [p_impl_PursueOnce_l2_s, p_spec_l05Pursue_l2_s]
    by_cases hi : i < (l.length : Int)
    · rw [decide_eq_true hi, cond_true, cond_true]
      generalize hs : sc.getD t.toNat 0 = s at *
      have hx := atomBy_same (l.length : Int) i s 1065353216 o3
      generalize hX : p_spec_l05Of (l.length : Int) i s 1065353216 = X at *
      rw [hx]
      rw [← hs] at hx hX
      rw [impl_l3_val _ _ _ _ _ _ _ _ _ _ _ _ _ _ _ _ _ X hx _ _ _ _ _ _ o22 o3 o3, spec_l3_val _ _ _ _ _ _ _ _ _ _ _ _ _ _ _ _ _ _ _ _ _ X hX _ _ _ _ _ _ _ _ _ o22 o3 o3]
      rw [hs] at hX
      obtain ⟨q1, q2⟩ := dg_good (x := X) (l := l) (fun a ha i' => of_small (s := s) ok (c := (l.length : Int)) (p := i) h0 hi (hX ▸ ha) (fin_getD hl i')) (Int.toNat ((X.length : Int) - (0 : Int)) + 1) 0 0 o22 ⟨by decide, by decide +kernel⟩ (nn_fin (fin_zero _))
      generalize dg X l (Int.toNat ((X.length : Int) - (0 : Int)) + 1) 0 0 = q at *
      have hz : p_spec_l03Size q = p_impl_size q := (size_two q1).symm
      have hz2 : p_spec_l03Size r = p_impl_size r := (size_two hb.2.1).symm
      show (bif !g then _ else (bif flt .f32 (p_impl_size r) (p_impl_size q) then _ else _)) = (bif !(p_spec_l01Finite q) then (0, 0, 0, [], false) else (bif !g then _ else (bif flt .f32 (p_spec_l03Size r) (p_spec_l03Size q) then _ else _)))
      rw [hz, hz2, spec_fin]
      cases hf : fin .f32 q
      · obtain ⟨i1, i2⟩ := inf_w q1 q2 hf
        have hlt : flt .f32 (p_impl_size r) (p_impl_size q) = true := by rw [i2]; exact flt_inf (size_fin hb.2.2)
        rw [hlt, impl_l2_inf _ _ _ _ _ _ _ _ _ _ _ _ hI _ _ _ _ _ i1]
        cases g <;> rfl
      · have new : Bst (z ∧ i + 1 = 0) l.length true i s q := ⟨.inr ⟨rfl, h0, hi, ok⟩, q1, hf⟩
        have e1 := ih h true (i + 1) u v w i s q o3 o3 new
        rw [e1]
        cases g
        · rfl
        · have old : Bst (z ∧ i + 1 = 0) l.length true x y r := ⟨hb.1.keep rfl, hb.2⟩
          rw [ih h true (i + 1) u v w x y r o3 o3 old]
          rfl
    · rw [decide_eq_false hi, cond_false, cond_false]
      exact hK _ _ _ _ _ _ _ _ _ _ ⟨hb.1.into (fun h => by omega), hb.2⟩
def dl (l x : List Nat) : Nat → Int → List Nat
  | 0, _ => []
  | μ + 1, t => bif decide (t < (l.length : Int)) then fsub .f32 (l.getD t.toNat 0) (x.getD t.toNat 0) :: dl l x μ (t + 1) else []
theorem dl_fin (l x : List Nat) : ∀ (μ : Nat) (t : Int), 0 ≤ t → ((l.length : Int) - t).toNat < μ → (dl l x μ t).all (fin .f32) = true → ∀ j : Int, t ≤ j → j < (l.length : Int) → fin .f32 (x.getD j.toNat 0) = true := by
  intro μ
  induction μ with
  | zero => intro t h0 h; omega
  | succ μ ih =>
    intro t h0 hm h j j0 j1
    unfold dl at h
    rw [decide_eq_true (show t < (l.length : Int) by omega), cond_true, List.all_cons, Bool.and_eq_true] at h
    by_cases e1 : j = t
    · subst e1; exact (fin_of_sub h.1).2
    · exact ih (t + 1) o3 o3 h.2 j o3 j1
theorem impl_l4_val (l sc : List Nat) (t6 fo : Bool) (t35 : Int) (a : Int) (b c : Nat) (d : Int) (e f : Nat) (K : List Nat → Int → Int → Nat → Nat → (Int × Nat × Nat × (List Nat) × Bool)) (x : List Nat)
    (hx : (p_impl_AtomList (l.length : Int) d e f).1 = x) (y1 : Int) (y2 y3 : Nat) : ∀ (μ : Nat) (o : List Nat) (t : Int), 0 ≤ t → t ≤ (l.length : Int) → ((l.length : Int) - t).toNat < μ →
    p_impl_PursueOnce_l4 l sc t6 fo t35 a b c d e f K μ o t y1 y2 y3 = K (o ++ dl l x μ t) (l.length : Int) y1 y2 y3 := by
  intro μ
  induction μ with
  | zero => intro o t h0 h1 h2; omega
  | succ μ ih =>
    intro o t h0 h1 h2
    rw [p_impl_PursueOnce_l4_s, hx]
    unfold dl
    by_cases ht : t < (l.length : Int)
    · rw [decide_eq_true ht, cond_true, cond_true, ih _ _ o3 o3 o3, List.append_assoc]; rfl
    · rw [decide_eq_false ht, cond_false, cond_false, List.append_nil, show t = (l.length : Int) by omega]
theorem spec_l4_val (l sc : List Nat) (t6 fo : Bool) (t35 : Int) (a : Int) (b c : Nat) (d : Int) (e f : Nat) (K : List Nat → Int → Int → Nat → Nat → (Int × Nat × Nat × (List Nat) × Bool)) (x : List Nat)
    (hx : p_spec_l05Of (l.length : Int) d e f = x) (y1 : Int) (y2 y3 : Nat) : ∀ (μ : Nat) (o : List Nat) (t : Int), 0 ≤ t → t ≤ (l.length : Int) → ((l.length : Int) - t).toNat < μ →
    p_spec_l05Pursue_l4 l sc t6 fo t35 a b c d e f K μ o t y1 y2 y3 = K (o ++ dl l x μ t) (l.length : Int) y1 y2 y3 := by
  intro μ
  induction μ with
  | zero => intro o t h0 h1 h2; omega
  | succ μ ih =>
    intro o t h0 h1 h2
    rw [p_spec_l05Pursue_l4_s, hx]
    unfold dl
    by_cases ht : t < (l.length : Int)
    · rw [decide_eq_true ht, cond_true, cond_true, ih _ _ o3 o3 o3, List.append_assoc]; rfl
    · rw [decide_eq_false ht, cond_false, cond_false, List.append_nil, show t = (l.length : Int) by omega]
theorem atomList_val {n : Int} {d : Int} {e f : Nat} (h0 : 1 ≤ n) (h1 : n ≤ 128) (d0 : 0 ≤ d) (d1 : d < n) (ok : okS e) (hf : fin .f32 f = true) :
    p_impl_AtomList n d e f = bif (p_spec_l05Of n d e f).all (fin .f32) then (p_spec_l05Of n d e f, true) else ([], false) := by
  rw [p_impl_AtomList_eq, impl_fin, hf, atomBy_same _ _ _ _ o3, p_impl_finiteList_eq, finite_same, l02Finite_all]
  have w1 : p_impl_within n 1 128 = true := by
    unfold p_impl_within; rw [decide_eq_true o3, cond_true]; exact decide_eq_true o3
  have w2 : p_impl_within d 0 (n - 1) = true := by
    unfold p_impl_within; rw [decide_eq_true o3, cond_true]; exact decide_eq_true o3
  have w3 : p_impl_isScale e = true := ok
  rw [w1, w2, w3]
  simp only [Bool.not_true, cond_false]
  cases (p_spec_l05Of n d e f).all (fin .f32) <;> rfl
theorem l1_same (l sc : List Nat) (hl : l.all (fin .f32) = true) (hn : 1 ≤ l.length) (hn2 : l.length ≤ 128) (hs : ∀ y ∈ sc, okS y) (hs0 : 1 ≤ sc.length) : ∀ (μ : Nat) (t6 t6' g : Bool) (t a : Int) (b c : Nat) (a' : Int) (b' c' : Nat) (d : Int) (e f : Nat), 0 ≤ t → t ≤ (sc.length : Int) → ((sc.length : Int) - t).toNat < μ → Bst (t = 0) l.length g d e f →
    p_impl_PursueOnce_l1 l sc μ t6 g t a b c d e f = p_spec_l05Pursue_l1 l sc μ t6' g t a' b' c' d e f := by
  intro μ
  induction μ with
  | zero => intro t6 t6' g t a b c a' b' c' d e f h0 h1 hm; omega
  | succ μ ih =>
    intro t6 t6' g t a b c a' b' c' d e f h0 h1 hm hb
    rw [p_impl_PursueOnce_l1_s, p_spec_l05Pursue_l1_s]
    by_cases ht : t < (sc.length : Int)
    · have ok := scale_at hs h0 ht
      rw [decide_eq_true ht, cond_true, cond_true, show p_impl_isScale (sc.getD t.toNat 0) = true from ok, Bool.not_true, cond_false]
      refine l2_same l sc hl hn (t = 0) _ _ _ ok _ _ _ _ _ _ _ _ _ _ _ _ _ _ _ _ ?_ ?_ _ _ _ _ _ _ _ _ _ _ o22 o3 ⟨hb.1.into (fun h => ⟨h, rfl⟩), hb.2⟩
      · intro i x y z hz; exact impl_l1_inf _ _ _ _ _ _ _ _ _ _ _ hz
      · intro g2 h2 n m u v w x y r hbb
        exact ih _ _ _ _ _ _ _ _ _ _ _ _ _ o3 o3 o3 ⟨hbb.1.into (fun h => h.elim), hbb.2⟩
    · obtain ⟨d0, d1, ok⟩ := hb.1.fin o3
      rw [decide_eq_false ht, cond_false, cond_false, atomList_val o3 o3 d0 d1 ok hb.2.2]
      rw [spec_l4_val _ _ _ _ _ _ _ _ _ _ _ _ _ rfl _ _ _ _ _ _ o22 o3 o3]
      cases hx : (p_spec_l05Of (l.length : Int) d e f).all (fin .f32)
      · simp only [cond_false, Bool.not_false, cond_true]
        rw [List.nil_append, l02Finite_all]
        cases hd : (dl l (p_spec_l05Of (l.length : Int) d e f) (Int.toNat ((l.length : Int) - (0 : Int)) + 1) 0).all (fin .f32)
        · rfl
        · exfalso
          have hj := dl_fin l _ _ 0 o22 o3 hd
          have : (p_spec_l05Of (l.length : Int) d e f).all (fin .f32) = true := by
            rw [List.all_eq_true]
            intro y hy
            obtain ⟨i, hi, rfl⟩ := List.mem_iff_getElem.1 hy
            have hlen := spec_l05Of_full (l.length : Int) d e f o3
            have := hj (i : Int) o3 o3
            rw [Int.toNat_natCast, List.getD_eq_getElem?_getD, List.getElem?_eq_getElem hi] at this
            exact this
          rw [this] at hx; cases hx
      · simp only [cond_true, Bool.not_true, cond_false]
        rw [impl_l4_val _ _ _ _ _ _ _ _ _ _ _ _ _ (by rw [atomList_val (by omega) (by omega) d0 d1 ok hb.2.2, hx]) _ _ _ _ _ _ o22 o3 o3, finite_same]
        rfl
theorem pursueOnce_same (l sc : List Nat) : p_impl_PursueOnce l sc = p_spec_PursueOnce l sc := by
  rw [p_impl_PursueOnce_eq, p_spec_PursueOnce_eq, long_same]
  cases hl : p_spec_l03Long l
  · rfl
  · obtain ⟨n1, n2, hf⟩ := long_t hl
    rw [Bool.not_true, cond_false, cond_false, p_spec_l05Pursue_eq]
    show (bif !(p_impl_within (sc.length : Int) 1 12) then _ else _) = _
    cases hs : p_spec_l05Scales sc
    · rw [Bool.not_false, cond_true]
      rw [p_spec_l05Scales_eq] at hs
      by_cases h1 : (sc.length : Int) < 1
      · have w : p_impl_within (sc.length : Int) 1 12 = false := by
          unfold p_impl_within; rw [decide_eq_false o3]; rfl
        rw [w]; rfl
      · by_cases h2 : (12 : Int) < (sc.length : Int)
        · have w : p_impl_within (sc.length : Int) 1 12 = false := by
            unfold p_impl_within; rw [decide_eq_true o3, cond_true]; exact decide_eq_false o3
          rw [w]; rfl
        · rw [decide_eq_false h1, decide_eq_false h2, cond_false, cond_false] at hs
          obtain ⟨j, j0, j1, j2⟩ := scales_bad _ _ _ _ o22 o3 hs
          rw [impl_l1_bad l sc _ _ _ _ _ _ _ _ _ _ o22 ⟨j, j0, j1, j2⟩]
          cases p_impl_within (sc.length : Int) 1 12 <;> rfl
    · obtain ⟨s1, s2, s3⟩ := scales_all hs
      have w : p_impl_within (sc.length : Int) 1 12 = true := by
        unfold p_impl_within; rw [decide_eq_true o3, cond_true]; exact decide_eq_true o3
      rw [w, Bool.not_true, cond_false, cond_false]
      exact l1_same l sc hf n1 n2 s1 s2 _ _ _ _ _ _ _ _ _ _ _ _ _ _ o22 o3 o3 ⟨.inl ⟨rfl, rfl⟩, ⟨by decide, by decide +kernel⟩, fin_zero _⟩
theorem wk_one {n : Nat} (h : n < 1073741824) : decide (wk 1 n < (0 : Int)) = false := by
  rw [wk_eq n 1 o3 o3]; exact decide_eq_false o3
theorem eqAtom_self (a : Int) (b c : Nat) : p_laws_eqAtom a b c a b c = true := by
  rw [p_laws_eqAtom_eq, laws_sameFloat_self, laws_sameFloat_self]
  simp
theorem laws_FnExactPursueOnce_true (l_aList : List Nat) (l_aScales : List Nat) (q0 : (∀ y ∈ l_aList, W32 y)) (q1 : (∀ y ∈ l_aScales, W32 y)) : p_laws_FnExactPursueOnce l_aList l_aScales = true := by
  rw [p_laws_FnExactPursueOnce_eq, pursueOnce_same]
  by_cases hL : (1048576 : Int) < (l_aList.length : Int)
  · rw [decide_eq_true hL]; rfl
  · by_cases hS : (1048576 : Int) < (l_aScales.length : Int)
    · rw [decide_eq_false hL, decide_eq_true hS]; rfl
    · have hr := spec_PursueOnce_len l_aList l_aScales
      have hw : decide (wk (wk 1 l_aList.length) l_aScales.length < (0 : Int)) = false := by
        rw [wk_eq l_aList.length 1 o3 o3, wk_eq _ _ o3 o3]; exact decide_eq_false o3
      rw [decide_eq_false hL, decide_eq_false hS, cond_false, cond_false]
      simp only [eqAtom_self, laws_eqFloat32S_self, laws_heldFloat32S_marks, Bool.not_true, cond_false, beq_self_eq_true, bne_self_eq_false, hw, wk_one (show (p_spec_PursueOnce l_aList l_aScales).2.2.2.1.length < 1073741824 by omega)]
/-! laws_FnExactPursueOnce: function 9 -/
def E_laws_FnExactPursueOnce : Env := envOf [(33, S_laws_toFloat32S), (44, S_spec_PursueOnce), (45, S_impl_PursueOnce), (46, S_laws_eqAtom), (14, S_laws_eqFloat32S), (15, S_laws_markFloat32S), (16, S_laws_heldFloat32S)]
def F_laws_FnExactPursueOnce : List Value → AHeap → (Value → AHeap → Prop) → Prop
  | [.slice aList_a aList_n aList_e, .slice aScales_a aScales_n aScales_e], H, K => T_laws_FnExactPursueOnce aList_a aList_n aList_e aScales_a aScales_n aScales_e H fun (r1 : Bool) (H' : AHeap) => K (.bool r1) H'
  | _, _, _ => False
def S_laws_FnExactPursueOnce : FSpec := { F := F_laws_FnExactPursueOnce, quiet := false, tame := false }
theorem laws_FnExactPursueOnce_vc (aList_a : Option Addr) (aList_n : Nat) (aList_e : Nat) (aScales_a : Option Addr) (aScales_n : Nat) (aScales_e : Nat) (H : AHeap) (K : Value → AHeap → Prop) : bodyK Try.prog E_laws_FnExactPursueOnce Try.f9 [.slice aList_a aList_n aList_e, .slice aScales_a aScales_n aScales_e] H K =
  (Br (decide ((1048576 : Int) < (aList_n : Int))) (K (.bool true) H) (Br (decide ((1048576 : Int) < (aScales_n : Int))) (K (.bool true) H) (T_laws_toFloat32S aList_a aList_n aList_e H fun (a1 : Option Addr) (r1 : Nat) (r2 : Nat) (H1 : AHeap) => T_laws_toFloat32S aScales_a aScales_n aScales_e H1 fun (a2 : Option Addr) (r3 : Nat) (r4 : Nat) (H2 : AHeap) => T_spec_PursueOnce a1 r1 r2 a2 r3 r4 H2 fun (r5 : Int) (r6 : Nat) (r7 : Nat) (a3 : Option Addr) (r8 : Nat) (r9 : Nat) (r10 : Bool) (H3 : AHeap) => Al [.int .i64 0, .float .f32 0, .float .f32 0] H3 fun b1 H4 => isOwn H4 b1 ∧ (∃ l, rdN H4 b1 0 3 = some l) ∧ Lt (setN H4 b1 0 [.int .i64 r5, .float .f32 r6, .float .f32 r7]) fun H5 => T_laws_toFloat32S aList_a aList_n aList_e H5 fun (a4 : Option Addr) (r11 : Nat) (r12 : Nat) (H6 : AHeap) => T_laws_toFloat32S aScales_a aScales_n aScales_e H6 fun (a5 : Option Addr) (r13 : Nat) (r14 : Nat) (H7 : AHeap) => T_impl_PursueOnce a4 r11 r12 a5 r13 r14 H7 fun (r15 : Int) (r16 : Nat) (r17 : Nat) (a6 : Option Addr) (r18 : Nat) (r19 : Nat) (r20 : Bool) (H8 : AHeap) => Al [.int .i64 0, .float .f32 0, .float .f32 0] H8 fun b2 H9 => isOwn H9 b2 ∧ (∃ l, rdN H9 b2 0 3 = some l) ∧ Lt (setN H9 b2 0 [.int .i64 r15, .float .f32 r16, .float .f32 r17]) fun H10 => ∃ c1 : Int, ∃ c2 : Nat, ∃ c3 : Nat,  rdN H10 b2 0 3 = some [.int .i64 c1, .float .f32 c2, .float .f32 c3] ∧ ∃ c4 : Int, ∃ c5 : Nat, ∃ c6 : Nat,  rdN H10 b1 0 3 = some [.int .i64 c4, .float .f32 c5, .float .f32 c6] ∧ T_laws_eqAtom c1 c2 c3 c4 c5 c6 H10 fun (r21 : Bool) (H11 : AHeap) => Br (!r21) (K (.bool false) H11) (T_laws_eqFloat32S a6 r18 r19 a3 r8 r9 H11 fun (r22 : Bool) (H12 : AHeap) => Br (!r22) (K (.bool false) H12) (Br (!(r20 == r10)) (K (.bool false) H12) (T_laws_toFloat32S aList_a aList_n aList_e H12 fun (a7 : Option Addr) (r23 : Nat) (r24 : Nat) (H13 : AHeap) => T_laws_eqFloat32S a4 r11 r12 a7 r23 r24 H13 fun (r25 : Bool) (H14 : AHeap) => Br (!r25) (K (.bool false) H14) (T_laws_toFloat32S aScales_a aScales_n aScales_e H14 fun (a8 : Option Addr) (r26 : Nat) (r27 : Nat) (H15 : AHeap) => T_laws_eqFloat32S a5 r13 r14 a8 r26 r27 H15 fun (r28 : Bool) (H16 : AHeap) => Br (!r28) (K (.bool false) H16) (T_laws_markFloat32S a4 r11 r12 1 H16 fun (r29 : Int) (H17 : AHeap) => T_laws_markFloat32S a5 r13 r14 r29 H17 fun (r30 : Int) (H18 : AHeap) => Br (decide ((r30 : Int) < 0)) (K (.bool false) H18) (∃ c7 : Int, ∃ c8 : Nat, ∃ c9 : Nat,  rdN H18 b2 0 3 = some [.int .i64 c7, .float .f32 c8, .float .f32 c9] ∧ ∃ c10 : Int, ∃ c11 : Nat, ∃ c12 : Nat,  rdN H18 b1 0 3 = some [.int .i64 c10, .float .f32 c11, .float .f32 c12] ∧ T_laws_eqAtom c7 c8 c9 c10 c11 c12 H18 fun (r31 : Bool) (H19 : AHeap) => Br (!r31) (K (.bool false) H19) (T_laws_eqFloat32S a6 r18 r19 a3 r8 r9 H19 fun (r32 : Bool) (H20 : AHeap) => Br (!r32) (K (.bool false) H20) (Br (!(r20 == r10)) (K (.bool false) H20) (T_laws_markFloat32S a6 r18 r19 1 H20 fun (r33 : Int) (H21 : AHeap) => T_laws_heldFloat32S a6 r18 r19 1 H21 fun (r34 : Int) (H22 : AHeap) => Br (decide ((r34 : Int) < 0)) (K (.bool false) H22) (Br ((r34 : Int) != r33) (K (.bool false) H22) (T_laws_toFloat32S aList_a aList_n aList_e H22 fun (a9 : Option Addr) (r35 : Nat) (r36 : Nat) (H23 : AHeap) => T_laws_toFloat32S aScales_a aScales_n aScales_e H23 fun (a10 : Option Addr) (r37 : Nat) (r38 : Nat) (H24 : AHeap) => T_impl_PursueOnce a9 r35 r36 a10 r37 r38 H24 fun (r39 : Int) (r40 : Nat) (r41 : Nat) (a11 : Option Addr) (r42 : Nat) (r43 : Nat) (r44 : Bool) (H25 : AHeap) => Al [.int .i64 0, .float .f32 0, .float .f32 0] H25 fun b3 H26 => isOwn H26 b3 ∧ (∃ l, rdN H26 b3 0 3 = some l) ∧ Lt (setN H26 b3 0 [.int .i64 r39, .float .f32 r40, .float .f32 r41]) fun H27 => ∃ c13 : Int, ∃ c14 : Nat, ∃ c15 : Nat,  rdN H27 b3 0 3 = some [.int .i64 c13, .float .f32 c14, .float .f32 c15] ∧ ∃ c16 : Int, ∃ c17 : Nat, ∃ c18 : Nat,  rdN H27 b1 0 3 = some [.int .i64 c16, .float .f32 c17, .float .f32 c18] ∧ T_laws_eqAtom c13 c14 c15 c16 c17 c18 H27 fun (r45 : Bool) (H28 : AHeap) => Br (!r45) (K (.bool false) H28) (T_laws_eqFloat32S a11 r42 r43 a3 r8 r9 H28 fun (r46 : Bool) (H29 : AHeap) => Br (!r46) (K (.bool false) H29) (Br (!(r44 == r10)) (K (.bool false) H29) (T_laws_heldFloat32S a6 r18 r19 1 H29 fun (r47 : Int) (H30 : AHeap) => Br (decide ((r47 : Int) < 0)) (K (.bool false) H30) (Br ((r47 : Int) != r33) (K (.bool false) H30) (K (.bool true) H30))))))))))))))))))) := by kernel_rfl
theorem E_laws_FnExactPursueOnce_ok : ∀ g, FnOk Try.prog g (E_laws_FnExactPursueOnce g) := FnOk.envOf (by
  intro x hx
  simp only [List.mem_cons, List.not_mem_nil, or_false] at hx
  rcases hx with rfl | rfl | rfl | rfl | rfl | rfl | rfl
  · exact laws_toFloat32S_ok
  · exact spec_PursueOnce_ok
  · exact impl_PursueOnce_ok
  · exact laws_eqAtom_ok
  · exact laws_eqFloat32S_ok
  · exact laws_markFloat32S_ok
  · exact laws_heldFloat32S_ok)
set_option maxHeartbeats 1000000 in
theorem laws_FnExactPursueOnce_main (aList_a : Option Addr) (aList_n : Nat) (aList_e : Nat) (aScales_a : Option Addr) (aScales_n : Nat) (aScales_e : Nat) (H : AHeap) (K : Value → AHeap → Prop) (h : T_laws_FnExactPursueOnce aList_a aList_n aList_e aScales_a aScales_n aScales_e H fun (r1 : Bool) (H' : AHeap) => K (.bool r1) H') : bodyK Try.prog E_laws_FnExactPursueOnce Try.f9 [.slice aList_a aList_n aList_e, .slice aScales_a aScales_n aScales_e] H K := by
  rw [laws_FnExactPursueOnce_vc]
  obtain ⟨l_aList, l_aScales, h_0, h_1, h_2, h_3, h_4, h_5, hk⟩ := h
  have i_aList := h_0
  obtain rfl := i_aList.eqn
  have i_aScales := h_3
  obtain rfl := i_aScales.eqn
  have hl := laws_FnExactPursueOnce_true l_aList l_aScales h_1 h_4
  have e : p_laws_FnExactPursueOnce l_aList l_aScales = _ := rfl
  have e := e.trans (p_laws_FnExactPursueOnce_eq l_aList l_aScales)
  have e := hl.symm.trans e
  have g0 := Grow.refl H
  refine Br.intro (fun c_1 => ?_) (fun c_1 => ?_)
  · have e := e.trans (cond_t c_1)
    have c_1' := of_decide_eq_true c_1
    first | exact hk _ | (exfalso; cases e; done) | (rw [← e]; exact hk _)
  · have e := e.trans (cond_f c_1)
    have c_1' := of_decide_eq_false c_1
    refine Br.intro (fun c_2 => ?_) (fun c_2 => ?_)
    · have e := e.trans (cond_t c_2)
      have c_2' := of_decide_eq_true c_2
      first | exact hk _ | (exfalso; cases e; done) | (rw [← e]; exact hk _)
    · have e := e.trans (cond_f c_2)
      have c_2' := of_decide_eq_false c_2
      refine T_laws_toFloat32S_i ⟨_, (i_aList.grow g0), o0, fun a_3 n_4 e_5 H_1 g_7 r_6 => ?_⟩
      have l_8 := g_7.1
      have g_9 := g0.trans g_7
      have l_10 := g_9.1
      obtain rfl := r_6.isL.eqn
      have u_11 := r_6.up
      have u_12 := r_6.lo
      refine T_laws_toFloat32S_i ⟨_, (i_aScales.grow g_9), o0, fun a_14 n_15 e_16 H_2 g_18 r_17 => ?_⟩
      have l_19 := g_18.1
      have g_20 := g_9.trans g_18
      have l_21 := g_20.1
      have r_22 := r_6.grow g_18
      obtain rfl := r_17.isL.eqn
      have u_23 := r_17.up
      have u_24 := r_17.lo
      refine T_spec_PursueOnce_i ⟨_, _, r_22.isL, r_17.isL, o0, o0, fun a_26 n_27 e_28 H_3 g_31 r_29 => ?_⟩
      have z_30 := spec_PursueOnce_len l_aList l_aScales
      have l_32 := g_31.1
      have g_33 := g_20.trans g_31
      have l_34 := g_33.1
      have r_35 := r_22.grow g_31
      have r_36 := r_17.grow g_31
      obtain rfl := r_29.isL.eqn
      have u_37 := r_29.up
      have u_38 := r_29.lo
      refine Al.intro (fun b_40 H_4 hb_41 hl_42 g_43 o_44 => ?_)
      have l_46 := g_43.1
      have g_47 := g_33.trans g_43
      have l_48 := g_47.1
      have r_49 := r_35.grow g_43
      have r_50 := r_36.grow g_43
      have r_51 := r_29.grow g_43
      have w_425 := o_44.lt
      refine Lt.setN (n := 3) o_44 (Nat.le_of_ble_eq_true rfl) rfl (fun H_5 hl_52 o_54 k_53 => ?_)
      have o_54 : Own H_5 b_40 [.int .i64 ((p_spec_PursueOnce l_aList l_aScales).1), .float .f32 ((p_spec_PursueOnce l_aList l_aScales).2.1), .float .f32 ((p_spec_PursueOnce l_aList l_aScales).2.2.1)] := o_54
      have l_55 := k_53.1
      have g_56 := g_47.keep (b := b_40) o3 k_53
      have l_57 := g_56.1
      have r_58 := r_49.keep u_11 o3 k_53
      have r_59 := r_50.keep u_23 o3 k_53
      have r_60 := r_51.keep u_37 o3 k_53
      have w_424 := o_54.lt
      refine T_laws_toFloat32S_i ⟨_, (i_aList.grow g_56), o0, fun a_61 n_62 e_63 H_6 g_65 r_64 => ?_⟩
      have l_66 := g_65.1
      have g_67 := g_56.trans g_65
      have l_68 := g_67.1
      have o_69 := o_54.grow g_65
      have w_70 := o_69.lt
      have r_71 := r_58.grow g_65
      have r_72 := r_59.grow g_65
      have r_73 := r_60.grow g_65
      obtain rfl := r_64.isL.eqn
      have u_74 := r_64.up
      have u_75 := r_64.lo
      refine T_laws_toFloat32S_i ⟨_, (i_aScales.grow g_67), o0, fun a_77 n_78 e_79 H_7 g_81 r_80 => ?_⟩
      have l_82 := g_81.1
      have g_83 := g_67.trans g_81
      have l_84 := g_83.1
      have o_85 := o_69.grow g_81
      have w_86 := o_85.lt
      have r_87 := r_71.grow g_81
      have r_88 := r_72.grow g_81
      have r_89 := r_73.grow g_81
      have r_90 := r_64.grow g_81
      obtain rfl := r_80.isL.eqn
      have u_91 := r_80.up
      have u_92 := r_80.lo
      refine T_impl_PursueOnce_i ⟨_, _, r_90.isL, r_80.isL, o0, o0, fun a_94 n_95 e_96 H_8 g_99 r_97 => ?_⟩
      have z_98 := impl_PursueOnce_len l_aList l_aScales
      have l_100 := g_99.1
      have g_101 := g_83.trans g_99
      have l_102 := g_101.1
      have o_103 := o_85.grow g_99
      have w_104 := o_103.lt
      have r_105 := r_87.grow g_99
      have r_106 := r_88.grow g_99
      have r_107 := r_89.grow g_99
      have r_108 := r_90.grow g_99
      have r_109 := r_80.grow g_99
      obtain rfl := r_97.isL.eqn
      have u_110 := r_97.up
      have u_111 := r_97.lo
      refine Al.intro (fun b_113 H_9 hb_114 hl_115 g_116 o_117 => ?_)
      have l_119 := g_116.1
      have g_120 := g_101.trans g_116
      have l_121 := g_120.1
      have o_122 := o_103.grow g_116
      have w_123 := o_122.lt
      have r_124 := r_105.grow g_116
      have r_125 := r_106.grow g_116
      have r_126 := r_107.grow g_116
      have r_127 := r_108.grow g_116
      have r_128 := r_109.grow g_116
      have r_129 := r_97.grow g_116
      have w_423 := o_117.lt
      refine Lt.setN (n := 3) o_117 (Nat.le_of_ble_eq_true rfl) rfl (fun H_10 hl_130 o_132 k_131 => ?_)
      have o_132 : Own H_10 b_113 [.int .i64 ((p_impl_PursueOnce l_aList l_aScales).1), .float .f32 ((p_impl_PursueOnce l_aList l_aScales).2.1), .float .f32 ((p_impl_PursueOnce l_aList l_aScales).2.2.1)] := o_132
      have l_133 := k_131.1
      have g_134 := g_120.keep (b := b_113) o3 k_131
      have l_135 := g_134.1
      have o_136 := o_122.keep o3 k_131
      have w_137 := o_136.lt
      have r_138 := r_124.keep u_11 o3 k_131
      have r_139 := r_125.keep u_23 o3 k_131
      have r_140 := r_126.keep u_37 o3 k_131
      have r_141 := r_127.keep u_74 o3 k_131
      have r_142 := r_128.keep u_91 o3 k_131
      have r_143 := r_129.keep u_110 o3 k_131
      have w_422 := o_132.lt
      refine ⟨(p_impl_PursueOnce l_aList l_aScales).1, (p_impl_PursueOnce l_aList l_aScales).2.1, (p_impl_PursueOnce l_aList l_aScales).2.2.1, (o_132.rdN (Nat.le_of_ble_eq_true rfl)).trans rfl, ?_⟩
      refine ⟨(p_spec_PursueOnce l_aList l_aScales).1, (p_spec_PursueOnce l_aList l_aScales).2.1, (p_spec_PursueOnce l_aList l_aScales).2.2.1, (o_136.rdN (Nat.le_of_ble_eq_true rfl)).trans rfl, ?_⟩
      refine T_laws_eqAtom_i (fun  H_11 g_144  => ?_)
      have l_145 := g_144.1
      have g_146 := g_134.trans g_144
      have l_147 := g_146.1
      have o_148 := o_136.grow g_144
      have w_149 := o_148.lt
      have o_150 := o_132.grow g_144
      have w_151 := o_150.lt
      have r_152 := r_138.grow g_144
      have r_153 := r_139.grow g_144
      have r_154 := r_140.grow g_144
      have r_155 := r_141.grow g_144
      have r_156 := r_142.grow g_144
      have r_157 := r_143.grow g_144
      refine Br.intro (fun c_158 => ?_) (fun c_158 => ?_)
      · have e := e.trans (cond_t c_158)
        have c_158n := nf_of_t c_158
        first | exact hk _ | (exfalso; cases e; done) | (rw [← e]; exact hk _)
      · have e := e.trans (cond_f c_158)
        have c_158n := nt_of_f c_158
        refine T_laws_eqFloat32S_i ⟨_, _, r_157.isL, r_154.isL, o0, o0, ?_⟩
        refine Br.intro (fun c_159 => ?_) (fun c_159 => ?_)
        · have e := e.trans (cond_t c_159)
          have c_159n := nf_of_t c_159
          first | exact hk _ | (exfalso; cases e; done) | (rw [← e]; exact hk _)
        · have e := e.trans (cond_f c_159)
          have c_159n := nt_of_f c_159
          refine Br.intro (fun c_160 => ?_) (fun c_160 => ?_)
          · have e := e.trans (cond_t c_160)
            have c_160n := nf_of_t c_160
            first | exact hk _ | (exfalso; cases e; done) | (rw [← e]; exact hk _)
          · have e := e.trans (cond_f c_160)
            have c_160n := nt_of_f c_160
            refine T_laws_toFloat32S_i ⟨_, (i_aList.grow g_146), o0, fun a_161 n_162 e_163 H_12 g_165 r_164 => ?_⟩
            have l_166 := g_165.1
            have g_167 := g_146.trans g_165
            have l_168 := g_167.1
            have o_169 := o_148.grow g_165
            have w_170 := o_169.lt
            have o_171 := o_150.grow g_165
            have w_172 := o_171.lt
            have r_173 := r_152.grow g_165
            have r_174 := r_153.grow g_165
            have r_175 := r_154.grow g_165
            have r_176 := r_155.grow g_165
            have r_177 := r_156.grow g_165
            have r_178 := r_157.grow g_165
            obtain rfl := r_164.isL.eqn
            have u_179 := r_164.up
            have u_180 := r_164.lo
            refine T_laws_eqFloat32S_i ⟨_, _, r_176.isL, r_164.isL, o0, o0, ?_⟩
            refine Br.intro (fun c_182 => ?_) (fun c_182 => ?_)
            · have e := e.trans (cond_t c_182)
              have c_182n := nf_of_t c_182
              first | exact hk _ | (exfalso; cases e; done) | (rw [← e]; exact hk _)
            · have e := e.trans (cond_f c_182)
              have c_182n := nt_of_f c_182
              refine T_laws_toFloat32S_i ⟨_, (i_aScales.grow g_167), o0, fun a_183 n_184 e_185 H_13 g_187 r_186 => ?_⟩
              have l_188 := g_187.1
              have g_189 := g_167.trans g_187
              have l_190 := g_189.1
              have o_191 := o_169.grow g_187
              have w_192 := o_191.lt
              have o_193 := o_171.grow g_187
              have w_194 := o_193.lt
              have r_195 := r_173.grow g_187
              have r_196 := r_174.grow g_187
              have r_197 := r_175.grow g_187
              have r_198 := r_176.grow g_187
              have r_199 := r_177.grow g_187
              have r_200 := r_178.grow g_187
              have r_201 := r_164.grow g_187
              obtain rfl := r_186.isL.eqn
              have u_202 := r_186.up
              have u_203 := r_186.lo
              refine T_laws_eqFloat32S_i ⟨_, _, r_199.isL, r_186.isL, o0, o0, ?_⟩
              refine Br.intro (fun c_205 => ?_) (fun c_205 => ?_)
              · have e := e.trans (cond_t c_205)
                have c_205n := nf_of_t c_205
                first | exact hk _ | (exfalso; cases e; done) | (rw [← e]; exact hk _)
              · have e := e.trans (cond_f c_205)
                have c_205n := nt_of_f c_205
                refine T_laws_markFloat32S_i ⟨_, _, r_198, o0, (fun H_14 k_206 o_207 => ?_)⟩
                have l_208 := k_206.1
                have g_209 := g_189.keepA (fun x hx => by have := u_75 x hx; omega) k_206
                have l_210 := g_209.1
                have o_211 := o_191.keepA (fun x hx => by have := u_75 x hx; have := u_74 x hx; omega) k_206
                have w_212 := o_211.lt
                have o_213 := o_193.keepA (fun x hx => by have := u_75 x hx; have := u_74 x hx; omega) k_206
                have w_214 := o_213.lt
                have r_215 := r_195.keepA (fun x y hx hy => by have := u_75 x hx; have := u_74 x hx; have := u_12 y hy; have := u_11 y hy; omega) k_206
                have r_216 := r_196.keepA (fun x y hx hy => by have := u_75 x hx; have := u_74 x hx; have := u_24 y hy; have := u_23 y hy; omega) k_206
                have r_217 := r_197.keepA (fun x y hx hy => by have := u_75 x hx; have := u_74 x hx; have := u_38 y hy; have := u_37 y hy; omega) k_206
                have r_218 := r_199.keepA (fun x y hx hy => by have := u_75 x hx; have := u_74 x hx; have := u_92 y hy; have := u_91 y hy; omega) k_206
                have r_219 := r_200.keepA (fun x y hx hy => by have := u_75 x hx; have := u_74 x hx; have := u_111 y hy; have := u_110 y hy; omega) k_206
                have r_220 := r_201.keepA (fun x y hx hy => by have := u_75 x hx; have := u_74 x hx; have := u_180 y hy; have := u_179 y hy; omega) k_206
                have r_221 := r_186.keepA (fun x y hx hy => by have := u_75 x hx; have := u_74 x hx; have := u_203 y hy; have := u_202 y hy; omega) k_206
                refine T_laws_markFloat32S_i ⟨_, _, r_218, o0, (fun H_15 k_222 o_223 => ?_)⟩
                have l_224 := k_222.1
                have g_225 := g_209.keepA (fun x hx => by have := u_92 x hx; omega) k_222
                have l_226 := g_225.1
                have o_227 := o_211.keepA (fun x hx => by have := u_92 x hx; have := u_91 x hx; omega) k_222
                have w_228 := o_227.lt
                have o_229 := o_213.keepA (fun x hx => by have := u_92 x hx; have := u_91 x hx; omega) k_222
                have w_230 := o_229.lt
                have r_231 := r_215.keepA (fun x y hx hy => by have := u_92 x hx; have := u_91 x hx; have := u_12 y hy; have := u_11 y hy; omega) k_222
                have r_232 := r_216.keepA (fun x y hx hy => by have := u_92 x hx; have := u_91 x hx; have := u_24 y hy; have := u_23 y hy; omega) k_222
                have r_233 := r_217.keepA (fun x y hx hy => by have := u_92 x hx; have := u_91 x hx; have := u_38 y hy; have := u_37 y hy; omega) k_222
                have r_234 := o_207.keepA (fun x y hx hy => by have := u_92 x hx; have := u_91 x hx; have := u_75 y hy; have := u_74 y hy; omega) k_222
                have r_235 := r_219.keepA (fun x y hx hy => by have := u_92 x hx; have := u_91 x hx; have := u_111 y hy; have := u_110 y hy; omega) k_222
                have r_236 := r_220.keepA (fun x y hx hy => by have := u_92 x hx; have := u_91 x hx; have := u_180 y hy; have := u_179 y hy; omega) k_222
                have r_237 := r_221.keepA (fun x y hx hy => by have := u_92 x hx; have := u_91 x hx; have := u_203 y hy; have := u_202 y hy; omega) k_222
                refine Br.intro (fun c_238 => ?_) (fun c_238 => ?_)
                · have e := e.trans (cond_t c_238)
                  have c_238' := of_decide_eq_true c_238
                  first | exact hk _ | (exfalso; cases e; done) | (rw [← e]; exact hk _)
                · have e := e.trans (cond_f c_238)
                  have c_238' := of_decide_eq_false c_238
                  refine ⟨(p_impl_PursueOnce l_aList l_aScales).1, (p_impl_PursueOnce l_aList l_aScales).2.1, (p_impl_PursueOnce l_aList l_aScales).2.2.1, (o_229.rdN (Nat.le_of_ble_eq_true rfl)).trans rfl, ?_⟩
                  refine ⟨(p_spec_PursueOnce l_aList l_aScales).1, (p_spec_PursueOnce l_aList l_aScales).2.1, (p_spec_PursueOnce l_aList l_aScales).2.2.1, (o_227.rdN (Nat.le_of_ble_eq_true rfl)).trans rfl, ?_⟩
                  refine T_laws_eqAtom_i (fun  H_16 g_239  => ?_)
                  have l_240 := g_239.1
                  have g_241 := g_225.trans g_239
                  have l_242 := g_241.1
                  have o_243 := o_227.grow g_239
                  have w_244 := o_243.lt
                  have o_245 := o_229.grow g_239
                  have w_246 := o_245.lt
                  have r_247 := r_231.grow g_239
                  have r_248 := r_232.grow g_239
                  have r_249 := r_233.grow g_239
                  have r_250 := r_234.grow g_239
                  have r_251 := o_223.grow g_239
                  have r_252 := r_235.grow g_239
                  have r_253 := r_236.grow g_239
                  have r_254 := r_237.grow g_239
                  refine Br.intro (fun c_255 => ?_) (fun c_255 => ?_)
                  · have e := e.trans (cond_t c_255)
                    have c_255n := nf_of_t c_255
                    first | exact hk _ | (exfalso; cases e; done) | (rw [← e]; exact hk _)
                  · have e := e.trans (cond_f c_255)
                    have c_255n := nt_of_f c_255
                    refine T_laws_eqFloat32S_i ⟨_, _, r_252.isL, r_249.isL, o0, o0, ?_⟩
                    refine Br.intro (fun c_256 => ?_) (fun c_256 => ?_)
                    · have e := e.trans (cond_t c_256)
                      have c_256n := nf_of_t c_256
                      first | exact hk _ | (exfalso; cases e; done) | (rw [← e]; exact hk _)
                    · have e := e.trans (cond_f c_256)
                      have c_256n := nt_of_f c_256
                      refine Br.intro (fun c_257 => ?_) (fun c_257 => ?_)
                      · have e := e.trans (cond_t c_257)
                        have c_257n := nf_of_t c_257
                        first | exact hk _ | (exfalso; cases e; done) | (rw [← e]; exact hk _)
                      · have e := e.trans (cond_f c_257)
                        have c_257n := nt_of_f c_257
                        refine T_laws_markFloat32S_i ⟨_, _, r_252, o0, (fun H_17 k_258 o_259 => ?_)⟩
                        have l_260 := k_258.1
                        have g_261 := g_241.keepA (fun x hx => by have := u_111 x hx; omega) k_258
                        have l_262 := g_261.1
                        have o_263 := o_243.keepA (fun x hx => by have := u_111 x hx; have := u_110 x hx; omega) k_258
                        have w_264 := o_263.lt
                        have o_265 := o_245.keepA (fun x hx => by have := u_111 x hx; have := u_110 x hx; omega) k_258
                        have w_266 := o_265.lt
                        have r_267 := r_247.keepA (fun x y hx hy => by have := u_111 x hx; have := u_110 x hx; have := u_12 y hy; have := u_11 y hy; omega) k_258
                        have r_268 := r_248.keepA (fun x y hx hy => by have := u_111 x hx; have := u_110 x hx; have := u_24 y hy; have := u_23 y hy; omega) k_258
                        have r_269 := r_249.keepA (fun x y hx hy => by have := u_111 x hx; have := u_110 x hx; have := u_38 y hy; have := u_37 y hy; omega) k_258
                        have r_270 := r_250.keepA (fun x y hx hy => by have := u_111 x hx; have := u_110 x hx; have := u_75 y hy; have := u_74 y hy; omega) k_258
                        have r_271 := r_251.keepA (fun x y hx hy => by have := u_111 x hx; have := u_110 x hx; have := u_92 y hy; have := u_91 y hy; omega) k_258
                        have r_272 := r_253.keepA (fun x y hx hy => by have := u_111 x hx; have := u_110 x hx; have := u_180 y hy; have := u_179 y hy; omega) k_258
                        have r_273 := r_254.keepA (fun x y hx hy => by have := u_111 x hx; have := u_110 x hx; have := u_203 y hy; have := u_202 y hy; omega) k_258
                        refine T_laws_heldFloat32S_i ⟨_, o_259.isL, o0, ?_⟩
                        refine Br.intro (fun c_274 => ?_) (fun c_274 => ?_)
                        · have e := e.trans (cond_t c_274)
                          have c_274' := of_decide_eq_true c_274
                          first | exact hk _ | (exfalso; cases e; done) | (rw [← e]; exact hk _)
                        · have e := e.trans (cond_f c_274)
                          have c_274' := of_decide_eq_false c_274
                          refine Br.intro (fun c_275 => ?_) (fun c_275 => ?_)
                          · have e := e.trans (cond_t c_275)
                            have c_275' := ine_t c_275
                            first | exact hk _ | (exfalso; cases e; done) | (rw [← e]; exact hk _)
                          · have e := e.trans (cond_f c_275)
                            have c_275' := ine_f c_275
                            refine T_laws_toFloat32S_i ⟨_, (i_aList.grow g_261), o0, fun a_276 n_277 e_278 H_18 g_280 r_279 => ?_⟩
                            have l_281 := g_280.1
                            have g_282 := g_261.trans g_280
                            have l_283 := g_282.1
                            have o_284 := o_263.grow g_280
                            have w_285 := o_284.lt
                            have o_286 := o_265.grow g_280
                            have w_287 := o_286.lt
                            have r_288 := r_267.grow g_280
                            have r_289 := r_268.grow g_280
                            have r_290 := r_269.grow g_280
                            have r_291 := r_270.grow g_280
                            have r_292 := r_271.grow g_280
                            have r_293 := o_259.grow g_280
                            have r_294 := r_272.grow g_280
                            have r_295 := r_273.grow g_280
                            obtain rfl := r_279.isL.eqn
                            have u_296 := r_279.up
                            have u_297 := r_279.lo
                            refine T_laws_toFloat32S_i ⟨_, (i_aScales.grow g_282), o0, fun a_299 n_300 e_301 H_19 g_303 r_302 => ?_⟩
                            have l_304 := g_303.1
                            have g_305 := g_282.trans g_303
                            have l_306 := g_305.1
                            have o_307 := o_284.grow g_303
                            have w_308 := o_307.lt
                            have o_309 := o_286.grow g_303
                            have w_310 := o_309.lt
                            have r_311 := r_288.grow g_303
                            have r_312 := r_289.grow g_303
                            have r_313 := r_290.grow g_303
                            have r_314 := r_291.grow g_303
                            have r_315 := r_292.grow g_303
                            have r_316 := r_293.grow g_303
                            have r_317 := r_294.grow g_303
                            have r_318 := r_295.grow g_303
                            have r_319 := r_279.grow g_303
                            obtain rfl := r_302.isL.eqn
                            have u_320 := r_302.up
                            have u_321 := r_302.lo
                            refine T_impl_PursueOnce_i ⟨_, _, r_319.isL, r_302.isL, o0, o0, fun a_323 n_324 e_325 H_20 g_328 r_326 => ?_⟩
                            have z_327 := impl_PursueOnce_len l_aList l_aScales
                            have l_329 := g_328.1
                            have g_330 := g_305.trans g_328
                            have l_331 := g_330.1
                            have o_332 := o_307.grow g_328
                            have w_333 := o_332.lt
                            have o_334 := o_309.grow g_328
                            have w_335 := o_334.lt
                            have r_336 := r_311.grow g_328
                            have r_337 := r_312.grow g_328
                            have r_338 := r_313.grow g_328
                            have r_339 := r_314.grow g_328
                            have r_340 := r_315.grow g_328
                            have r_341 := r_316.grow g_328
                            have r_342 := r_317.grow g_328
                            have r_343 := r_318.grow g_328
                            have r_344 := r_319.grow g_328
                            have r_345 := r_302.grow g_328
                            obtain rfl := r_326.isL.eqn
                            have u_346 := r_326.up
                            have u_347 := r_326.lo
                            refine Al.intro (fun b_349 H_21 hb_350 hl_351 g_352 o_353 => ?_)
                            have l_355 := g_352.1
                            have g_356 := g_330.trans g_352
                            have l_357 := g_356.1
                            have o_358 := o_332.grow g_352
                            have w_359 := o_358.lt
                            have o_360 := o_334.grow g_352
                            have w_361 := o_360.lt
                            have r_362 := r_336.grow g_352
                            have r_363 := r_337.grow g_352
                            have r_364 := r_338.grow g_352
                            have r_365 := r_339.grow g_352
                            have r_366 := r_340.grow g_352
                            have r_367 := r_341.grow g_352
                            have r_368 := r_342.grow g_352
                            have r_369 := r_343.grow g_352
                            have r_370 := r_344.grow g_352
                            have r_371 := r_345.grow g_352
                            have r_372 := r_326.grow g_352
                            have w_421 := o_353.lt
                            refine Lt.setN (n := 3) o_353 (Nat.le_of_ble_eq_true rfl) rfl (fun H_22 hl_373 o_375 k_374 => ?_)
                            have o_375 : Own H_22 b_349 [.int .i64 ((p_impl_PursueOnce l_aList l_aScales).1), .float .f32 ((p_impl_PursueOnce l_aList l_aScales).2.1), .float .f32 ((p_impl_PursueOnce l_aList l_aScales).2.2.1)] := o_375
                            have l_376 := k_374.1
                            have g_377 := g_356.keep (b := b_349) o3 k_374
                            have l_378 := g_377.1
                            have o_379 := o_358.keep o3 k_374
                            have w_380 := o_379.lt
                            have o_381 := o_360.keep o3 k_374
                            have w_382 := o_381.lt
                            have r_383 := r_362.keep u_11 o3 k_374
                            have r_384 := r_363.keep u_23 o3 k_374
                            have r_385 := r_364.keep u_37 o3 k_374
                            have r_386 := r_365.keep u_74 o3 k_374
                            have r_387 := r_366.keep u_91 o3 k_374
                            have r_388 := r_367.keep u_110 o3 k_374
                            have r_389 := r_368.keep u_179 o3 k_374
                            have r_390 := r_369.keep u_202 o3 k_374
                            have r_391 := r_370.keep u_296 o3 k_374
                            have r_392 := r_371.keep u_320 o3 k_374
                            have r_393 := r_372.keep u_346 o3 k_374
                            have w_420 := o_375.lt
                            refine ⟨(p_impl_PursueOnce l_aList l_aScales).1, (p_impl_PursueOnce l_aList l_aScales).2.1, (p_impl_PursueOnce l_aList l_aScales).2.2.1, (o_375.rdN (Nat.le_of_ble_eq_true rfl)).trans rfl, ?_⟩
                            refine ⟨(p_spec_PursueOnce l_aList l_aScales).1, (p_spec_PursueOnce l_aList l_aScales).2.1, (p_spec_PursueOnce l_aList l_aScales).2.2.1, (o_379.rdN (Nat.le_of_ble_eq_true rfl)).trans rfl, ?_⟩
                            refine T_laws_eqAtom_i (fun  H_23 g_394  => ?_)
                            have l_395 := g_394.1
                            have g_396 := g_377.trans g_394
                            have l_397 := g_396.1
                            have o_398 := o_379.grow g_394
                            have w_399 := o_398.lt
                            have o_400 := o_381.grow g_394
                            have w_401 := o_400.lt
                            have o_402 := o_375.grow g_394
                            have w_403 := o_402.lt
                            have r_404 := r_383.grow g_394
                            have r_405 := r_384.grow g_394
                            have r_406 := r_385.grow g_394
                            have r_407 := r_386.grow g_394
                            have r_408 := r_387.grow g_394
                            have r_409 := r_388.grow g_394
                            have r_410 := r_389.grow g_394
                            have r_411 := r_390.grow g_394
                            have r_412 := r_391.grow g_394
                            have r_413 := r_392.grow g_394
                            have r_414 := r_393.grow g_394
                            refine Br.intro (fun c_415 => ?_) (fun c_415 => ?_)
                            · have e := e.trans (cond_t c_415)
                              have c_415n := nf_of_t c_415
                              first | exact hk _ | (exfalso; cases e; done) | (rw [← e]; exact hk _)
                            · have e := e.trans (cond_f c_415)
                              have c_415n := nt_of_f c_415
                              refine T_laws_eqFloat32S_i ⟨_, _, r_414.isL, r_406.isL, o0, o0, ?_⟩
                              refine Br.intro (fun c_416 => ?_) (fun c_416 => ?_)
                              · have e := e.trans (cond_t c_416)
                                have c_416n := nf_of_t c_416
                                first | exact hk _ | (exfalso; cases e; done) | (rw [← e]; exact hk _)
                              · have e := e.trans (cond_f c_416)
                                have c_416n := nt_of_f c_416
                                refine Br.intro (fun c_417 => ?_) (fun c_417 => ?_)
                                · have e := e.trans (cond_t c_417)
                                  have c_417n := nf_of_t c_417
                                  first | exact hk _ | (exfalso; cases e; done) | (rw [← e]; exact hk _)
                                · have e := e.trans (cond_f c_417)
                                  have c_417n := nt_of_f c_417
                                  refine T_laws_heldFloat32S_i ⟨_, r_409.isL, o0, ?_⟩
                                  refine Br.intro (fun c_418 => ?_) (fun c_418 => ?_)
                                  · have e := e.trans (cond_t c_418)
                                    have c_418' := of_decide_eq_true c_418
                                    first | exact hk _ | (exfalso; cases e; done) | (rw [← e]; exact hk _)
                                  · have e := e.trans (cond_f c_418)
                                    have c_418' := of_decide_eq_false c_418
                                    refine Br.intro (fun c_419 => ?_) (fun c_419 => ?_)
                                    · have e := e.trans (cond_t c_419)
                                      have c_419' := ine_t c_419
                                      first | exact hk _ | (exfalso; cases e; done) | (rw [← e]; exact hk _)
                                    · have e := e.trans (cond_f c_419)
                                      have c_419' := ine_f c_419
                                      first | exact hk _ | (exfalso; cases e; done) | (rw [← e]; exact hk _)
theorem laws_FnExactPursueOnce_ok : FnOk Try.prog 9 S_laws_FnExactPursueOnce := by
  refine FnOk.body mix_ok E_laws_FnExactPursueOnce_ok Try.func9 rfl (by kernel_rfl) (by kernel_rfl) ?_ ?_ ?_ ?_ ?_
  · intro args H K K' h hk
    simp only [S_laws_FnExactPursueOnce] at *
    unfold F_laws_FnExactPursueOnce at *
    split at hk
    · obtain ⟨l_aList, l_aScales, h_0, h_1, h_2, h_3, h_4, h_5, k⟩ := hk
      exact ⟨l_aList, l_aScales, h_0, h_1, h_2, h_3, h_4, h_5, (fun H' => h _ _ (k H'))⟩
    · exact hk.elim
  · intro hq; cases hq
  · intro args H K hk
    simp only [S_laws_FnExactPursueOnce] at *
    unfold F_laws_FnExactPursueOnce at *
    split at hk
    · obtain ⟨l_aList, l_aScales, h_0, h_1, h_2, h_3, h_4, h_5, k⟩ := hk
      exact ⟨_, _, k []⟩
    · exact hk.elim
  · intro hq; cases hq
  · have mm := @laws_FnExactPursueOnce_main
    revert mm
    generalize bodyK Try.prog E_laws_FnExactPursueOnce Try.f9 = Q
    intro mm args H K hk
    simp only [S_laws_FnExactPursueOnce] at *
    unfold F_laws_FnExactPursueOnce at *
    split at hk
    · exact mm _ _ _ _ _ _ H K hk
    · exact hk.elim
end Go.Proofs.Ytghkkclonabpkab.Ai
