/- What functions of the program come to on the abstract machine, and that they do so; printed by a program of mine around proofs of mine. -/
import Derived.Test.YtbnplefohfamnaaFFnBreaks1
set_option linter.unusedVariables false
set_option linter.unusedSimpArgs false
set_option linter.defProp false
set_option maxRecDepth 100000
namespace Go.Proofs.Ytbnplefohfamnaa.Ai
open Go
attribute [local irreducible] bodyK bodyL

def p_laws_FnBreaks_l2 (l_code : List UInt8) (l_more : List UInt8) (before : Nat) (behind : Nat) (sum : Nat) (means : Nat) (t97 : Int) (k2_2 : (List Nat) → Int → Bool) : Nat → (List Nat) → Int → Bool
  | 0, _, _ => false
  | μ2 + 1, l_steps, i => (bif decide ((i : Int) < IntKind.wrap .i64 ((IntKind.wrap .i64 ((IntKind.wrap .i64 ((IntKind.wrap .i64 (2 + ((p_laws_b10At l_more (1 : Int) (5 : Int))))) + 2)) + ((p_laws_b10At l_more (2 : Int) (5 : Int))))) + 3)) then (bif decide ((IntKind.wrap .i64 (2 + ((p_laws_b10At l_more (1 : Int) (5 : Int)))) : Int) ≤ i) then (bif decide ((IntKind.wrap .i64 ((IntKind.wrap .i64 ((IntKind.wrap .i64 (2 + ((p_laws_b10At l_more (1 : Int) (5 : Int))))) + 2)) + ((p_laws_b10At l_more (2 : Int) (5 : Int)))) : Int) ≤ i) then (p_laws_FnBreaks_l2 l_code l_more before behind sum means t97 k2_2 μ2 (l_steps ++ [1101004800]) (i + 1)) else (p_laws_FnBreaks_l2 l_code l_more before behind sum means t97 k2_2 μ2 (l_steps ++ [1091567616]) (i + 1))) else (bif decide ((IntKind.wrap .i64 ((IntKind.wrap .i64 ((IntKind.wrap .i64 (2 + ((p_laws_b10At l_more (1 : Int) (5 : Int))))) + 2)) + ((p_laws_b10At l_more (2 : Int) (5 : Int)))) : Int) ≤ i) then (p_laws_FnBreaks_l2 l_code l_more before behind sum means t97 k2_2 μ2 (l_steps ++ [1101004800]) (i + 1)) else (p_laws_FnBreaks_l2 l_code l_more before behind sum means t97 k2_2 μ2 (l_steps ++ [1065353216]) (i + 1)))) else (k2_2 l_steps i))
def p_laws_FnBreaks_l2_s := fun l_code l_more before behind sum means t97 k2_2 μ2 l_steps i => @p_laws_FnBreaks_l2.eq_2 l_code l_more before behind sum means t97 k2_2 l_steps i μ2
def p_laws_FnBreaks_l1 (l_code : List UInt8) (l_more : List UInt8) : Nat → Nat → Nat → Nat → Nat → Int → Bool
  | 0, _, _, _, _, _ => false
  | μ + 1, before, behind, sum, means, t97 => (bif decide ((t97 : Int) < (((p_spec_B10Signal l_code (IntKind.wrap .i64 (2 + ((p_laws_b10At l_more (0 : Int) (14 : Int))))))).length : Int)) then (p_laws_FnBreaks_l1 l_code l_more μ (fadd .f64 before (fmul .f64 (fsub .f64 (fwide ((((p_spec_B10Signal l_code (IntKind.wrap .i64 (2 + ((p_laws_b10At l_more (0 : Int) (14 : Int))))))).getD (t97 : Int).toNat 0))) (fwide ((((p_impl_SegmentMeans ((p_spec_B10Signal l_code (IntKind.wrap .i64 (2 + ((p_laws_b10At l_more (0 : Int) (14 : Int))))))) ([])).1).getD (t97 : Int).toNat 0)))) (fsub .f64 (fwide ((((p_spec_B10Signal l_code (IntKind.wrap .i64 (2 + ((p_laws_b10At l_more (0 : Int) (14 : Int))))))).getD (t97 : Int).toNat 0))) (fwide ((((p_impl_SegmentMeans ((p_spec_B10Signal l_code (IntKind.wrap .i64 (2 + ((p_laws_b10At l_more (0 : Int) (14 : Int))))))) ([])).1).getD (t97 : Int).toNat 0)))))) (fadd .f64 behind (fmul .f64 (fsub .f64 (fwide ((((p_spec_B10Signal l_code (IntKind.wrap .i64 (2 + ((p_laws_b10At l_more (0 : Int) (14 : Int))))))).getD (t97 : Int).toNat 0))) (fwide ((((p_impl_SegmentMeans ((p_spec_B10Signal l_code (IntKind.wrap .i64 (2 + ((p_laws_b10At l_more (0 : Int) (14 : Int))))))) ([((p_impl_BestBreak ((p_spec_B10Signal l_code (IntKind.wrap .i64 (2 + ((p_laws_b10At l_more (0 : Int) (14 : Int)))))))).1 : Int)])).1).getD (t97 : Int).toNat 0)))) (fsub .f64 (fwide ((((p_spec_B10Signal l_code (IntKind.wrap .i64 (2 + ((p_laws_b10At l_more (0 : Int) (14 : Int))))))).getD (t97 : Int).toNat 0))) (fwide ((((p_impl_SegmentMeans ((p_spec_B10Signal l_code (IntKind.wrap .i64 (2 + ((p_laws_b10At l_more (0 : Int) (14 : Int))))))) ([((p_impl_BestBreak ((p_spec_B10Signal l_code (IntKind.wrap .i64 (2 + ((p_laws_b10At l_more (0 : Int) (14 : Int)))))))).1 : Int)])).1).getD (t97 : Int).toNat 0)))))) (fadd .f64 sum (fwide ((((p_spec_B10Signal l_code (IntKind.wrap .i64 (2 + ((p_laws_b10At l_more (0 : Int) (14 : Int))))))).getD (t97 : Int).toNat 0)))) (fadd .f64 means (fwide ((((p_impl_SegmentMeans ((p_spec_B10Signal l_code (IntKind.wrap .i64 (2 + ((p_laws_b10At l_more (0 : Int) (14 : Int))))))) ([((p_impl_BestBreak ((p_spec_B10Signal l_code (IntKind.wrap .i64 (2 + ((p_laws_b10At l_more (0 : Int) (14 : Int)))))))).1 : Int)])).1).getD (t97 : Int).toNat 0)))) (t97 + 1)) else (bif flt .f64 (fmul .f64 4576918229304087675 (fadd .f64 4607182418800017408 before)) ((p_laws_b10Gap (fsub .f64 before behind) (fwide ((p_impl_BestBreak ((p_spec_B10Signal l_code (IntKind.wrap .i64 (2 + ((p_laws_b10At l_more (0 : Int) (14 : Int)))))))).2.1)))) then false else (bif flt .f64 4576918229304087675 (p_laws_b10Gap sum means) then false else (p_laws_FnBreaks_l2 l_code l_more before behind sum means t97 (fun (l_steps : List Nat) (i : Int) => (bif (p_impl_BreaksOf l_steps 1056964608 (8 : Int)).2 then (bif (p_impl_BreaksOf l_steps 1056964608 (0 : Int)).2 then (bif ((p_impl_BreaksOf ((p_spec_B10Signal l_code (IntKind.wrap .i64 (2 + ((p_laws_b10At l_more (0 : Int) (14 : Int))))))) 1065353216 (5 : Int)).2) == ((p_spec_BreaksOf ((p_spec_B10Signal l_code (IntKind.wrap .i64 (2 + ((p_laws_b10At l_more (0 : Int) (14 : Int))))))) 1065353216 (5 : Int)).2) then (bif ((((p_impl_BreaksOf l_steps 1056964608 (0 : Int)).1).length : Int) : Int) == 0 then (bif ((((p_impl_BreaksOf l_steps 1056964608 (8 : Int)).1).length : Int) : Int) == 2 then (bif ((((p_impl_BreaksOf l_steps 1056964608 (8 : Int)).1).getD (0 : Int).toNat 0) : Int) == IntKind.wrap .i64 (2 + ((p_laws_b10At l_more (1 : Int) (5 : Int)))) then (bif ((((p_impl_BreaksOf l_steps 1056964608 (8 : Int)).1).getD (1 : Int).toNat 0) : Int) == IntKind.wrap .i64 ((IntKind.wrap .i64 ((IntKind.wrap .i64 (2 + ((p_laws_b10At l_more (1 : Int) (5 : Int))))) + 2)) + ((p_laws_b10At l_more (2 : Int) (5 : Int)))) then (bif !((p_impl_BreaksOf ((p_spec_B10Signal l_code (IntKind.wrap .i64 (2 + ((p_laws_b10At l_more (0 : Int) (14 : Int))))))) 1065353216 (5 : Int)).2) then true else (p_laws_b10Ints ((p_impl_BreaksOf ((p_spec_B10Signal l_code (IntKind.wrap .i64 (2 + ((p_laws_b10At l_more (0 : Int) (14 : Int))))))) 1065353216 (5 : Int)).1) ((p_spec_BreaksOf ((p_spec_B10Signal l_code (IntKind.wrap .i64 (2 + ((p_laws_b10At l_more (0 : Int) (14 : Int))))))) 1065353216 (5 : Int)).1))) else false) else false) else false) else false) else false) else false) else false)) (Int.toNat (IntKind.wrap .i64 ((IntKind.wrap .i64 ((IntKind.wrap .i64 ((IntKind.wrap .i64 (2 + ((p_laws_b10At l_more (1 : Int) (5 : Int))))) + 2)) + ((p_laws_b10At l_more (2 : Int) (5 : Int))))) + 3) - (0 : Int)) + 1) ([] : List Nat) (0 : Int)))))
def p_laws_FnBreaks_l1_s := fun l_code l_more μ before behind sum means t97 => @p_laws_FnBreaks_l1.eq_2 l_code l_more before behind sum means t97 μ
def p_laws_FnBreaks (l_code : List UInt8) (l_more : List UInt8) : Bool := ((bif (p_laws_b10Long l_code l_more) then true else (bif !((p_impl_BestBreak ((p_spec_B10Signal l_code (IntKind.wrap .i64 (2 + ((p_laws_b10At l_more (0 : Int) (14 : Int)))))))).2.2) then false else (bif decide (((p_impl_BestBreak ((p_spec_B10Signal l_code (IntKind.wrap .i64 (2 + ((p_laws_b10At l_more (0 : Int) (14 : Int)))))))).1 : Int) < 1) then false else (bif decide (((((p_spec_B10Signal l_code (IntKind.wrap .i64 (2 + ((p_laws_b10At l_more (0 : Int) (14 : Int))))))).length : Int) : Int) ≤ (p_impl_BestBreak ((p_spec_B10Signal l_code (IntKind.wrap .i64 (2 + ((p_laws_b10At l_more (0 : Int) (14 : Int)))))))).1) then false else (bif flt .f32 ((p_impl_BestBreak ((p_spec_B10Signal l_code (IntKind.wrap .i64 (2 + ((p_laws_b10At l_more (0 : Int) (14 : Int)))))))).2.1) 0 then false else (bif !((p_impl_SegmentMeans ((p_spec_B10Signal l_code (IntKind.wrap .i64 (2 + ((p_laws_b10At l_more (0 : Int) (14 : Int))))))) ([])).2) then false else (bif !((p_impl_SegmentMeans ((p_spec_B10Signal l_code (IntKind.wrap .i64 (2 + ((p_laws_b10At l_more (0 : Int) (14 : Int))))))) ([((p_impl_BestBreak ((p_spec_B10Signal l_code (IntKind.wrap .i64 (2 + ((p_laws_b10At l_more (0 : Int) (14 : Int)))))))).1 : Int)])).2) then false else (bif ((((p_impl_SegmentMeans ((p_spec_B10Signal l_code (IntKind.wrap .i64 (2 + ((p_laws_b10At l_more (0 : Int) (14 : Int))))))) ([])).1).length : Int) : Int) != (((p_spec_B10Signal l_code (IntKind.wrap .i64 (2 + ((p_laws_b10At l_more (0 : Int) (14 : Int))))))).length : Int) then false else (bif ((((p_impl_SegmentMeans ((p_spec_B10Signal l_code (IntKind.wrap .i64 (2 + ((p_laws_b10At l_more (0 : Int) (14 : Int))))))) ([((p_impl_BestBreak ((p_spec_B10Signal l_code (IntKind.wrap .i64 (2 + ((p_laws_b10At l_more (0 : Int) (14 : Int)))))))).1 : Int)])).1).length : Int) : Int) != (((p_spec_B10Signal l_code (IntKind.wrap .i64 (2 + ((p_laws_b10At l_more (0 : Int) (14 : Int))))))).length : Int) then false else (p_laws_FnBreaks_l1 l_code l_more (Int.toNat ((((p_spec_B10Signal l_code (IntKind.wrap .i64 (2 + ((p_laws_b10At l_more (0 : Int) (14 : Int))))))).length : Int) - (0 : Int)) + 1) 0 0 0 0 (0 : Int))))))))))))
def p_laws_FnBreaks_eq := @p_laws_FnBreaks.eq_1
def T_laws_FnBreaks (code_a : Option Addr) (code_n : Nat) (code_e : Nat) (more_a : Option Addr) (more_n : Nat) (more_e : Nat) (H : AHeap) (K : Bool → AHeap → Prop) : Prop := ∃ l_code : List UInt8, ∃ l_more : List UInt8, IsL (fun c : UInt8 => Value.int .u8 c.toNat) H code_a code_n l_code ∧ IsL (fun c : UInt8 => Value.int .u8 c.toNat) H more_a more_n l_more ∧ ∀ H' : AHeap, K true H'

theorem spec_fin (x : Nat) : p_spec_l01Finite x = fin .f32 x := fin_asked x
theorem impl_fin (x : Nat) : p_impl_IsFinite x = fin .f32 x := fin_asked x
theorem l02Finite_go (l : List Nat) : ∀ (μ : Nat) (t : Bool) (i : Nat), l.length - i < μ → p_spec_l02Finite_l1 l μ t (i : Int) = (l.drop i).all (fin .f32) := by
  intro μ
  induction μ with
  | zero => intro t i h; omega
  | succ μ ih =>
    intro t i hm
    rw [p_spec_l02Finite_l1_s]
    by_cases h : i < l.length
    · rw [decide_eq_true (show (i : Int) < (l.length : Int) by omega), cond_true, Int.toNat_natCast, spec_fin]
      rw [List.drop_eq_getElem_cons h, List.all_cons, List.getD_eq_getElem?_getD, List.getElem?_eq_getElem h, Option.getD_some]
      have := ih t (i + 1) ω3
      cases fin .f32 l[i]
      · rfl
      · simp only [Bool.not_true, cond_false, Bool.true_and]; exact this
    · rw [decide_eq_false (show ¬ (i : Int) < (l.length : Int) by omega), cond_false, List.drop_eq_nil_of_le ω3]; rfl
theorem l02Finite_all (l : List Nat) : p_spec_l02Finite l = l.all (fin .f32) := by
  rw [p_spec_l02Finite_eq]
  have := l02Finite_go l (Int.toNat ((l.length : Int) - (0 : Int)) + 1) false 0 ω3
  simpa using this
theorem areFinite_in (ls : List (List Nat)) (t2 : Bool) (t9 : Int) (k : Bool → Int → Bool) : ∀ (μ : Nat) (t : Bool) (i : Nat), i ≤ (ls.getD t9.toNat []).length → (ls.getD t9.toNat []).length - i < μ →
    p_impl_areFinite_l2 ls t2 t9 k μ t (i : Int) = bif ((ls.getD t9.toNat []).drop i).all (fin .f32) then k t ((ls.getD t9.toNat []).length : Int) else false := by
  intro μ
  generalize hl : ls.getD t9.toNat [] = l
  induction μ with
  | zero => intro t i _ h; omega
  | succ μ ih =>
    intro t i hi hm
    rw [p_impl_areFinite_l2_s, hl]
    by_cases h : i < l.length
    · rw [decide_eq_true (show (i : Int) < (l.length : Int) by omega), cond_true, Int.toNat_natCast, impl_fin]
      rw [List.drop_eq_getElem_cons h, List.all_cons, List.getD_eq_getElem?_getD, List.getElem?_eq_getElem h, Option.getD_some]
      have := ih t (i + 1) ω3 ω3
      cases fin .f32 l[i]
      · rfl
      · simp only [Bool.not_true, cond_false, Bool.true_and]; exact this
    · rw [decide_eq_false (show ¬ (i : Int) < (l.length : Int) by omega), cond_false, List.drop_eq_nil_of_le ω3, show i = l.length by omega]; rfl
theorem areFinite_go (ls : List (List Nat)) : ∀ (μ : Nat) (t : Bool) (i : Nat), ls.length - i < μ → p_impl_areFinite_l1 ls μ t (i : Int) = (ls.drop i).all (fun l => l.all (fin .f32)) := by
  intro μ
  induction μ with
  | zero => intro t i h; omega
  | succ μ ih =>
    intro t i hm
    rw [p_impl_areFinite_l1_s]
    by_cases h : i < ls.length
    · rw [decide_eq_true (show (i : Int) < (ls.length : Int) by omega), cond_true]
      have := areFinite_in ls t (i : Int) (fun t2 t15 => p_impl_areFinite_l1 ls μ t2 ((i : Int) + 1)) (Int.toNat ((((ls).getD ((i : Int) : Int).toNat []).length : Int) - (0 : Int)) + 1) t 0 (Nat.zero_le _) ω3
      refine Eq.trans this ?_
      rw [Int.toNat_natCast, List.drop_zero, List.drop_eq_getElem_cons h, List.all_cons, List.getD_eq_getElem?_getD, List.getElem?_eq_getElem h, Option.getD_some]
      have := ih t (i + 1) ω3
      cases ls[i].all (fin .f32)
      · rfl
      · simp only [cond_true, Bool.true_and]; exact this
    · rw [decide_eq_false (show ¬ (i : Int) < (ls.length : Int) by omega), cond_false, List.drop_eq_nil_of_le ω3]; rfl
theorem areFinite_all (ls : List (List Nat)) : p_impl_areFinite ls = ls.all (fun l => l.all (fin .f32)) := by
  rw [p_impl_areFinite_eq]
  have := areFinite_go ls (Int.toNat ((ls.length : Int) - (0 : Int)) + 1) false 0 ω3
  simpa using this
theorem finite_same (l : List Nat) : p_impl_areFinite [l] = p_spec_l02Finite l := by rw [areFinite_all, l02Finite_all]; simp
theorem added_fold_go (l : List Nat) : ∀ (μ s i : Nat), l.length - i < μ → p_impl_added_l1 l μ s (i : Int) = (l.drop i).foldl (fadd .f32) s := by
  intro μ
  induction μ with
  | zero => intro s i h; omega
  | succ μ ih =>
    intro s i hm
    rw [p_impl_added_l1_s]
    by_cases h : i < l.length
    · rw [decide_eq_true (show (i : Int) < (l.length : Int) by omega), cond_true, Int.toNat_natCast]
      have := ih (fadd .f32 s (l.getD i 0)) (i + 1) ω3
      rw [List.drop_eq_getElem_cons h, List.foldl_cons]
      rw [show l.getD i 0 = l[i] by rw [List.getD_eq_getElem?_getD, List.getElem?_eq_getElem h]; rfl] at this ⊢
      exact this
    · rw [decide_eq_false (show ¬ (i : Int) < (l.length : Int) by omega), cond_false, List.drop_eq_nil_of_le ω3]; rfl
theorem added_fold (l : List Nat) : p_impl_added l = l.foldl (fadd .f32) 0 := by
  rw [p_impl_added_eq]
  have := added_fold_go l (Int.toNat ((l.length : Int) - 0) + 1) 0 0 ω3
  simpa using this
/-! comparisons of 64 bits -/
theorem finList {l : List Nat} (h : ∀ y ∈ l, fin .f32 y = true) : p_impl_areFinite [l] = true := by
  rw [areFinite_all]; simpa using h
theorem isLong_t {l : List Nat} (h1 : 1 ≤ l.length) (h2 : l.length ≤ 128) (h : ∀ y ∈ l, fin .f32 y = true) : p_impl_isLong l = true := by
  rw [p_impl_isLong_eq, finList h]
  unfold p_impl_within
  rw [decide_eq_true (show (1 : Int) ≤ (l.length : Int) by omega), decide_eq_true (show (l.length : Int) ≤ 128 by omega)]; rfl
theorem mean_go (l : List Nat) : ∀ (μ s : Nat) (i : Nat), l.length - i < μ → fdiv .f32 (p_impl_added_l1 l μ s (i : Int)) (FloatKind.nearest .f32 (l.length : Int)) = p_spec_l05Mean_l1 l μ s (i : Int) := by
  intro μ
  induction μ with
  | zero => intro s i h; omega
  | succ μ ih =>
    intro s i hm
    rw [p_impl_added_l1_s, p_spec_l05Mean_l1_s]
    by_cases h : i < l.length
    · rw [decide_eq_true (show (i : Int) < (l.length : Int) by omega), cond_true, cond_true]
      exact ih _ (i + 1) ω3
    · rw [decide_eq_false (show ¬ (i : Int) < (l.length : Int) by omega), cond_false, cond_false]
theorem mean_same (l : List Nat) : p_impl_mean l = p_spec_l05Mean l := by
  rw [p_impl_mean_eq, p_spec_l05Mean_eq, p_impl_added_eq]
  exact mean_go l _ 0 0 ω3
theorem long_same (l : List Nat) : p_impl_isLong l = p_spec_l03Long l := by
  rw [p_impl_isLong_eq, p_spec_l03Long_eq, finite_same]
  unfold p_impl_within
  cases decide ((1 : Int) ≤ (l.length : Int)) <;> cases decide (((l.length : Int) : Int) ≤ 128) <;> rfl
theorem long_t {l : List Nat} (h : p_spec_l03Long l = true) : 1 ≤ l.length ∧ l.length ≤ 128 ∧ l.all (fin .f32) = true := by
  rw [p_spec_l03Long_eq, l02Finite_all] at h
  by_cases h1 : (1 : Int) ≤ (l.length : Int)
  · rw [decide_eq_true h1, cond_true] at h
    by_cases h2 : (l.length : Int) ≤ 128
    · rw [decide_eq_true h2, cond_true] at h; exact ⟨by omega, by omega, h⟩
    · rw [decide_eq_false h2] at h; cases h
  · rw [decide_eq_false h1] at h; cases h
theorem fin_getD {l : List Nat} (h : l.all (fin .f32) = true) (i : Nat) : fin .f32 (l.getD i 0) = true := by
  rw [List.getD_eq_getElem?_getD]
  cases hx : l[i]? with
  | none => exact fin_zero _
  | some y => exact List.all_eq_true.1 h y (List.mem_of_getElem? hx)
theorem added_nn {l : List Nat} (hl : l.all (fin .f32) = true) : ∀ (μ s : Nat) (i : Int), nn .f32 s → nn .f32 (p_impl_added_l1 l μ s i) := by
  intro μ
  induction μ with
  | zero => intro s i _; exact nn_fin (fin_zero _)
  | succ μ ih =>
    intro s i hs
    rw [p_impl_added_l1_s]
    cases decide (i < (l.length : Int))
    · exact hs
    · exact ih _ _ (nn_add_fin hs (fin_getD hl _))
theorem mean_nn {l : List Nat} (hl : l.all (fin .f32) = true) (h1 : 1 ≤ l.length) (h2 : l.length < 300) : nn .f32 (p_spec_l05Mean l) := by
  rw [← mean_same, p_impl_mean_eq, p_impl_added_eq]
  have := fin_small l.length h2
  refine nn_div_fin (added_nn hl _ _ _ (nn_fin (fin_zero _))) this.1 ?_
  intro h; have := this.2.2 h; omega
theorem all_take {l : List Nat} (h : l.all (fin .f32) = true) (a b : Nat) : ((l.drop a).take b).all (fin .f32) = true :=
  List.all_eq_true.2 fun x hx => List.all_eq_true.1 h x (List.mem_of_mem_drop (List.mem_of_mem_take hx))
def gain (l : List Nat) (m : Nat) (k : Int) : Nat := fadd .f32 (fmul .f32 (fmul .f32 (FloatKind.nearest .f32 k) (fsub .f32 (p_spec_l05Mean ((l.drop (0 : Int).toNat).take (k - 0).toNat)) m)) (fsub .f32 (p_spec_l05Mean ((l.drop (0 : Int).toNat).take (k - 0).toNat)) m))
  (fmul .f32 (fmul .f32 (FloatKind.nearest .f32 ((l.length : Int) - k)) (fsub .f32 (p_spec_l05Mean ((l.drop k.toNat).take ((l.length : Int) - k).toNat)) m)) (fsub .f32 (p_spec_l05Mean ((l.drop k.toNat).take ((l.length : Int) - k).toNat)) m))
theorem gain_impl (l : List Nat) (m : Nat) (k : Int) : p_impl_gainAt l m k = gain l m k := by rw [p_impl_gainAt_eq]; simp only [mean_same]; rfl
theorem gain_un {l : List Nat} {m : Nat} {k : Int} (h0 : 1 ≤ k) (h1 : k < l.length) (hl : l.length < 300) : un .f32 (gain l m k) := by
  have a := fin_small k.toNat ω3
  have b := fin_small ((l.length : Int) - k).toNat ω3
  rw [Int.toNat_of_nonneg ω3] at a
  rw [Int.toNat_of_nonneg ω3] at b
  exact un_add (un_sq a.2.1) (un_sq b.2.1)
theorem nn_add_un {k : FloatKind} {x y : Nat} (hx : nn k x) (hy : nn k y) (ux : un k x) (uy : un k y) : nn k (fadd k x y) := by
  have ux' : (k.format.read x).neg = false := ux.resolve_left (by unfold nn at hx; rw [hx]; simp)
  have uy' : (k.format.read y).neg = false := uy.resolve_left (by unfold nn at hy; rw [hy]; simp)
  unfold nn at hx hy
  cases h1 : k.format.read x <;> cases h2 : k.format.read y <;> rw [h1] at hx ux' <;> rw [h2] at hy uy'
  all_goals first | (cases hx; done) | (cases hy; done) | skip
  · exact nn_some (d := _) (by rw [h1, h2]; rfl) rfl
  · exact nn_some (d := _) (by rw [h1, h2]; rfl) rfl
  · exact nn_some (d := _) (by rw [h1, h2]; rfl) rfl
  · simp only [Ieee.Datum.neg] at ux' uy'
    subst ux'; subst uy'
    exact nn_some (d := .infinity false) (by rw [h1, h2]; rfl) rfl
theorem gain_nn {l : List Nat} {m : Nat} {k : Int} (h0 : 1 ≤ k) (h1 : k < l.length) (hl : l.length < 300) (hf : l.all (fin .f32) = true) (hm : fin .f32 m = true) : nn .f32 (gain l m k) := by
  have a := fin_small k.toNat ω3
  have b := fin_small ((l.length : Int) - k).toNat ω3
  rw [Int.toNat_of_nonneg ω3] at a
  rw [Int.toNat_of_nonneg ω3] at b
  have n1 : nn .f32 (fsub .f32 (p_spec_l05Mean ((l.drop (0 : Int).toNat).take (k - 0).toNat)) m) := nn_sub_fin (mean_nn (all_take hf _ _) (by simp; omega) (by simp; omega)) hm
  have n2 : nn .f32 (fsub .f32 (p_spec_l05Mean ((l.drop k.toNat).take ((l.length : Int) - k).toNat)) m) := nn_sub_fin (mean_nn (all_take hf _ _) (by simp; omega) (by simp; omega)) hm
  refine nn_add_un (nn_sq a.1 (fun h => ?_) n1) (nn_sq b.1 (fun h => ?_) n2) (un_sq a.2.1) (un_sq b.2.1)
  · have := a.2.2 h; omega
  · have := b.2.2 h; omega
theorem gain_fin {l : List Nat} {m : Nat} {k : Int} (h : fin .f32 (gain l m k) = true) : fin .f32 m = true :=
  (fin_of_sub (fin_of_mul (fin_of_add h).1).2).2
theorem break_inf (l : List Nat) : ∀ (μ : Nat) (vat : Int) (k : Int), p_impl_BestBreak_l1 l μ vat (FloatKind.f32.format.word false FloatKind.f32.format.infRung) k = (0, 0, false) := by
  intro μ
  induction μ with
  | zero => intro vat k; rfl
  | succ μ ih =>
    intro vat k
    rw [p_impl_BestBreak_l1_s, inf_flt, ih]
    have e : fin .f32 (FloatKind.f32.format.word false FloatKind.f32.format.infRung) = false := by decide +kernel
    rw [impl_fin, e]
    cases decide (k < (l.length : Int)) <;> rfl
theorem break_nan (l : List Nat) {x : Nat} (hx : (FloatKind.f32.format.read x).isNaN = true) : ∀ (μ : Nat) (vat : Int) (k : Int), p_impl_BestBreak_l1 l μ vat x k = (0, 0, false) := by
  intro μ
  induction μ with
  | zero => intro vat k; rfl
  | succ μ ih =>
    intro vat k
    rw [p_impl_BestBreak_l1_s, flt_nan1 hx, ih]
    have e : fin .f32 x = false := by
      obtain ⟨s, t, e⟩ := isNaN_spec _ hx
      unfold fin; rw [e]
    rw [impl_fin, e]
    cases decide (k < (l.length : Int)) <;> rfl
theorem wd_gain (l : List Nat) (m : Nat) (k : Int) : Wd .f32 (gain l m k) := Wd.add _ _ _
theorem break_go {l : List Nat} (hl : l.length < 300) (hf : l.all (fin .f32) = true) (hm : fin .f32 (p_spec_l05Mean l) = true) : ∀ (μ : Nat) (vat : Int) (best : Nat) (k : Int) (t2 : Int) (t3 : Nat) (t4 : Bool), 1 ≤ k → 1 ≤ vat → fin .f32 best = true → (l.length : Int) - k < μ →
    p_impl_BestBreak_l1 l μ vat best k = p_spec_l05Break_l1 l μ t2 t3 t4 vat best k := by
  intro μ
  induction μ with
  | zero =>
    intro vat best k t2 t3 t4 _ _ _ h
    rfl
  | succ μ ih =>
    intro vat best k t2 t3 t4 hk hv hb hμ
    rw [p_impl_BestBreak_l1_s, p_spec_l05Break_l1_s, mean_same, gain_impl]
    by_cases h : k < (l.length : Int)
    · rw [decide_eq_true h, cond_true, cond_true, wrap64 (n := (l.length : Int) - k) ω3 ω3]
      show _ = (bif !(p_spec_l01Finite (gain l (p_spec_l05Mean l) k)) then _ else bif vat == 0 then p_spec_l05Break_l1 l μ t2 t3 t4 k (gain l (p_spec_l05Mean l) k) (k + 1) else bif flt .f32 best (gain l (p_spec_l05Mean l) k) then p_spec_l05Break_l1 l μ t2 t3 t4 k (gain l (p_spec_l05Mean l) k) (k + 1) else _)
      rw [spec_fin]
      have hz : (vat == 0) = false := by simp; omega
      rw [hz, cond_false]
      cases hg : fin .f32 (gain l (p_spec_l05Mean l) k)
      · have := inf_of (wd_gain _ _ _) (gain_un hk h hl) (gain_nn hk h hl hf hm) hg
        rw [this, flt_inf hb, break_inf]; rfl
      · rw [Bool.not_true, cond_false]
        cases flt .f32 best (gain l (p_spec_l05Mean l) k)
        · exact ih _ _ _ _ _ _ ω3 hv hb ω3
        · exact ih _ _ _ _ _ _ ω3 hk hg ω3
    · rw [decide_eq_false h, cond_false, cond_false, impl_fin, hb]; rfl
/-! bounds of products -/
theorem mul_bd {x y a b : Rat} (h1 : -a ≤ x) (h2 : x ≤ a) (h3 : -b ≤ y) (h4 : y ≤ b) : -(a * b) ≤ x * y ∧ x * y ≤ a * b := by
  have q1 := Rat.mul_nonneg (show 0 ≤ a - x by grind) (show 0 ≤ b + y by grind)
  have q2 := Rat.mul_nonneg (show 0 ≤ a + x by grind) (show 0 ≤ b - y by grind)
  have q3 := Rat.mul_nonneg (show 0 ≤ a - x by grind) (show 0 ≤ b - y by grind)
  have q4 := Rat.mul_nonneg (show 0 ≤ a + x by grind) (show 0 ≤ b + y by grind)
  constructor <;> grind
/-! exact sums of quarters -/
def rsum : List Nat → Rat
  | [] => 0
  | y :: r => rq .f32 y + rsum r
def Qs (l : List Nat) : Prop := ∀ y ∈ l, Qt y
theorem qt_tab : ∀ k : Nat, k < 65 → fin .f32 (fdiv .f32 (FloatKind.nearest .f32 ((k : Int) - 32)) 1082130432) = true ∧ sv .f32 (fdiv .f32 (FloatKind.nearest .f32 ((k : Int) - 32)) 1082130432) = ((k : Int) - 32) * 2 ^ 147 := by decide +kernel
theorem qt_sv {y : Nat} (h : Qt y) : fin .f32 y = true ∧ ∃ c : Int, -32 ≤ c ∧ c ≤ 32 ∧ sv .f32 y = c * 2 ^ 147 := by
  obtain ⟨k, hk, rfl⟩ := h
  obtain ⟨t1, t2⟩ := qt_tab k hk
  exact ⟨t1, _, by omega, by omega, t2⟩
theorem rq_quart {y : Nat} {c : Int} (h : sv .f32 y = c * 2 ^ 147) : rq .f32 y * 4 = (c : Rat) := rq_lit 147 2 h rfl
theorem rq_of_quart {x y z : Nat} {a b : Int} (h1 : sv .f32 x = a * 2 ^ 147) (h2 : sv .f32 y = b * 2 ^ 147) (h3 : sv .f32 z = (a + b) * 2 ^ 147) : rq .f32 z = rq .f32 x + rq .f32 y := by
  have e1 := rq_quart h1
  have e2 := rq_quart h2
  have e3 := rq_quart h3
  rw [Rat.intCast_add] at e3
  clear h1 h2 h3
  grind
theorem fold_q : ∀ (l : List Nat) (s : Nat) (c : Int) (m : Nat), Qs l → m + l.length ≤ 24 → fin .f32 s = true → sv .f32 s = c * 2 ^ 147 → -(32 * (m : Int)) ≤ c → c ≤ 32 * (m : Int) →
    fin .f32 (l.foldl (fadd .f32) s) = true ∧ rq .f32 (l.foldl (fadd .f32) s) = rq .f32 s + rsum l := by
  intro l
  induction l with
  | nil => intro s c m _ _ hf _ _ _; exact ⟨hf, by show rq .f32 s = rq .f32 s + 0; rw [Rat.add_zero]⟩
  | cons y r ih =>
    intro s c m hq hm hf hs h1 h2
    obtain ⟨fy, d, d1, d2, hd⟩ := qt_sv (hq y (List.mem_cons_self ..))
    simp only [List.length_cons] at hm
    have hb : (c + d).natAbs ≤ 2 * FloatKind.f32.format.binade := by
      show _ ≤ 2 * 8388608
      clear hs hd; omega
    obtain ⟨f1, f2⟩ := add_exact (u := c + d) (T := 147) hf fy (top_32 ω12) (by rw [hs, hd, Int.add_mul]) hb
    have f3 : sv .f32 (fadd .f32 s y) = (c + d) * 2 ^ 147 := by rw [f2, hs, hd, Int.add_mul]
    have e := rq_of_quart hs hd f3
    clear f2
    have b1 : -(32 * ((m + 1 : Nat) : Int)) ≤ c + d := by clear hs hd f3; omega
    have b2 : c + d ≤ 32 * ((m + 1 : Nat) : Int) := by clear hs hd f3; omega
    obtain ⟨g1, g2⟩ := ih (fadd .f32 s y) (c + d) (m + 1) (fun z hz => hq z (List.mem_cons_of_mem _ hz)) (by clear hs hd f3; omega) f1 f3 b1 b2
    refine ⟨g1, g2.trans ?_⟩
    rw [e]
    show _ = _ + (rq .f32 y + rsum r)
    rw [Rat.add_assoc]
theorem rq_le_eight {y : Nat} (h : Qt y) : -8 ≤ rq .f32 y ∧ rq .f32 y ≤ 8 := by
  obtain ⟨_, c, c1, c2, hc⟩ := qt_sv h
  have e := rq_quart hc
  have a1 : ((-32 : Int) : Rat) ≤ (c : Rat) := Rat.intCast_le_intCast.2 c1
  have a2 : (c : Rat) ≤ ((32 : Int) : Rat) := Rat.intCast_le_intCast.2 c2
  rw [show ((-32 : Int) : Rat) = -32 from rfl] at a1
  rw [show ((32 : Int) : Rat) = 32 from rfl] at a2
  clear hc
  constructor <;> grind
theorem rsum_bd : ∀ (l : List Nat), Qs l → -(8 * ((l.length : Int) : Rat)) ≤ rsum l ∧ rsum l ≤ 8 * ((l.length : Int) : Rat) := by
  intro l
  induction l with
  | nil =>
    intro _
    show -(8 * (0 : Rat)) ≤ 0 ∧ (0 : Rat) ≤ 8 * 0
    constructor <;> grind
  | cons y r ih =>
    intro h
    obtain ⟨a, b⟩ := ih fun z hz => h z (List.mem_cons_of_mem _ hz)
    obtain ⟨c, d⟩ := rq_le_eight (h y (List.mem_cons_self ..))
    have e : (((y :: r).length : Int) : Rat) = ((r.length : Int) : Rat) + 1 := by rw [List.length_cons, Int.natCast_add, Rat.intCast_add]; rfl
    rw [e]
    show _ ≤ rq .f32 y + rsum r ∧ rq .f32 y + rsum r ≤ _
    constructor <;> grind
theorem mean_q {l : List Nat} (h : Qs l) (h1 : 1 ≤ l.length) (h2 : l.length ≤ 24) : fin .f32 (p_impl_mean l) = true ∧ -(((l.length : Int) : Rat) / 524288) ≤ rq .f32 (p_impl_mean l) * ((l.length : Int) : Rat) - rsum l ∧ rq .f32 (p_impl_mean l) * ((l.length : Int) : Rat) - rsum l ≤ ((l.length : Int) : Rat) / 524288 := by
  have s0 : sv .f32 0 = 0 * 2 ^ 147 := by rw [sv_zero, Int.zero_mul]
  obtain ⟨f1, e1⟩ := fold_q l 0 0 0 h ω3 (fin_zero _) s0 ω12 ω12
  rw [rq_zero, Rat.zero_add] at e1
  obtain ⟨b1, b2⟩ := rsum_bd l h
  obtain ⟨f2, e2⟩ := rq_near .f32 (n := (l.length : Int)) ω3
  have hn : (0 : Rat) < ((l.length : Int) : Rat) := Rat.intCast_pos.2 ω3
  rw [p_impl_mean_eq, added_fold]
  obtain ⟨f3, g1, g2⟩ := rdiv (k := .f32) 4 (A := 16) ω12 ω12 f1 f2 (by rw [e2]; exact hn) (by rw [e1, e2]; grind) (by rw [e1, e2]; grind)
  rw [e1, e2, ur32] at g1 g2
  exact ⟨f3, by grind, by grind⟩
theorem mean_q8 {l : List Nat} (h : Qs l) (h1 : 1 ≤ l.length) (h2 : l.length ≤ 24) : -(8 + 1 / 524288) ≤ rq .f32 (p_impl_mean l) ∧ rq .f32 (p_impl_mean l) ≤ 8 + 1 / 524288 := by
  obtain ⟨_, g1, g2⟩ := mean_q h h1 h2
  obtain ⟨b1, b2⟩ := rsum_bd l h
  have hn : (0 : Rat) < ((l.length : Int) : Rat) := Rat.intCast_pos.2 ω3
  constructor
  · rw [← le_mul_iff hn]; grind
  · rw [← le_mul_iff hn]; grind
theorem half_gain {m1 m : Nat} {k : Int} (hk0 : 1 ≤ k) (hk : k ≤ 15) (f1 : fin .f32 m1 = true) (f : fin .f32 m = true) (a1 : -(8 + 1 / 524288) ≤ rq .f32 m1) (a2 : rq .f32 m1 ≤ 8 + 1 / 524288) (b1 : -(8 + 1 / 524288) ≤ rq .f32 m) (b2 : rq .f32 m ≤ 8 + 1 / 524288) :
    fin .f32 (fmul .f32 (fmul .f32 (FloatKind.nearest .f32 k) (fsub .f32 m1 m)) (fsub .f32 m1 m)) = true ∧
    -(29000 / 16777216) ≤ rq .f32 (fmul .f32 (fmul .f32 (FloatKind.nearest .f32 k) (fsub .f32 m1 m)) (fsub .f32 m1 m)) - (k : Rat) * (rq .f32 m1 - rq .f32 m) * (rq .f32 m1 - rq .f32 m) ∧
    rq .f32 (fmul .f32 (fmul .f32 (FloatKind.nearest .f32 k) (fsub .f32 m1 m)) (fsub .f32 m1 m)) - (k : Rat) * (rq .f32 m1 - rq .f32 m) * (rq .f32 m1 - rq .f32 m) ≤ 29000 / 16777216 ∧
    -4500 ≤ (k : Rat) * (rq .f32 m1 - rq .f32 m) * (rq .f32 m1 - rq .f32 m) ∧ (k : Rat) * (rq .f32 m1 - rq .f32 m) * (rq .f32 m1 - rq .f32 m) ≤ 4500 := by
  obtain ⟨fd, d1, d2⟩ := rsub (k := .f32) 5 (A := 32) ω12 ω12 f1 f (by grind) (by grind)
  obtain ⟨fk, ek⟩ := rq_near .f32 (n := k) ω3
  have k1 : (1 : Rat) ≤ (k : Rat) := Rat.intCast_le_intCast.2 hk0
  have k2 : (k : Rat) ≤ 15 := Rat.intCast_le_intCast.2 hk
  rw [ur32] at d1 d2
  generalize fsub .f32 m1 m = d at *
  generalize FloatKind.nearest .f32 k = w at *
  generalize (k : Rat) = kr at *
  generalize hD : rq .f32 m1 - rq .f32 m = D at *
  have D1 : -(1601 / 100) ≤ D := by grind
  have D2 : D ≤ 1601 / 100 := by grind
  clear hD a1 a2 b1 b2
  obtain ⟨p1, p2⟩ := mul_bd (x := kr) (a := 15) (y := rq .f32 d) (b := 1602 / 100) (by grind) k2 (by grind) (by grind)
  obtain ⟨fp, x1, x2⟩ := rmul (k := .f32) 8 (A := 256) ω12 ω12 fk fd (by rw [ek]; grind) (by rw [ek]; grind)
  rw [ek, ur32] at x1 x2
  generalize fmul .f32 w d = p at *
  obtain ⟨q1, q2⟩ := mul_bd (x := rq .f32 p) (a := 241) (y := rq .f32 d) (b := 1602 / 100) (by grind) (by grind) (by grind) (by grind)
  obtain ⟨fq, y1, y2⟩ := rmul (k := .f32) 12 (A := 4096) ω12 ω12 fp fd (by grind) (by grind)
  rw [ur32] at y1 y2
  generalize fmul .f32 p d = q at *
  obtain ⟨e1, e2⟩ := mul_bd (x := rq .f32 p - kr * rq .f32 d) (a := 256 / 16777216) (y := rq .f32 d) (b := 1602 / 100) (by grind) (by grind) (by grind) (by grind)
  obtain ⟨e3, e4⟩ := mul_bd (x := rq .f32 d - D) (a := 32 / 16777216) (y := rq .f32 d + D) (b := 3203 / 100) (by grind) (by grind) (by grind) (by grind)
  obtain ⟨e5, e6⟩ := mul_bd (x := kr) (a := 15) (y := (rq .f32 d - D) * (rq .f32 d + D)) (b := 32 / 16777216 * (3203 / 100)) (by grind) k2 e3 e4
  obtain ⟨e7, e8⟩ := mul_bd (x := kr) (a := 15) (y := D) (b := 1601 / 100) (by grind) k2 D1 D2
  obtain ⟨e9, e10⟩ := mul_bd (x := kr * D) (a := 15 * (1601 / 100)) (y := D) (b := 1601 / 100) e7 e8 D1 D2
  refine ⟨fq, ?_, ?_, ?_, ?_⟩ <;> grind
theorem gain_at {L : List Nat} {m k : Nat} (hk : k ≤ L.length) : p_impl_gainAt L m (k : Int) = fadd .f32 (fmul .f32 (fmul .f32 (FloatKind.nearest .f32 (k : Int)) (fsub .f32 (p_impl_mean (L.take k)) m)) (fsub .f32 (p_impl_mean (L.take k)) m))
    (fmul .f32 (fmul .f32 (FloatKind.nearest .f32 ((L.length : Int) - (k : Int))) (fsub .f32 (p_impl_mean (L.drop k)) m)) (fsub .f32 (p_impl_mean (L.drop k)) m)) := by
  rw [p_impl_gainAt_eq, Int.sub_zero, Int.toNat_natCast, show (0 : Int).toNat = 0 from rfl, List.drop_zero, show ((L.length : Int) - (k : Int)).toNat = (L.drop k).length by rw [List.length_drop]; omega, List.take_length]
theorem qs_take {L : List Nat} (h : Qs L) (k : Nat) : Qs (L.take k) := fun y hy => h y (List.mem_of_mem_take hy)
theorem qs_drop {L : List Nat} (h : Qs L) (k : Nat) : Qs (L.drop k) := fun y hy => h y (List.mem_of_mem_drop hy)
def gx (L : List Nat) (k : Nat) : Rat := ((k : Int) : Rat) * (rq .f32 (p_impl_mean (L.take k)) - rq .f32 (p_impl_mean L)) * (rq .f32 (p_impl_mean (L.take k)) - rq .f32 (p_impl_mean L)) +
  (((L.length : Int) - (k : Int) : Int) : Rat) * (rq .f32 (p_impl_mean (L.drop k)) - rq .f32 (p_impl_mean L)) * (rq .f32 (p_impl_mean (L.drop k)) - rq .f32 (p_impl_mean L))
theorem gain_q {L : List Nat} (h : Qs L) (hl : L.length ≤ 15) {k : Nat} (h1 : 1 ≤ k) (h2 : k < L.length) : fin .f32 (p_impl_gainAt L (p_impl_mean L) (k : Int)) = true ∧
    -(75000 / 16777216) ≤ rq .f32 (p_impl_gainAt L (p_impl_mean L) (k : Int)) - gx L k ∧ rq .f32 (p_impl_gainAt L (p_impl_mean L) (k : Int)) - gx L k ≤ 75000 / 16777216 := by
  have l1 : (L.take k).length = k := by rw [List.length_take]; omega
  have l2 : (L.drop k).length = L.length - k := List.length_drop ..
  have fm := (mean_q h ω3 ω3).1
  obtain ⟨m1, m2⟩ := mean_q8 h ω3 ω3
  have fb := (mean_q (qs_take h k) ω3 ω3).1
  obtain ⟨b1, b2⟩ := mean_q8 (qs_take h k) ω3 ω3
  have fc := (mean_q (qs_drop h k) ω3 ω3).1
  obtain ⟨c1, c2⟩ := mean_q8 (qs_drop h k) ω3 ω3
  rw [gain_at ω3]
  unfold gx
  obtain ⟨f1, u1, u2, u3, u4⟩ := half_gain (k := (k : Int)) ω3 ω3 fb fm b1 b2 m1 m2
  obtain ⟨f2, v1, v2, v3, v4⟩ := half_gain (k := (L.length : Int) - (k : Int)) ω3 ω3 fc fm c1 c2 m1 m2
  clear b1 b2 c1 c2 m1 m2
  generalize fmul .f32 (fmul .f32 (FloatKind.nearest .f32 (k : Int)) (fsub .f32 (p_impl_mean (L.take k)) (p_impl_mean L))) (fsub .f32 (p_impl_mean (L.take k)) (p_impl_mean L)) = p at *
  generalize fmul .f32 (fmul .f32 (FloatKind.nearest .f32 ((L.length : Int) - (k : Int))) (fsub .f32 (p_impl_mean (L.drop k)) (p_impl_mean L))) (fsub .f32 (p_impl_mean (L.drop k)) (p_impl_mean L)) = q at *
  generalize ((k : Int) : Rat) * (rq .f32 (p_impl_mean (L.take k)) - rq .f32 (p_impl_mean L)) * (rq .f32 (p_impl_mean (L.take k)) - rq .f32 (p_impl_mean L)) = P at *
  generalize (((L.length : Int) - (k : Int) : Int) : Rat) * (rq .f32 (p_impl_mean (L.drop k)) - rq .f32 (p_impl_mean L)) * (rq .f32 (p_impl_mean (L.drop k)) - rq .f32 (p_impl_mean L)) = Q at *
  obtain ⟨f3, w1, w2⟩ := radd (k := .f32) 14 (A := 16384) ω12 ω12 f1 f2 (by grind) (by grind)
  rw [ur32] at w1 w2
  exact ⟨f3, by grind, by grind⟩
theorem un_rq {x : Nat} (h : un .f32 x) (f : fin .f32 x = true) : 0 ≤ rq .f32 x := by
  obtain ⟨s, m, e, hr⟩ := fin_num f
  have hs : s = false := by
    rcases h with h | h <;> rw [hr] at h
    · cases h
    · exact h
  have h0 : 0 ≤ sv .f32 x := by
    unfold sv; rw [hr, hs]; simp only []; rw [signed_eq]
    simp
    exact Int.mul_nonneg (Int.natCast_nonneg _) (Int.le_of_lt (Int.pow_pos ω12))
  have := rq_le.1 (show sv .f32 0 ≤ sv .f32 x by rw [sv_zero]; exact h0)
  rwa [rq_zero] at this
theorem best_brk {L : List Nat} (h : Qs L) (hl : L.length ≤ 15) : ∀ (μ v k : Nat), 1 ≤ v → v < L.length → 1 ≤ k → L.length - k < μ → ∃ w : Nat, 1 ≤ w ∧ w < L.length ∧
    p_impl_BestBreak_l1 L μ (v : Int) (p_impl_gainAt L (p_impl_mean L) (v : Int)) (k : Int) = ((w : Int), p_impl_gainAt L (p_impl_mean L) (w : Int), true) := by
  intro μ
  induction μ with
  | zero => intro v k _ _ _ h; omega
  | succ μ ih =>
    intro v k v1 v2 k1 hm
    rw [p_impl_BestBreak_l1_s]
    by_cases hk : k < L.length
    · rw [decide_eq_true (show (k : Int) < (L.length : Int) by omega), cond_true]
      cases flt .f32 (p_impl_gainAt L (p_impl_mean L) (v : Int)) (p_impl_gainAt L (p_impl_mean L) (k : Int))
      · rw [cond_false]; exact ih v (k + 1) v1 v2 ω3 ω3
      · rw [cond_true]; exact ih k (k + 1) k1 hk ω3 ω3
    · have e : p_impl_IsFinite (p_impl_gainAt L (p_impl_mean L) (v : Int)) = true := (fin_asked _).trans (gain_q h hl v1 v2).1
      rw [decide_eq_false (show ¬ (k : Int) < (L.length : Int) by omega), cond_false, e]
      exact ⟨v, v1, v2, rfl⟩
theorem best_brk_ok {L : List Nat} (h : Qs L) (h2 : 2 ≤ L.length) (hl : L.length ≤ 15) (hf : ∀ y ∈ L, fin .f32 y = true) : ∃ w : Nat, 1 ≤ w ∧ w < L.length ∧ p_impl_BestBreak L = ((w : Int), p_impl_gainAt L (p_impl_mean L) (w : Int), true) := by
  obtain ⟨w, w1, w2, e⟩ := best_brk h hl (Int.toNat ((L.length : Int) - (2 : Int)) + 1) 1 2 ω3 ω3 ω3 ω3
  refine ⟨w, w1, w2, ?_⟩
  rw [p_impl_BestBreak_eq, isLong_t ω3 ω3 hf, decide_eq_false (show ¬ (L.length : Int) < 2 by omega), Bool.not_true, cond_false, cond_false]
  exact e
/-! means of pieces -/
theorem okc_cons (n f e : Int) (es : List Int) : okc n f (e :: es) = bif decide (f + 1 ≤ e) then (bif decide (e ≤ n) then okc n e es else false) else false := rfl
theorem okc_nil (n f : Int) : okc n f [] = true := rfl
theorem seg_cons (m : List Nat → Nat) (l : List Nat) (f e : Int) (es : List Int) : seg m l f (e :: es) = List.replicate (e - f).toNat (m ((l.drop (f : Int).toNat).take ((e : Int) - f).toNat)) ++ seg m l e es := rfl
theorem seg_nil (m : List Nat → Nat) (l : List Nat) (f : Int) : seg m l f [] = [] := rfl
theorem whole_q {L : List Nat} (h : Qs L) (h2 : 2 ≤ L.length) (hl : L.length ≤ 15) (hf : ∀ y ∈ L, fin .f32 y = true) : p_impl_SegmentMeans L [] = (List.replicate L.length (p_impl_mean L), true) := by
  have fm := (mean_q h ω3 ω3).1
  rw [impl_seg_val, isLong_t ω3 ω3 hf]
  show (bif !true then _ else bif decide ((16 : Int) < 0) then _ else bif okc (L.length : Int) 0 [(L.length : Int)] then segF (fun o => (p_impl_finiteList o).2) (seg p_impl_mean L 0 [(L.length : Int)]) else _) = _
  unfold segF
  rw [okc_cons, okc_nil, seg_cons, seg_nil, Bool.not_true, cond_false, decide_eq_false ω12, cond_false, decide_eq_true (show (0 : Int) + 1 ≤ (L.length : Int) by omega), decide_eq_true (Int.le_refl _), cond_true, cond_true, cond_true, List.append_nil, Int.sub_zero, Int.toNat_natCast, show (0 : Int).toNat = 0 from rfl, List.drop_zero, List.take_length]
  have e : (p_impl_finiteList (List.replicate L.length (p_impl_mean L))).2 = true := by
    rw [p_impl_finiteList_eq, finList fun y hy => by rw [List.eq_of_mem_replicate hy]; exact fm]; rfl
  simp only [e]; rfl
theorem cut_q {L : List Nat} (h : Qs L) (hl : L.length ≤ 15) {k : Nat} (h1 : 1 ≤ k) (h2 : k < L.length) (hf : ∀ y ∈ L, fin .f32 y = true) : p_impl_SegmentMeans L [(k : Int)] = (List.replicate k (p_impl_mean (L.take k)) ++ List.replicate (L.length - k) (p_impl_mean (L.drop k)), true) := by
  have l1 : (L.take k).length = k := by rw [List.length_take]; omega
  have l2 : (L.drop k).length = L.length - k := List.length_drop ..
  have fb := (mean_q (qs_take h k) ω3 ω3).1
  have fc := (mean_q (qs_drop h k) ω3 ω3).1
  rw [impl_seg_val, isLong_t ω3 ω3 hf]
  show (bif !true then _ else bif decide ((16 : Int) < 1) then _ else bif okc (L.length : Int) 0 [(k : Int), (L.length : Int)] then segF (fun o => (p_impl_finiteList o).2) (seg p_impl_mean L 0 [(k : Int), (L.length : Int)]) else _) = _
  unfold segF
  rw [okc_cons, okc_cons, okc_nil, seg_cons, seg_cons, seg_nil, Bool.not_true, cond_false, decide_eq_false ω12, cond_false, decide_eq_true (show (0 : Int) + 1 ≤ (k : Int) by omega), decide_eq_true (show (k : Int) ≤ (L.length : Int) by omega), decide_eq_true (show (k : Int) + 1 ≤ (L.length : Int) by omega), decide_eq_true (Int.le_refl _), cond_true, cond_true, cond_true, cond_true, cond_true, List.append_nil, Int.sub_zero, Int.toNat_natCast, show (0 : Int).toNat = 0 from rfl, List.drop_zero,
    show ((L.length : Int) - (k : Int)).toNat = (L.drop k).length by rw [l2]; omega, List.take_length, l2]
  have e : (p_impl_finiteList (List.replicate k (p_impl_mean (L.take k)) ++ List.replicate (L.length - k) (p_impl_mean (L.drop k)))).2 = true := by
    rw [p_impl_finiteList_eq, finList fun y hy => by
      rcases List.mem_append.1 hy with hy | hy
      · rw [List.eq_of_mem_replicate hy]; exact fb
      · rw [List.eq_of_mem_replicate hy]; exact fc]
    rfl
  simp only [e]; rfl
/-! sums in 64 bits -/
theorem sq_step {b x y : Nat} {B e : Rat} (fb : fin .f64 b = true) (fx : fin .f32 x = true) (fy : fin .f32 y = true) (b1 : -e ≤ rq .f64 b - B) (b2 : rq .f64 b - B ≤ e) (he : e ≤ 1) (B1 : 0 ≤ B) (B2 : B ≤ 3700)
    (x1 : -8 ≤ rq .f32 x) (x2 : rq .f32 x ≤ 8) (y1 : -(8 + 1 / 524288) ≤ rq .f32 y) (y2 : rq .f32 y ≤ 8 + 1 / 524288) :
    fin .f64 (fadd .f64 b (fmul .f64 (fsub .f64 (fwide x) (fwide y)) (fsub .f64 (fwide x) (fwide y)))) = true ∧
    -(e + 6000 / 9007199254740992) ≤ rq .f64 (fadd .f64 b (fmul .f64 (fsub .f64 (fwide x) (fwide y)) (fsub .f64 (fwide x) (fwide y)))) - (B + (rq .f32 x - rq .f32 y) * (rq .f32 x - rq .f32 y)) ∧
    rq .f64 (fadd .f64 b (fmul .f64 (fsub .f64 (fwide x) (fwide y)) (fsub .f64 (fwide x) (fwide y)))) - (B + (rq .f32 x - rq .f32 y) * (rq .f32 x - rq .f32 y)) ≤ e + 6000 / 9007199254740992 ∧
    0 ≤ (rq .f32 x - rq .f32 y) * (rq .f32 x - rq .f32 y) ∧ (rq .f32 x - rq .f32 y) * (rq .f32 x - rq .f32 y) ≤ 257 := by
  obtain ⟨wx, ex⟩ := rq_wide fx
  obtain ⟨wy, ey⟩ := rq_wide fy
  obtain ⟨fd, d1, d2⟩ := rsub (k := .f64) 5 (A := 32) ω12 ω12 wx wy (by rw [ex, ey]; grind) (by rw [ex, ey]; grind)
  rw [ex, ey, ur64] at d1 d2
  generalize fsub .f64 (fwide x) (fwide y) = d at *
  generalize hD : rq .f32 x - rq .f32 y = D at *
  have D1 : -(1601 / 100) ≤ D := by grind
  have D2 : D ≤ 1601 / 100 := by grind
  clear hD ex ey x1 x2 y1 y2
  obtain ⟨p1, p2⟩ := mul_bd (x := rq .f64 d) (a := 1602 / 100) (y := rq .f64 d) (b := 1602 / 100) (by grind) (by grind) (by grind) (by grind)
  obtain ⟨fp, q1, q2⟩ := rmul (k := .f64) 9 (A := 512) ω12 ω12 fd fd (by grind) (by grind)
  rw [ur64] at q1 q2
  generalize fmul .f64 d d = p at *
  obtain ⟨e3, e4⟩ := mul_bd (x := rq .f64 d - D) (a := 32 / 9007199254740992) (y := rq .f64 d + D) (b := 3203 / 100) (by grind) (by grind) (by grind) (by grind)
  obtain ⟨e5, e6⟩ := mul_bd (x := D) (a := 1601 / 100) (y := D) (b := 1601 / 100) D1 D2 D1 D2
  have e7 : 0 ≤ D * D := by
    rcases Rat.le_total (a := 0) (b := D) with h | h
    · exact Rat.mul_nonneg h h
    · have := Rat.mul_nonneg (show 0 ≤ -D by grind) (show 0 ≤ -D by grind); grind
  obtain ⟨fs, s1, s2⟩ := radd (k := .f64) 12 (A := 4096) ω12 ω12 fb fp (by grind) (by grind)
  rw [ur64] at s1 s2
  exact ⟨fs, by grind, by grind, e7, by grind⟩
theorem sum_step {b x : Nat} {B e : Rat} (fb : fin .f64 b = true) (fx : fin .f32 x = true) (b1 : -e ≤ rq .f64 b - B) (b2 : rq .f64 b - B ≤ e) (he : e ≤ 1) (B1 : -121 ≤ B) (B2 : B ≤ 121) (x1 : -(8 + 1 / 524288) ≤ rq .f32 x) (x2 : rq .f32 x ≤ 8 + 1 / 524288) :
    fin .f64 (fadd .f64 b (fwide x)) = true ∧ -(e + 6000 / 9007199254740992) ≤ rq .f64 (fadd .f64 b (fwide x)) - (B + rq .f32 x) ∧ rq .f64 (fadd .f64 b (fwide x)) - (B + rq .f32 x) ≤ e + 6000 / 9007199254740992 := by
  obtain ⟨wx, ex⟩ := rq_wide fx
  obtain ⟨fs, s1, s2⟩ := radd (k := .f64) 8 (A := 256) ω12 ω12 fb wx (by rw [ex]; grind) (by rw [ex]; grind)
  rw [ur64, ex] at s1 s2
  exact ⟨fs, by grind, by grind⟩
theorem gap_q {a b : Nat} (ha : fin .f64 a = true) (hb : fin .f64 b = true) {E : Rat} (hE : E ≤ 8192) (h1 : -E ≤ rq .f64 a - rq .f64 b) (h2 : rq .f64 a - rq .f64 b ≤ E) :
    fin .f64 (p_laws_b10Gap a b) = true ∧ rq .f64 (p_laws_b10Gap a b) ≤ E + 8192 / 9007199254740992 := by
  unfold p_laws_b10Gap
  rw [flt_rq ha hb]
  by_cases h : rq .f64 a < rq .f64 b
  · rw [decide_eq_true h, cond_true]
    obtain ⟨f1, g1, g2⟩ := rsub (k := .f64) 13 (A := 8192) ω12 ω12 hb ha (by grind) (by grind)
    rw [ur64] at g1 g2
    exact ⟨f1, by grind⟩
  · rw [decide_eq_false h, cond_false]
    obtain ⟨f1, g1, g2⟩ := rsub (k := .f64) 13 (A := 8192) ω12 ω12 ha hb (by grind) (by grind)
    rw [ur64] at g1 g2
    exact ⟨f1, by grind⟩
def fs (f : Nat → Rat) : Nat → Rat
  | 0 => 0
  | n + 1 => fs f n + f n
theorem rsum_app : ∀ (a b : List Nat), rsum (a ++ b) = rsum a + rsum b := by
  intro a b
  induction a with
  | nil => show rsum b = 0 + rsum b; rw [Rat.zero_add]
  | cons y r ih => show rq .f32 y + rsum (r ++ b) = rq .f32 y + rsum r + rsum b; rw [ih, Rat.add_assoc]
theorem rsum_take {L : List Nat} : ∀ (i : Nat), i ≤ L.length → rsum (L.take i) = fs (fun j => rq .f32 (L.getD j 0)) i := by
  intro i
  induction i with
  | zero => intro _; rfl
  | succ i ih =>
    intro h
    have e : L.take (i + 1) = L.take i ++ [L[i]] := (List.take_append_getElem ω3).symm
    have eg : L.getD i 0 = L[i] := by rw [List.getD_eq_getElem?_getD, List.getElem?_eq_getElem ω3]; rfl
    rw [e, rsum_app, ih ω3]
    show _ + (rq .f32 L[i] + 0) = fs _ i + rq .f32 (L.getD i 0)
    rw [eg, Rat.add_zero]
theorem sqs_of (X : Nat → Rat) (W : Rat) : ∀ i : Nat, fs (fun j => (X j - W) * (X j - W)) i = fs (fun j => X j * X j) i - 2 * W * fs X i + ((i : Int) : Rat) * W * W := by
  intro i
  induction i with
  | zero => show (0 : Rat) = 0 - 2 * W * 0 + (0 : Rat) * W * W; grind
  | succ i ih =>
    have e : (((i + 1 : Nat) : Int) : Rat) = ((i : Int) : Rat) + 1 := by rw [Int.natCast_add, Rat.intCast_add]; rfl
    show fs (fun j => (X j - W) * (X j - W)) i + (X i - W) * (X i - W) = (fs (fun j => X j * X j) i + X i * X i) - 2 * W * (fs X i + X i) + _ * W * W
    rw [e, ih]; grind
theorem sqs_two (X C : Nat → Rat) (M1 M2 : Rat) (k : Nat) (c1 : ∀ j, j < k → C j = M1) (c2 : ∀ j, k ≤ j → C j = M2) : ∀ i : Nat, fs (fun j => (X j - C j) * (X j - C j)) i = fs (fun j => X j * X j) i - 2 * M1 * fs X (min i k) - 2 * M2 * (fs X i - fs X (min i k)) + ((min i k : Nat) : Int) * M1 * M1 + ((i - k : Nat) : Int) * M2 * M2 := by
  intro i
  induction i with
  | zero => rw [Nat.zero_min, Nat.zero_sub]; show (0 : Rat) = 0 - 2 * M1 * 0 - 2 * M2 * (0 - 0) + (0 : Rat) * M1 * M1 + (0 : Rat) * M2 * M2; grind
  | succ i ih =>
    show fs (fun j => (X j - C j) * (X j - C j)) i + (X i - C i) * (X i - C i) = (fs (fun j => X j * X j) i + X i * X i) - 2 * M1 * fs X (min (i + 1) k) - 2 * M2 * ((fs X i + X i) - fs X (min (i + 1) k)) + ((min (i + 1) k : Nat) : Int) * M1 * M1 + ((i + 1 - k : Nat) : Int) * M2 * M2
    rw [ih]
    by_cases h : i < k
    · rw [c1 i h, Nat.min_eq_left (show i ≤ k by omega), Nat.min_eq_left (show i + 1 ≤ k by omega), show i + 1 - k = 0 by omega, show i - k = 0 by omega]
      have e : (((i + 1 : Nat) : Int) : Rat) = ((i : Int) : Rat) + 1 := by rw [Int.natCast_add, Rat.intCast_add]; rfl
      have e2 : fs X (i + 1) = fs X i + X i := rfl
      rw [e, e2]; grind
    · rw [c2 i ω3, Nat.min_eq_right (show k ≤ i by omega), Nat.min_eq_right (show k ≤ i + 1 by omega), show i + 1 - k = i - k + 1 by omega]
      have e : (((i - k + 1 : Nat) : Int) : Rat) = (((i - k : Nat) : Int) : Rat) + 1 := by rw [Int.natCast_add, Rat.intCast_add]; rfl
      rw [e]; grind
/-! the law's first loop -/
def eps0 : Rat := 6000 / 9007199254740992
structure Inv (L : List Nat) (W : Nat) (C : List Nat) (i b1 b2 s1 s2 : Nat) : Prop where
  f1 : fin .f64 b1 = true
  f2 : fin .f64 b2 = true
  f3 : fin .f64 s1 = true
  f4 : fin .f64 s2 = true
  a1 : -(((i : Int) : Rat) * eps0) ≤ rq .f64 b1 - fs (fun j => (rq .f32 (L.getD j 0) - rq .f32 W) * (rq .f32 (L.getD j 0) - rq .f32 W)) i
  a2 : rq .f64 b1 - fs (fun j => (rq .f32 (L.getD j 0) - rq .f32 W) * (rq .f32 (L.getD j 0) - rq .f32 W)) i ≤ ((i : Int) : Rat) * eps0
  c1 : -(((i : Int) : Rat) * eps0) ≤ rq .f64 b2 - fs (fun j => (rq .f32 (L.getD j 0) - rq .f32 (C.getD j 0)) * (rq .f32 (L.getD j 0) - rq .f32 (C.getD j 0))) i
  c2 : rq .f64 b2 - fs (fun j => (rq .f32 (L.getD j 0) - rq .f32 (C.getD j 0)) * (rq .f32 (L.getD j 0) - rq .f32 (C.getD j 0))) i ≤ ((i : Int) : Rat) * eps0
  d1 : -(((i : Int) : Rat) * eps0) ≤ rq .f64 s1 - fs (fun j => rq .f32 (L.getD j 0)) i
  d2 : rq .f64 s1 - fs (fun j => rq .f32 (L.getD j 0)) i ≤ ((i : Int) : Rat) * eps0
  e1 : -(((i : Int) : Rat) * eps0) ≤ rq .f64 s2 - fs (fun j => rq .f32 (C.getD j 0)) i
  e2 : rq .f64 s2 - fs (fun j => rq .f32 (C.getD j 0)) i ≤ ((i : Int) : Rat) * eps0
  g1 : 0 ≤ fs (fun j => (rq .f32 (L.getD j 0) - rq .f32 W) * (rq .f32 (L.getD j 0) - rq .f32 W)) i
  g2 : fs (fun j => (rq .f32 (L.getD j 0) - rq .f32 W) * (rq .f32 (L.getD j 0) - rq .f32 W)) i ≤ 257 * ((i : Int) : Rat)
  h1 : 0 ≤ fs (fun j => (rq .f32 (L.getD j 0) - rq .f32 (C.getD j 0)) * (rq .f32 (L.getD j 0) - rq .f32 (C.getD j 0))) i
  h2 : fs (fun j => (rq .f32 (L.getD j 0) - rq .f32 (C.getD j 0)) * (rq .f32 (L.getD j 0) - rq .f32 (C.getD j 0))) i ≤ 257 * ((i : Int) : Rat)
  k1 : -((8 + 1 / 524288) * ((i : Int) : Rat)) ≤ fs (fun j => rq .f32 (L.getD j 0)) i
  k2 : fs (fun j => rq .f32 (L.getD j 0)) i ≤ (8 + 1 / 524288) * ((i : Int) : Rat)
  l1 : -((8 + 1 / 524288) * ((i : Int) : Rat)) ≤ fs (fun j => rq .f32 (C.getD j 0)) i
  l2 : fs (fun j => rq .f32 (C.getD j 0)) i ≤ (8 + 1 / 524288) * ((i : Int) : Rat)
theorem inv_zero (L : List Nat) (W : Nat) (C : List Nat) : Inv L W C 0 0 0 0 0 := by
  have z := rq_zero .f64
  have f := fin_zero .f64
  have e : (((0 : Nat) : Int) : Rat) = 0 := rfl
  constructor <;> first | exact f | (simp only [fs]; (try rw [e]); (try rw [z]); grind)
theorem inv_next {L : List Nat} {W : Nat} {C : List Nat} {i b1 b2 s1 s2 : Nat} (h : Inv L W C i b1 b2 s1 s2) (hi : i ≤ 14) (fl : fin .f32 (L.getD i 0) = true) (fw : fin .f32 W = true) (fc : fin .f32 (C.getD i 0) = true)
    (x1 : -8 ≤ rq .f32 (L.getD i 0)) (x2 : rq .f32 (L.getD i 0) ≤ 8) (w1 : -(8 + 1 / 524288) ≤ rq .f32 W) (w2 : rq .f32 W ≤ 8 + 1 / 524288) (y1 : -(8 + 1 / 524288) ≤ rq .f32 (C.getD i 0)) (y2 : rq .f32 (C.getD i 0) ≤ 8 + 1 / 524288) :
    Inv L W C (i + 1) (fadd .f64 b1 (fmul .f64 (fsub .f64 (fwide (L.getD i 0)) (fwide W)) (fsub .f64 (fwide (L.getD i 0)) (fwide W)))) (fadd .f64 b2 (fmul .f64 (fsub .f64 (fwide (L.getD i 0)) (fwide (C.getD i 0))) (fsub .f64 (fwide (L.getD i 0)) (fwide (C.getD i 0)))))
      (fadd .f64 s1 (fwide (L.getD i 0))) (fadd .f64 s2 (fwide (C.getD i 0))) := by
  have i1 : (0 : Rat) ≤ ((i : Int) : Rat) := Rat.intCast_le_intCast.2 (show (0 : Int) ≤ (i : Int) by omega)
  have i2 : ((i : Int) : Rat) ≤ 14 := Rat.intCast_le_intCast.2 (show (i : Int) ≤ 14 by omega)
  have e : (((i + 1 : Nat) : Int) : Rat) = ((i : Int) : Rat) + 1 := by rw [Int.natCast_add, Rat.intCast_add]; rfl
  obtain ⟨f1, f2, f3, f4, a1, a2, c1, c2, d1, d2, e1, e2, g1, g2, h1, h2, k1, k2, l1, l2⟩ := h
  unfold eps0 at *
  obtain ⟨p1, p2, p3, p4, p5⟩ := sq_step f1 fl fw a1 a2 (by grind) g1 (by grind) x1 x2 w1 w2
  obtain ⟨q1, q2, q3, q4, q5⟩ := sq_step f2 fl fc c1 c2 (by grind) h1 (by grind) x1 x2 y1 y2
  obtain ⟨r1, r2, r3⟩ := sum_step f3 fl d1 d2 (by grind) (by grind) (by grind) (by grind) (by grind)
  obtain ⟨t1, t2, t3⟩ := sum_step f4 fc e1 e2 (by grind) (by grind) (by grind) y1 y2
  constructor
  case f1 => exact p1
  case f2 => exact q1
  case f3 => exact r1
  case f4 => exact t1
  all_goals (simp only [fs]; (try rw [e]); (try unfold eps0); grind)
theorem centi_q : fin .f64 4576918229304087675 = true ∧ 99 / 10000 ≤ rq .f64 4576918229304087675 ∧ rq .f64 4576918229304087675 ≤ 101 / 10000 := by
  have hr : FloatKind.f64.format.read 4576918229304087675 = .number false 5764607523034235 (-59) := by decide +kernel
  have f : fin .f64 4576918229304087675 = true := by unfold fin; rw [hr]
  obtain ⟨q, hq⟩ : ∃ q : Nat, q = 1015 := ⟨_, rfl⟩
  have e : sv .f64 4576918229304087675 = 5764607523034235 * ((2 ^ q : Nat) : Int) := by
    unfold sv
    rw [hr]
    simp only []
    rw [signed_eq, l64, show ((-59 : Int) - -1074).toNat = q by rw [hq]; decide]
    generalize (2 : Nat) ^ q = D
    simp
  have := rq_lit q 59 e (by rw [hq]; rfl)
  have e2 : (((2 ^ 59 : Nat) : Int) : Rat) = 576460752303423488 := by decide
  rw [e2] at this
  have e3 : ((5764607523034235 : Int) : Rat) = 5764607523034235 := rfl
  rw [e3] at this
  clear e hr
  exact ⟨f, by grind, by grind⟩
theorem one_q : fin .f64 4607182418800017408 = true ∧ rq .f64 4607182418800017408 = 1 := by
  have e : FloatKind.nearest .f64 1 = 4607182418800017408 := by decide +kernel
  have := rq_near .f64 (n := 1) ω12
  rw [e] at this
  exact this
theorem gain_id {Q S Sk W M1 M2 kr jr B Bh G : Rat} (hB : B = Q - 2 * W * S + (kr + jr) * W * W) (hBh : Bh = Q - 2 * M1 * Sk - 2 * M2 * (S - Sk) + kr * M1 * M1 + jr * M2 * M2) (hG : G = kr * (M1 - W) * (M1 - W) + jr * (M2 - W) * (M2 - W)) :
    B - Bh - G = -2 * ((M1 - W) * (kr * M1 - Sk)) - 2 * ((M2 - W) * (jr * M2 - (S - Sk))) := by grind
theorem fs_congr {f g : Nat → Rat} : ∀ n : Nat, (∀ j, j < n → f j = g j) → fs f n = fs g n := by
  intro n
  induction n with
  | zero => intro _; rfl
  | succ n ih => intro h; show fs f n + f n = fs g n + g n; rw [ih fun j hj => h j ω3, h n ω3]
theorem fs_two (M1 M2 : Rat) (k : Nat) : ∀ i : Nat, fs (fun j => if j < k then M1 else M2) i = ((min i k : Nat) : Int) * M1 + ((i - k : Nat) : Int) * M2 := by
  intro i
  induction i with
  | zero => rw [Nat.zero_min, Nat.zero_sub]; show (0 : Rat) = (0 : Rat) * M1 + (0 : Rat) * M2; grind
  | succ i ih =>
    show fs _ i + (if i < k then M1 else M2) = _
    rw [ih]
    by_cases h : i < k
    · rw [if_pos h, Nat.min_eq_left (show i ≤ k by omega), Nat.min_eq_left (show i + 1 ≤ k by omega), show i + 1 - k = 0 by omega, show i - k = 0 by omega]
      have e : (((i + 1 : Nat) : Int) : Rat) = ((i : Int) : Rat) + 1 := by rw [Int.natCast_add, Rat.intCast_add]; rfl
      rw [e]; grind
    · rw [if_neg h, Nat.min_eq_right (show k ≤ i by omega), Nat.min_eq_right (show k ≤ i + 1 by omega), show i + 1 - k = i - k + 1 by omega]
      have e : (((i - k + 1 : Nat) : Int) : Rat) = (((i - k : Nat) : Int) : Rat) + 1 := by rw [Int.natCast_add, Rat.intCast_add]; rfl
      rw [e]; grind
theorem pieces_get {k n : Nat} {a b : Nat} (hk : k ≤ n) {j : Nat} (hj : j < n) : (List.replicate k a ++ List.replicate (n - k) b).getD j 0 = if j < k then a else b := by
  rw [List.getD_eq_getElem?_getD]
  by_cases h : j < k
  · rw [List.getElem?_append_left (by simpa using h), if_pos h, List.getElem?_replicate, if_pos h]; rfl
  · rw [List.getElem?_append_right (by simpa using h), if_neg h, List.length_replicate, List.getElem?_replicate, if_pos ω3]; rfl
theorem ends_q {L : List Nat} (h : Qs L) (hl : L.length ≤ 15) {k : Nat} (k1 : 1 ≤ k) (kn : k < L.length) {b1 b2 s1 s2 : Nat}
    (iv : Inv L (p_impl_mean L) (List.replicate k (p_impl_mean (L.take k)) ++ List.replicate (L.length - k) (p_impl_mean (L.drop k))) L.length b1 b2 s1 s2) :
    flt .f64 (fmul .f64 4576918229304087675 (fadd .f64 4607182418800017408 b1)) (p_laws_b10Gap (fsub .f64 b1 b2) (fwide (p_impl_gainAt L (p_impl_mean L) (k : Int)))) = false ∧ flt .f64 4576918229304087675 (p_laws_b10Gap s1 s2) = false := by
  have l1 : (L.take k).length = k := by rw [List.length_take]; omega
  have l2 : (L.drop k).length = L.length - k := List.length_drop ..
  obtain ⟨_, m1, m2⟩ := mean_q h ω3 ω3
  obtain ⟨wa, wb⟩ := mean_q8 h ω3 ω3
  obtain ⟨_, t1, t2⟩ := mean_q (qs_take h k) ω3 ω3
  obtain ⟨ta, tb⟩ := mean_q8 (qs_take h k) ω3 ω3
  obtain ⟨_, d1, d2⟩ := mean_q (qs_drop h k) ω3 ω3
  obtain ⟨da, db⟩ := mean_q8 (qs_drop h k) ω3 ω3
  obtain ⟨gf, ga, gb⟩ := gain_q h hl k1 kn
  have hS : rsum L = fs (fun j => rq .f32 (L.getD j 0)) L.length := by rw [← rsum_take _ (Nat.le_refl _), List.take_length]
  have hSk := rsum_take (L := L) k ω3
  have hSd : rsum L = rsum (L.take k) + rsum (L.drop k) := by rw [← rsum_app, List.take_append_drop]
  have hC : ∀ j, j < L.length → rq .f32 ((List.replicate k (p_impl_mean (L.take k)) ++ List.replicate (L.length - k) (p_impl_mean (L.drop k))).getD j 0) = if j < k then rq .f32 (p_impl_mean (L.take k)) else rq .f32 (p_impl_mean (L.drop k)) := fun j hj => by
    rw [pieces_get ω3 hj]; split <;> rfl
  obtain ⟨f1, f2, f3, f4, a1, a2, c1, c2, x1, x2, e1, e2, g1, g2, h1, h2, -, -, -, -⟩ := iv
  have q1 := sqs_of (fun j => rq .f32 (L.getD j 0)) (rq .f32 (p_impl_mean L)) L.length
  have q2 := sqs_two (fun j => rq .f32 (L.getD j 0)) (fun j => if j < k then rq .f32 (p_impl_mean (L.take k)) else rq .f32 (p_impl_mean (L.drop k))) (rq .f32 (p_impl_mean (L.take k))) (rq .f32 (p_impl_mean (L.drop k))) k (fun j hj => if_pos hj) (fun j hj => if_neg ω3) L.length
  have q3 := fs_two (rq .f32 (p_impl_mean (L.take k))) (rq .f32 (p_impl_mean (L.drop k))) k L.length
  rw [Nat.min_eq_right (show k ≤ L.length by omega)] at q2 q3
  rw [fs_congr (g := fun j => if j < k then rq .f32 (p_impl_mean (L.take k)) else rq .f32 (p_impl_mean (L.drop k))) _ hC, q3] at e1 e2
  rw [fs_congr (f := fun j => (rq .f32 (L.getD j 0) - rq .f32 ((List.replicate k (p_impl_mean (L.take k)) ++ List.replicate (L.length - k) (p_impl_mean (L.drop k))).getD j 0)) * (rq .f32 (L.getD j 0) - rq .f32 ((List.replicate k (p_impl_mean (L.take k)) ++ List.replicate (L.length - k) (p_impl_mean (L.drop k))).getD j 0)))
    (g := fun j => (rq .f32 (L.getD j 0) - (if j < k then rq .f32 (p_impl_mean (L.take k)) else rq .f32 (p_impl_mean (L.drop k)))) * (rq .f32 (L.getD j 0) - (if j < k then rq .f32 (p_impl_mean (L.take k)) else rq .f32 (p_impl_mean (L.drop k))))) _ (fun j hj => by rw [hC j hj])] at c1 c2 h1 h2
  have jr : (((L.length - k : Nat) : Int) : Rat) = ((L.length : Int) : Rat) - ((k : Int) : Rat) := by rw [Int.ofNat_sub ω3, Rat.intCast_sub]
  have n1 : (2 : Rat) ≤ ((L.length : Int) : Rat) := Rat.intCast_le_intCast.2 (show (2 : Int) ≤ (L.length : Int) by omega)
  have n2 : ((L.length : Int) : Rat) ≤ 15 := Rat.intCast_le_intCast.2 (show (L.length : Int) ≤ 15 by omega)
  have r1 : (1 : Rat) ≤ ((k : Int) : Rat) := Rat.intCast_le_intCast.2 (show (1 : Int) ≤ (k : Int) by omega)
  have r2 : ((k : Int) : Rat) ≤ ((L.length : Int) : Rat) - 1 := by
    have : ((k : Int) : Rat) ≤ (((L.length : Int) - 1 : Int) : Rat) := Rat.intCast_le_intCast.2 ω3
    rw [Rat.intCast_sub] at this; exact this
  rw [l1] at t1 t2
  rw [l2, jr] at d1 d2
  rw [jr] at q2 q3 e1 e2
  unfold gx at ga gb
  rw [Rat.intCast_sub] at ga gb
  rw [hS] at m1 m2 hSd
  rw [hSk] at t1 t2 hSd
  unfold eps0 at *
  generalize fs (fun j => (rq .f32 (L.getD j 0) - rq .f32 (p_impl_mean L)) * (rq .f32 (L.getD j 0) - rq .f32 (p_impl_mean L))) L.length = B at *
  generalize fs (fun j => (rq .f32 (L.getD j 0) - (if j < k then rq .f32 (p_impl_mean (L.take k)) else rq .f32 (p_impl_mean (L.drop k)))) * (rq .f32 (L.getD j 0) - (if j < k then rq .f32 (p_impl_mean (L.take k)) else rq .f32 (p_impl_mean (L.drop k))))) L.length = Bh at *
  generalize fs (fun j => rq .f32 (L.getD j 0) * rq .f32 (L.getD j 0)) L.length = Q at *
  generalize fs (fun j => rq .f32 (L.getD j 0)) L.length = S at *
  generalize fs (fun j => rq .f32 (L.getD j 0)) k = Sk at *
  generalize p_impl_gainAt L (p_impl_mean L) (k : Int) = g at *
  generalize rq .f32 (p_impl_mean L) = W at *
  generalize rq .f32 (p_impl_mean (L.take k)) = M1 at *
  generalize rq .f32 (p_impl_mean (L.drop k)) = M2 at *
  generalize rsum (L.drop k) = Sd at *
  generalize ((L.length : Int) : Rat) = n at *
  generalize ((k : Int) : Rat) = kr at *
  clear hC hS hSk
  have id := gain_id (Q := Q) (S := S) (Sk := Sk) (W := W) (M1 := M1) (M2 := M2) (kr := kr) (jr := n - kr) (B := B) (Bh := Bh) (G := kr * (M1 - W) * (M1 - W) + (n - kr) * (M2 - W) * (M2 - W)) (by rw [q1]; grind) q2 rfl
  obtain ⟨u1, u2⟩ := mul_bd (x := M1 - W) (a := 1601 / 100) (y := kr * M1 - Sk) (b := 14 / 524288) (by grind) (by grind) (by grind) (by grind)
  obtain ⟨v1, v2⟩ := mul_bd (x := M2 - W) (a := 1601 / 100) (y := (n - kr) * M2 - (S - Sk)) (b := 14 / 524288) (by grind) (by grind) (by grind) (by grind)
  generalize kr * (M1 - W) * (M1 - W) + (n - kr) * (M2 - W) * (M2 - W) = G at *
  obtain ⟨fg, eg⟩ := rq_wide gf
  obtain ⟨fc, cc1, cc2⟩ := centi_q
  obtain ⟨fo, eo⟩ := one_q
  constructor
  · obtain ⟨fd, y1, y2⟩ := rsub (k := .f64) 13 (A := 8192) ω12 ω12 f1 f2 (by grind) (by grind)
    rw [ur64] at y1 y2
    obtain ⟨fG, z⟩ := gap_q (E := 8 / 1000) fd fg (by grind) (by rw [eg]; grind) (by rw [eg]; grind)
    obtain ⟨fs', w1, w2⟩ := radd (k := .f64) 13 (A := 8192) ω12 ω12 fo f1 (by rw [eo]; grind) (by rw [eo]; grind)
    rw [eo, ur64] at w1 w2
    obtain ⟨p1, p2⟩ := mul_bd (x := rq .f64 4576918229304087675) (a := 101 / 10000) (y := rq .f64 (fadd .f64 4607182418800017408 b1)) (b := 4000) (by grind) (by grind) (by grind) (by grind)
    obtain ⟨fm, v3, v4⟩ := rmul (k := .f64) 6 (A := 64) ω12 ω12 fc fs' (by grind) (by grind)
    rw [ur64] at v3 v4
    have low : 99 / 10000 * (rq .f64 (fadd .f64 4607182418800017408 b1)) ≤ rq .f64 4576918229304087675 * rq .f64 (fadd .f64 4607182418800017408 b1) := Rat.mul_le_mul_of_nonneg_right cc1 (by grind)
    rw [flt_rq fm fG]
    exact decide_eq_false (by rw [Rat.not_lt]; grind)
  · obtain ⟨fG, z⟩ := gap_q (E := 1 / 1000) f3 f4 (by grind) (by grind) (by grind)
    rw [flt_rq fc fG]
    exact decide_eq_false (by rw [Rat.not_lt]; grind)
/-! lists of steps -/
def stp (a t i : Nat) : Nat := if t ≤ i then 1101004800 else if a ≤ i then 1091567616 else 1065353216
def stps (a t : Nat) : List Nat := (List.range (t + 3)).map (stp a t)
theorem steps_tab : ∀ x : Nat, x < 5 → ∀ y : Nat, y < 5 → p_spec_BreaksOf (stps (2 + x) (4 + x + y)) 1056964608 8 = ([((2 + x : Nat) : Int), ((4 + x + y : Nat) : Int)], true) ∧ p_spec_BreaksOf (stps (2 + x) (4 + x + y)) 1056964608 0 = ([], true) := by decide +kernel
theorem long_of {l : List Nat} (h1 : 1 ≤ l.length) (h2 : l.length ≤ 128) (h3 : l.all (fin .f32) = true) : p_spec_l03Long l = true := by
  rw [p_spec_l03Long_eq, l02Finite_all, decide_eq_true (show (1 : Int) ≤ (l.length : Int) by omega), cond_true, decide_eq_true (show (l.length : Int) ≤ 128 by omega), cond_true, h3]
theorem break_sub {l : List Nat} (h1 : 2 ≤ l.length) (h2 : l.length ≤ 128) (h3 : l.all (fin .f32) = true) : p_impl_BestBreak l = p_spec_l05Break l := by
  rw [p_impl_BestBreak_eq, long_same, p_spec_l05Break_eq, long_of ω3 h2 h3, decide_eq_false (show ¬ (l.length : Int) < 2 by omega), mean_same, gain_impl]
  simp only [Bool.not_true, cond_false]
  have e : Int.toNat ((l.length : Int) - 1) = Int.toNat ((l.length : Int) - 2) + 1 := by omega
  rw [p_spec_l05Break_l1_s, decide_eq_true (show (1 : Int) < (l.length : Int) by omega), cond_true, wrap64 (n := (l.length : Int) - 1) ω3 ω3]
  show _ = (bif !(p_spec_l01Finite (gain l (p_spec_l05Mean l) 1)) then _ else bif (0 : Int) == 0 then p_spec_l05Break_l1 l (Int.toNat ((l.length : Int) - 1)) 0 0 false 1 (gain l (p_spec_l05Mean l) 1) (1 + 1) else _)
  rw [spec_fin, e]
  cases hg : fin .f32 (gain l (p_spec_l05Mean l) 1)
  · rw [Bool.not_false, cond_true]
    by_cases hn : (FloatKind.f32.format.read (gain l (p_spec_l05Mean l) 1)).isNaN = true
    · exact break_nan l hn _ _ _
    · have := inf_of (wd_gain _ _ _) (gain_un ω3 ω3 ω3) (by simpa [nn] using hn) hg
      rw [this]; exact break_inf l _ _ _
  · rw [Bool.not_true, cond_false]
    exact break_go ω3 h3 (gain_fin hg) _ 1 _ 2 _ _ _ ω3 ω3 hg ω3
def Out (x : Nat) (es : List Int) (K : Bool → Int → Int → Nat → Int → List Int × Bool) (s : List Int × Bool) (r : Int × Bool × Bool) : Prop :=
  (s = ([], false) ∧ r.2.2 = false) ∨ ∃ t best vat top i, s = K t best vat top i ∧ r = (vat, decide (0 ≤ best) && fle .f32 x top, true) ∧
    (0 ≤ best → best + 1 < (es.length : Int) ∧ es.getD best.toNat 0 < vat ∧ vat < es.getD (best + 1).toNat 0)
theorem scan_same (l : List Nat) (x : Nat) (v v2 : Int) (t7 : Bool) (bs es : List Int) (K : Bool → Int → Int → Nat → Int → List Int × Bool) (hn : l.length ≤ 128) (hf : l.all (fin .f32) = true)
    (hlen : es.length = bs.length + 2) (hes : ∀ i : Int, 0 ≤ i → i ≤ (bs.length : Int) → (((([] : List Int) ++ bs) ++ [((l.length : Int) : Int)])).getD (i : Int).toNat 0 = es.getD ((i + 1) : Int).toNat 0) (hcut : Cut l.length es) (t6 : Int) (t7' t8 : Bool) :
    ∀ (μ ν : Nat) (t : Bool) (best vat : Int) (top : Nat) (found : Bool) (i : Int), 0 ≤ i → i ≤ (bs.length : Int) + 1 → ((bs.length : Int) + 1 - i).toNat < μ → ((bs.length : Int) + 1 - i).toNat < ν → found = decide (0 ≤ best) →
      (0 ≤ best → best + 1 < (es.length : Int) ∧ es.getD best.toNat 0 < vat ∧ vat < es.getD (best + 1).toNat 0) →
      Out x es K (p_spec_BreaksOf_l2 l x v v2 t7 es K μ t best vat top i) (p_impl_nextBreak_l1 l bs x ν t6 t7' t8 vat top found (es.getD (i : Int).toNat 0) i) := by
  intro μ
  induction μ with
  | zero => intro ν t best vat top found i h0 h1 h2; omega
  | succ μ ih =>
    intro ν t best vat top found i h0 h1 h2 h3 hfo hgood
    obtain _ | ν := ν
    · omega
    rw [p_spec_BreaksOf_l2_s, p_impl_nextBreak_l1_s]
    by_cases hi : i + 1 < (es.length : Int)
    · rw [decide_eq_true hi, decide_eq_true (show i < ((0 + bs.length) + 1 : Int) by omega), cond_true, cond_true, hes i h0 ω3]
      have c0 := cut_at hcut i
      have c1 := cut_at hcut (i + 1)
      generalize he : es.getD ((i + 1) : Int).toNat 0 = e at *
      generalize hf' : es.getD (i : Int).toNat 0 = f at *
      by_cases h : e - f < 2
      · rw [decide_eq_true h, decide_eq_false (show ¬ (1 : Int) < e - f by omega), cond_true, cond_false]
        have := ih ν t best vat top found (i + 1) ω3 ω3 ω3 ω3 hfo hgood
        rw [he] at this
        exact this
      · rw [decide_eq_false h, decide_eq_true (show (1 : Int) < e - f by omega), cond_true, cond_false]
        have hsl : ((l.drop f.toNat).take (e - f).toNat).length = (e - f).toNat := by rw [List.length_take, List.length_drop]; omega
        have hb := break_sub (l := (l.drop f.toNat).take (e - f).toNat) ω3 ω3 (all_take hf _ _)
        have hbin := impl_BestBreak_bin ((l.drop f.toNat).take (e - f).toNat)
        rw [hb] at hbin ⊢
        generalize p_spec_l05Break ((l.drop f.toNat).take (e - f).toNat) = B at *
        cases hB : B.2.2
        · rw [Bool.not_false, cond_true, cond_true]; exact .inl ⟨rfl, rfl⟩
        · rw [Bool.not_true, cond_false, cond_false]
          obtain ⟨b1, b2, b3⟩ := hbin
          have b4 := b3 hB
          rw [hsl] at b4
          have upd := ih ν t i (f + B.1) B.2.1 true (i + 1) ω3 ω3 ω3 ω3 (decide_eq_true h0).symm (fun _ => ⟨hi, by rw [hf']; omega, by rw [he]; omega⟩)
          have kp := ih ν t best vat top found (i + 1) ω3 ω3 ω3 ω3 hfo hgood
          rw [he] at upd kp
          by_cases hb0 : best < 0
          · rw [decide_eq_true hb0, cond_true, hfo, decide_eq_false (show ¬ (0 : Int) ≤ best by omega), Bool.not_false, cond_true]
            exact upd
          · rw [decide_eq_false hb0, cond_false, hfo, decide_eq_true (show (0 : Int) ≤ best by omega), Bool.not_true, cond_false]
            cases flt .f32 top B.2.1
            · rw [cond_false, cond_false]
              rw [hfo, decide_eq_true (show (0 : Int) ≤ best by omega)] at kp
              exact kp
            · rw [cond_true, cond_true]; exact upd
    · rw [decide_eq_false hi, decide_eq_false (show ¬ i < ((0 + bs.length) + 1 : Int) by omega), cond_false, cond_false]
      refine .inr ⟨t, best, vat, top, i, rfl, ?_, hgood⟩
      rw [hfo]
      cases decide ((0 : Int) ≤ best) <;> rfl
theorem pw_lt {es : List Int} (h : es.Pairwise (· < ·)) {i j : Nat} (hij : i ≤ j) (hj : j < es.length) : es.getD i 0 ≤ es.getD j 0 := by
  rw [List.getD_eq_getElem?_getD, List.getD_eq_getElem?_getD, List.getElem?_eq_getElem hj, List.getElem?_eq_getElem (by omega : i < es.length)]
  by_cases e : i = j
  · subst e; exact Int.le_refl _
  · exact Int.le_of_lt (List.pairwise_iff_getElem.1 h i j ω3 hj ω3)
theorem pw_ins {es : List Int} (h : es.Pairwise (· < ·)) {b : Nat} {x : Int} (hb : b + 1 < es.length) (h0 : es.getD b 0 < x) (h1 : x < es.getD (b + 1) 0) : (es.take (b + 1) ++ x :: es.drop (b + 1)).Pairwise (· < ·) := by
  have hA : ∀ a ∈ es.take (b + 1), a < x := by
    intro a ha
    obtain ⟨i, hi, rfl⟩ := List.mem_iff_getElem.1 ha
    rw [List.length_take] at hi
    have := pw_lt h (show i ≤ b by omega) ω3
    rw [List.getD_eq_getElem?_getD, List.getElem?_eq_getElem (by omega : i < es.length)] at this
    rw [List.getElem_take]
    exact Int.lt_of_le_of_lt this h0
  have hC : ∀ c ∈ es.drop (b + 1), x < c := by
    intro c hc
    obtain ⟨i, hi, rfl⟩ := List.mem_iff_getElem.1 hc
    rw [List.length_drop] at hi
    have := pw_lt h (show b + 1 ≤ b + 1 + i by omega) ω3
    rw [List.getD_eq_getElem?_getD (l := es) (i := b + 1 + i), List.getElem?_eq_getElem (by omega : b + 1 + i < es.length)] at this
    rw [List.getElem_drop]
    exact Int.lt_of_lt_of_le h1 this
  have hs := h
  rw [← List.take_append_drop (b + 1) es] at hs
  obtain ⟨p1, p2, p3⟩ := List.pairwise_append.1 hs
  refine List.pairwise_append.2 ⟨p1, List.pairwise_cons.2 ⟨hC, p2⟩, ?_⟩
  intro a ha c hc
  obtain rfl | hc := List.mem_cons.1 hc
  · exact hA a ha
  · exact p3 a ha c hc
theorem sort_ins {bs : List Int} {x : Int} {b : Nat} (h : (bs.take b ++ x :: bs.drop b).Pairwise (· < ·)) : p_slices_Sort_int64_int64 (bs ++ [x]) = bs.take b ++ x :: bs.drop b := by
  unfold p_slices_Sort_int64_int64
  refine List.Perm.eq_of_pairwise (le := fun x y => decide (x ≤ y) = true) ?_ (List.pairwise_mergeSort ?_ ?_ _) (h.imp fun hab => decide_eq_true (Int.le_of_lt hab)) ?_
  · intro a c _ _ h1 h2; exact Int.le_antisymm (of_decide_eq_true h1) (of_decide_eq_true h2)
  · intro a c d h1 h2; exact decide_eq_true (Int.le_trans (of_decide_eq_true h1) (of_decide_eq_true h2))
  · intro a c; simp; omega
  · refine (List.mergeSort_perm _ _).trans ?_
    refine (List.perm_append_singleton x bs).trans ?_
    have := (List.perm_middle (a := x) (l₁ := bs.take b) (l₂ := bs.drop b)).symm
    rwa [List.take_append_drop] at this
theorem breaks_go (l : List Nat) (x : Nat) (v : Int) (hn : l.length ≤ 128) (hf : l.all (fin .f32) = true) : ∀ (μ ν : Nat) (v2 : Int) (t t' : Bool) (bs : List Int), ((0 : Int) :: (bs ++ [(l.length : Int)])).Pairwise (· < ·) → (bs.length : Int) + v2 = v → 0 ≤ v2 → v2.toNat < μ → v2.toNat < ν →
    p_impl_BreaksOf_l1 l x v μ t bs = p_spec_BreaksOf_l1 l x v ν v2 t' (0 :: (bs ++ [(l.length : Int)])) := by
  intro μ
  induction μ with
  | zero => intro ν v2 t t' bs h0 h1 h2 h3; omega
  | succ μ ih =>
    intro ν v2 t t' bs hp h1 h2 h3 h4
    obtain _ | ν := ν
    · omega
    rw [p_impl_BreaksOf_l1_s, p_spec_BreaksOf_l1_s]
    generalize hE : (0 : Int) :: (bs ++ [(l.length : Int)]) = es at *
    have hlen : es.length = bs.length + 2 := by rw [← hE]; simp
    have hres : (([] : List Int) ++ (((es).drop (1 : Int).toNat).take ((((es.length : Int) - 1) : Int) - 1).toNat)) = bs := by
      rw [hlen, ← hE, List.nil_append]
      show ((bs ++ [(l.length : Int)]).take _) = bs
      rw [show ((((bs.length + 2 : Nat) : Int) - 1) - 1).toNat = bs.length by omega, List.take_left' rfl]
    simp only [hres]
    by_cases hv : 0 < v2
    · rw [decide_eq_true hv, decide_eq_true (show (bs.length : Int) < v by omega), cond_true, cond_true, p_impl_nextBreak_eq]
      have hes : ∀ i : Int, 0 ≤ i → i ≤ (bs.length : Int) → (((([] : List Int) ++ bs) ++ [((l.length : Int) : Int)])).getD (i : Int).toNat 0 = es.getD ((i + 1) : Int).toNat 0 := by
        intro i h0 h1
        rw [← hE, show (i + 1).toNat = i.toNat + 1 by omega, List.nil_append, List.getD_cons_succ]
      have hlast : es.getD (bs.length + 1) 0 = (l.length : Int) := by
        rw [← hE, List.getD_cons_succ, List.getD_eq_getElem?_getD, List.getElem?_append_right (Nat.le_refl _)]; simp
      have hfirst : es.getD 0 0 = 0 := by rw [← hE]; rfl
      have hcut : Cut l.length es := by
        intro y hy
        obtain ⟨i, hi, rfl⟩ := List.mem_iff_getElem.1 hy
        have a := pw_lt hp (Nat.zero_le i) hi
        have b := pw_lt hp (show i ≤ bs.length + 1 by omega) ω3
        rw [hfirst] at a
        rw [hlast] at b
        rw [List.getD_eq_getElem?_getD, List.getElem?_eq_getElem hi] at a b
        exact ⟨a, b⟩
      have sc := scan_same l x v v2 t' bs es (fun (t7_7 : Bool) (best : Int) (vat : Int) (top : Nat) (i : Int) => (bif decide ((best : Int) < 0) then (bs, true) else (bif !(fle .f32 x top) then (bs, true) else (p_spec_BreaksOf_l1 l x v ν (v2 - 1) t7_7 ((((([] : List Int) ++ (((es).drop (0 : Int).toNat).take (((best + 1) : Int) - 0).toNat)) ++ [(vat : Int)]) ++ (((es).drop ((best + 1) : Int).toNat).take (((es.length : Int) : Int) - (best + 1)).toNat))))))) hn hf hlen hes hcut 0 false false (Int.toNat ((es.length : Int) + 1 - (0 : Int)) + 1) (Int.toNat (((0 + bs.length) + 1 : Int) - (0 : Int)) + 1) t' (-1) 0 0 false 0 ω12 ω3 ω3 ω3 rfl (fun h => absurd h ω12)
      rw [show es.getD (0 : Int).toNat 0 = 0 from hfirst] at sc
      rcases sc with ⟨s1, s2⟩ | ⟨t2, best, vat, top, i, s1, s2, s3⟩
      · rw [s1, s2]; rfl
      · rw [s1, s2]
        simp only [Bool.not_true, cond_false]
        by_cases hb : best < 0
        · rw [decide_eq_true hb, decide_eq_false (show ¬ (0 : Int) ≤ best by omega)]; rfl
        · rw [decide_eq_false hb, decide_eq_true (show (0 : Int) ≤ best by omega), Bool.true_and, cond_false]
          cases fle .f32 x top
          · rfl
          · simp only [Bool.not_true, cond_false]
            obtain ⟨g1, g2, g3⟩ := s3 ω3
            have eb : (best + 1).toNat = best.toNat + 1 := by omega
            rw [eb] at g3
            have hins := pw_ins hp (b := best.toNat) ω3 g2 g3
            have hE' : ((((([] : List Int) ++ (((es).drop (0 : Int).toNat).take (((best + 1) : Int) - 0).toNat)) ++ [(vat : Int)]) ++ (((es).drop ((best + 1) : Int).toNat).take (((es.length : Int) : Int) - (best + 1)).toNat))) = es.take (best.toNat + 1) ++ vat :: es.drop (best.toNat + 1) := by
              rw [List.nil_append, show (0 : Int).toNat = 0 from rfl, List.drop_zero, show (best + 1 - 0).toNat = best.toNat + 1 by omega, eb, List.take_of_length_le (l := es.drop (best.toNat + 1)) (by rw [List.length_drop]; omega), List.append_assoc]; rfl
            rw [hE']
            have hbl : best.toNat ≤ bs.length := by omega
            have hE2 : es.take (best.toNat + 1) ++ vat :: es.drop (best.toNat + 1) = 0 :: ((bs.take best.toNat ++ vat :: bs.drop best.toNat) ++ [(l.length : Int)]) := by
              rw [← hE, List.take_succ_cons, List.drop_succ_cons, List.take_append_of_le_length hbl, List.drop_append_of_le_length hbl]; simp
            rw [hE2] at hins ⊢
            have hsub : (bs.take best.toNat ++ vat :: bs.drop best.toNat).Pairwise (· < ·) := (List.pairwise_append.1 (List.pairwise_cons.1 hins).2).1
            rw [sort_ins hsub]
            exact ih ν (v2 - 1) t t2 _ hins (by rw [List.length_append, List.length_cons, List.length_take, List.length_drop]; omega) ω3 ω3 ω3
    · rw [decide_eq_false hv, decide_eq_false (show ¬ (bs.length : Int) < v by omega)]; rfl
theorem breaks_same (l : List Nat) (x : Nat) (v : Int) : p_impl_BreaksOf l x v = p_spec_BreaksOf l x v := by
  rw [p_impl_BreaksOf_eq, p_spec_BreaksOf_eq, long_same, impl_fin, spec_fin]
  cases hl : p_spec_l03Long l
  · rfl
  · obtain ⟨h1, h2, h3⟩ := long_t hl
    cases fin .f32 x
    · rfl
    · have hw : p_impl_within v 0 16 = p_spec_l00In v 0 16 := rfl
      rw [hw]
      cases hi : p_spec_l00In v 0 16
      · rfl
      · simp only [Bool.not_true, cond_false]
        have : 0 ≤ v := by
          unfold p_spec_l00In at hi
          simp at hi; omega
        exact breaks_go l x v h2 h3 _ _ v false false [] (by simp; omega) (by simp) this (by simp) (by simp)
theorem brk_n (l : List UInt8) : 2 ≤ IntKind.wrap .i64 (2 + p_laws_b10At l (0 : Int) (14 : Int)) ∧ IntKind.wrap .i64 (2 + p_laws_b10At l (0 : Int) (14 : Int)) ≤ 15 := by
  have h1 := laws_b10At_rng l 0 14 ω12 ω12
  rw [wrap64 (n := 2 + p_laws_b10At l 0 14) ω3 ω3]; omega
theorem brk_at (l : List UInt8) : 2 ≤ IntKind.wrap .i64 (2 + p_laws_b10At l (1 : Int) (5 : Int)) ∧ IntKind.wrap .i64 (2 + p_laws_b10At l (1 : Int) (5 : Int)) ≤ 6 := by
  have h1 := laws_b10At_rng l 1 5 ω12 ω12
  rw [wrap64 (n := 2 + p_laws_b10At l 1 5) ω3 ω3]; omega
theorem brk_th (l : List UInt8) : 7 ≤ IntKind.wrap .i64 (IntKind.wrap .i64 (IntKind.wrap .i64 (IntKind.wrap .i64 (2 + p_laws_b10At l (1 : Int) (5 : Int)) + 2) + p_laws_b10At l (2 : Int) (5 : Int)) + 3) ∧ IntKind.wrap .i64 (IntKind.wrap .i64 (IntKind.wrap .i64 (IntKind.wrap .i64 (2 + p_laws_b10At l (1 : Int) (5 : Int)) + 2) + p_laws_b10At l (2 : Int) (5 : Int)) + 3) ≤ 15 := by
  have h1 := brk_at l
  have h2 := laws_b10At_rng l 2 5 ω12 ω12
  rw [wrap64 (n := IntKind.wrap .i64 (2 + p_laws_b10At l 1 5) + 2) ω3 ω3, wrap64 (n := IntKind.wrap .i64 (2 + p_laws_b10At l 1 5) + 2 + p_laws_b10At l 2 5) ω3 ω3, wrap64 ω3 ω3]; omega
theorem steps_at (a t i : Nat) : stp a t i = if t ≤ i then 1101004800 else if a ≤ i then 1091567616 else 1065353216 := rfl
theorem l2_go {c m : List UInt8} {b1 b2 s1 s2 : Nat} {t97 : Int} {k2 : List Nat → Int → Bool} {a t : Nat}
    (ha : IntKind.wrap .i64 (2 + p_laws_b10At m (1 : Int) (5 : Int)) = (a : Int))
    (ht : IntKind.wrap .i64 (IntKind.wrap .i64 ((a : Int) + 2) + p_laws_b10At m (2 : Int) (5 : Int)) = (t : Int))
    (he : IntKind.wrap .i64 ((t : Int) + 3) = ((t + 3 : Nat) : Int)) (hat : a ≤ t) : ∀ (μ : Nat) (o : List Nat) (i : Nat), i ≤ t + 3 → t + 3 - i < μ →
    p_laws_FnBreaks_l2 c m b1 b2 s1 s2 t97 k2 μ o (i : Int) = k2 (o ++ (List.range' i (t + 3 - i)).map (stp a t)) ((t + 3 : Nat) : Int) := by
  intro μ
  induction μ with
  | zero => intro o i _ h; omega
  | succ μ ih =>
    intro o i hi hm
    rw [p_laws_FnBreaks_l2_s, ha, ht, he]
    by_cases h : i < t + 3
    · have e : List.range' i (t + 3 - i) = i :: List.range' (i + 1) (t + 3 - (i + 1)) := by
        rw [show t + 3 - i = (t + 3 - (i + 1)) + 1 by omega, List.range'_succ]
      rw [decide_eq_true (show (i : Int) < ((t + 3 : Nat) : Int) by omega), cond_true, e, List.map_cons]
      have st : ∀ x : Nat, stp a t i = x → p_laws_FnBreaks_l2 c m b1 b2 s1 s2 t97 k2 μ (o ++ [x]) ((i : Int) + 1) = k2 (o ++ (stp a t i :: (List.range' (i + 1) (t + 3 - (i + 1))).map (stp a t))) ((t + 3 : Nat) : Int) := fun x hx => by
        have := ih (o ++ [x]) (i + 1) ω3 ω3
        refine Eq.trans this ?_
        rw [hx, List.append_assoc]; rfl
      by_cases h1 : t ≤ i
      · rw [decide_eq_true (show (t : Int) ≤ (i : Int) by omega), decide_eq_true (show (a : Int) ≤ (i : Int) by omega), cond_true, cond_true]
        exact st _ (by rw [steps_at, if_pos h1])
      · rw [decide_eq_false (show ¬ (t : Int) ≤ (i : Int) by omega), cond_false, cond_false]
        by_cases h2 : a ≤ i
        · rw [decide_eq_true (show (a : Int) ≤ (i : Int) by omega), cond_true]
          exact st _ (by rw [steps_at, if_neg h1, if_pos h2])
        · rw [decide_eq_false (show ¬ (a : Int) ≤ (i : Int) by omega), cond_false]
          exact st _ (by rw [steps_at, if_neg h1, if_neg h2])
    · have : i = t + 3 := by omega
      subst this
      rw [decide_eq_false (show ¬ ((t + 3 : Nat) : Int) < ((t + 3 : Nat) : Int) by omega), cond_false, Nat.sub_self]
      show _ = k2 (o ++ []) _
      rw [List.append_nil]
theorem l1_go {c m : List UInt8} {L C : List Nat} {W : Nat} {bb : Int × Nat × Bool}
    (eL : p_spec_B10Signal c (IntKind.wrap .i64 (2 + p_laws_b10At m (0 : Int) (14 : Int))) = L) (hl : L.length ≤ 15) (eB : p_impl_BestBreak L = bb)
    (eW : p_impl_SegmentMeans L [] = (List.replicate L.length W, true)) (eC : p_impl_SegmentMeans L [bb.1] = (C, true))
    (hL : ∀ i, i < L.length → fin .f32 (L.getD i 0) = true ∧ -8 ≤ rq .f32 (L.getD i 0) ∧ rq .f32 (L.getD i 0) ≤ 8)
    (hW : fin .f32 W = true ∧ -(8 + 1 / 524288) ≤ rq .f32 W ∧ rq .f32 W ≤ 8 + 1 / 524288)
    (hC : ∀ i, i < L.length → fin .f32 (C.getD i 0) = true ∧ -(8 + 1 / 524288) ≤ rq .f32 (C.getD i 0) ∧ rq .f32 (C.getD i 0) ≤ 8 + 1 / 524288)
    (hend : ∀ b1 b2 s1 s2 μ, Inv L W C L.length b1 b2 s1 s2 → p_laws_FnBreaks_l1 c m (μ + 1) b1 b2 s1 s2 ((L.length : Nat) : Int) = true) : ∀ (μ b1 b2 s1 s2 i : Nat), i ≤ L.length → L.length - i < μ → Inv L W C i b1 b2 s1 s2 → p_laws_FnBreaks_l1 c m μ b1 b2 s1 s2 (i : Int) = true := by
  intro μ
  induction μ with
  | zero => intro b1 b2 s1 s2 i _ h; omega
  | succ μ ih =>
    intro b1 b2 s1 s2 i hi hm iv
    by_cases h : i < L.length
    · rw [p_laws_FnBreaks_l1_s, eL, decide_eq_true (show (i : Int) < (L.length : Int) by omega), cond_true, eB, eW, eC, Int.toNat_natCast]
      have ew : (List.replicate L.length W).getD i 0 = W := by rw [List.getD_eq_getElem?_getD, List.getElem?_replicate, if_pos h]; rfl
      rw [ew]
      obtain ⟨x0, x1, x2⟩ := hL i h
      obtain ⟨w0, w1, w2⟩ := hW
      obtain ⟨y0, y1, y2⟩ := hC i h
      exact ih _ _ _ _ (i + 1) h ω3 (inv_next iv ω3 x0 w0 y0 x1 x2 w1 w2 y1 y2)
    · have e : i = L.length := by omega
      subst e
      exact hend _ _ _ _ _ iv
theorem ints_go (l : List Int) (t : Bool) : ∀ (μ i : Nat), l.length - i < μ → p_laws_b10Ints_l1 l l μ t (i : Int) = true := by
  intro μ
  induction μ with
  | zero => intro i h; omega
  | succ μ ih =>
    intro i hm
    rw [p_laws_b10Ints_l1_s]
    by_cases h : i < l.length
    · rw [decide_eq_true (show (i : Int) < (l.length : Int) by omega), cond_true, bne_self_eq_false, cond_false]
      exact ih (i + 1) ω3
    · rw [decide_eq_false (show ¬ (i : Int) < (l.length : Int) by omega), cond_false]
theorem ints_self (l : List Int) : p_laws_b10Ints l l = true := by
  rw [p_laws_b10Ints_eq, bne_self_eq_false, cond_false]
  exact ints_go l false _ 0 ω3
theorem laws_FnBreaks_true (l_code : List UInt8) (l_more : List UInt8) : p_laws_FnBreaks l_code l_more = true := by
  rw [p_laws_FnBreaks_eq]
  cases p_laws_b10Long l_code l_more
  case true => rfl
  rw [cond_false]
  have g0 := brk_n l_more
  have g1 := laws_b10At_rng l_more 1 5 ω12 ω12
  have g2 := laws_b10At_rng l_more 2 5 ω12 ω12
  obtain ⟨x, hx⟩ : ∃ x : Nat, p_laws_b10At l_more 1 5 = (x : Int) := ⟨(p_laws_b10At l_more 1 5).toNat, by omega⟩
  obtain ⟨y, hy⟩ : ∃ y : Nat, p_laws_b10At l_more 2 5 = (y : Int) := ⟨(p_laws_b10At l_more 2 5).toNat, by omega⟩
  have ha : IntKind.wrap .i64 (2 + p_laws_b10At l_more (1 : Int) (5 : Int)) = ((2 + x : Nat) : Int) := by rw [wrap64 ω3 ω3, hx]; omega
  have ht : IntKind.wrap .i64 (IntKind.wrap .i64 (((2 + x : Nat) : Int) + 2) + p_laws_b10At l_more (2 : Int) (5 : Int)) = ((4 + x + y : Nat) : Int) := by
    rw [wrap64 (n := ((2 + x : Nat) : Int) + 2) ω3 ω3, wrap64 ω3 ω3, hy]; omega
  have he : IntKind.wrap .i64 (((4 + x + y : Nat) : Int) + 3) = ((4 + x + y + 3 : Nat) : Int) := by rw [wrap64 ω3 ω3]; omega
  obtain ⟨hL, hA⟩ := spec_B10Signal_all l_code (IntKind.wrap .i64 (2 + p_laws_b10At l_more (0 : Int) (14 : Int)))
  generalize eL : p_spec_B10Signal l_code (IntKind.wrap .i64 (2 + p_laws_b10At l_more (0 : Int) (14 : Int))) = L at hL hA ⊢
  have h2 : 2 ≤ L.length := by omega
  have h15 : L.length ≤ 15 := by omega
  have hq : Qs L := hA
  have hf : ∀ z ∈ L, fin .f32 z = true := fun z hz => (qt_sv (hq z hz)).1
  obtain ⟨k, k1, k2, eB⟩ := best_brk_ok hq h2 h15 hf
  have eW := whole_q hq h2 h15 hf
  have eC := cut_q hq h15 k1 k2 hf
  have l1 : (L.take k).length = k := by rw [List.length_take]; omega
  have l2 : (L.drop k).length = L.length - k := List.length_drop ..
  have gq := gain_q hq h15 k1 k2
  have gnn : 0 ≤ rq .f32 (p_impl_gainAt L (p_impl_mean L) (k : Int)) := un_rq (by rw [gain_impl]; exact gain_un (by omega) (by omega) (by omega)) gq.1
  have gz : flt .f32 (p_impl_gainAt L (p_impl_mean L) (k : Int)) 0 = false := by
    rw [flt_rq gq.1 (fin_zero _), rq_zero]
    exact decide_eq_false (by rw [Rat.not_lt]; exact gnn)
  rw [eB, eW]
  rw [show p_impl_SegmentMeans L [((k : Int), p_impl_gainAt L (p_impl_mean L) (k : Int), true).1] = _ from eC]
  rw [decide_eq_false (show ¬ (k : Int) < 1 by omega), decide_eq_false (show ¬ (L.length : Int) ≤ (k : Int) by omega), gz]
  have n1 : ((((List.replicate L.length (p_impl_mean L)).length : Nat) : Int) != (L.length : Int)) = false := by rw [List.length_replicate]; simp
  have n2 : ((((List.replicate k (p_impl_mean (L.take k)) ++ List.replicate (L.length - k) (p_impl_mean (L.drop k))).length : Nat) : Int) != (L.length : Int)) = false := by rw [List.length_append, List.length_replicate, List.length_replicate, show k + (L.length - k) = L.length by omega]; simp
  rw [n1, n2]
  simp only [Bool.not_true, cond_false]
  have qt_at : ∀ i, i < L.length → Qt (L.getD i 0) := fun i hi => by rw [List.getD_eq_getElem?_getD, List.getElem?_eq_getElem hi]; exact hq _ (List.getElem_mem hi)
  have m0 := mean_q hq ω3 ω3
  have m8 := mean_q8 hq ω3 ω3
  have t0 := mean_q (qs_take hq k) ω3 ω3
  have t8 := mean_q8 (qs_take hq k) ω3 ω3
  have d0 := mean_q (qs_drop hq k) ω3 ω3
  have d8 := mean_q8 (qs_drop hq k) ω3 ω3
  refine l1_go eL h15 eB eW eC (fun i hi => ⟨(qt_sv (qt_at i hi)).1, (rq_le_eight (qt_at i hi)).1, (rq_le_eight (qt_at i hi)).2⟩) ⟨m0.1, m8.1, m8.2⟩ (fun i hi => ?_) (fun b1 b2 s1 s2 μ iv => ?_) _ _ _ _ _ 0 (Nat.zero_le _) ω3 (inv_zero _ _ _)
  · rw [pieces_get ω3 hi]
    by_cases h : i < k
    · rw [if_pos h]; exact ⟨t0.1, t8.1, t8.2⟩
    · rw [if_neg h]; exact ⟨d0.1, d8.1, d8.2⟩
  · obtain ⟨e1, e2⟩ := ends_q hq h15 k1 k2 iv
    rw [p_laws_FnBreaks_l1_s, eL, decide_eq_false (show ¬ ((L.length : Nat) : Int) < (L.length : Int) by omega), cond_false, eB]
    rw [e1, e2, cond_false, cond_false]
    refine (l2_go ha ht he ω3 _ [] 0 (Nat.zero_le _) (by rw [ha, ht, he]; omega)).trans ?_
    rw [ha, ht, List.nil_append, Nat.sub_zero, ← List.range_eq_range', show (List.range (4 + x + y + 3)).map (stp (2 + x) (4 + x + y)) = stps (2 + x) (4 + x + y) from rfl]
    obtain ⟨st1, st2⟩ := steps_tab x ω3 y ω3
    rw [breaks_same, breaks_same, breaks_same, st1, st2]
    have ints : p_laws_b10Ints (p_spec_BreaksOf L 1065353216 5).1 (p_spec_BreaksOf L 1065353216 5).1 = true := ints_self _
    rw [ints]
    generalize (p_spec_BreaksOf L 1065353216 5).2 = q
    have q1 : ((([] : List Int).length : Int) == 0) = true := rfl
    have q2 : ((([((2 + x : Nat) : Int), ((4 + x + y : Nat) : Int)].length : Nat) : Int) == 2) = true := rfl
    have q3 : ([((2 + x : Nat) : Int), ((4 + x + y : Nat) : Int)].getD (0 : Int).toNat 0 == ((2 + x : Nat) : Int)) = true := beq_self_eq_true _
    have q4 : ([((2 + x : Nat) : Int), ((4 + x + y : Nat) : Int)].getD (1 : Int).toNat 0 == ((4 + x + y : Nat) : Int)) = true := beq_self_eq_true _
    simp only [q1, q2, q3, q4, beq_self_eq_true, cond_true]
    cases q <;> rfl
/-! laws_FnBreaks: function 11 -/
def E_laws_FnBreaks : Env := envOf [(43, S_laws_b10Long), (44, S_laws_b10At), (45, S_spec_B10Signal), (71, S_impl_BestBreak), (72, S_impl_SegmentMeans), (48, S_laws_b10Gap), (73, S_impl_BreaksOf), (74, S_spec_BreaksOf), (75, S_laws_b10Ints)]
def F_laws_FnBreaks : List Value → AHeap → (Value → AHeap → Prop) → Prop
  | [.slice code_a code_n code_e, .slice more_a more_n more_e], H, K => T_laws_FnBreaks code_a code_n code_e more_a more_n more_e H fun (r1 : Bool) (H' : AHeap) => K (.bool r1) H'
  | _, _, _ => False
def S_laws_FnBreaks : FSpec := { F := F_laws_FnBreaks, quiet := false, tame := false }
theorem laws_FnBreaks_vc (code_a : Option Addr) (code_n : Nat) (code_e : Nat) (more_a : Option Addr) (more_n : Nat) (more_e : Nat) (H : AHeap) (K : Value → AHeap → Prop) : bodyL Try.prog E_laws_FnBreaks Try.f11 [.slice code_a code_n code_e, .slice more_a more_n more_e] H K =
  (T_laws_b10Long code_a code_n code_e more_a more_n more_e H fun (r1 : Bool) (H1 : AHeap) => Br r1 (K (.bool true) H1) (T_laws_b10At more_a more_n more_e 0 14 H1 fun (r2 : Int) (H2 : AHeap) => T_spec_B10Signal code_a code_n code_e (IntKind.wrap .i64 (2 + r2)) H2 fun (a1 : Option Addr) (r3 : Nat) (r4 : Nat) (H3 : AHeap) => T_impl_BestBreak a1 r3 r4 H3 fun (r5 : Int) (r6 : Nat) (r7 : Bool) (H4 : AHeap) => Br (!r7) (K (.bool false) H4) (Br (decide ((r5 : Int) < 1)) (K (.bool false) H4) (Br (decide (((r3 : Int) : Int) ≤ r5)) (K (.bool false) H4) (Br (flt .f32 r6 0) (K (.bool false) H4) (T_impl_SegmentMeans a1 r3 r4 none 0 0 H4 fun (a2 : Option Addr) (r8 : Nat) (r9 : Nat) (r10 : Bool) (H5 : AHeap) => Al [.int .i64 r5] H5 fun b1 H6 => T_impl_SegmentMeans a1 r3 r4 (some ⟨b1, 0, none⟩) 1 1 H6 fun (a3 : Option Addr) (r11 : Nat) (r12 : Nat) (r13 : Bool) (H7 : AHeap) => Br (!r10) (K (.bool false) H7) (Br (!r13) (K (.bool false) H7) (Br (((r8 : Int) : Int) != (r3 : Int)) (K (.bool false) H7) (Br (((r11 : Int) : Int) != (r3 : Int)) (K (.bool false) H7) (loopK (exL Try.prog E_laws_FnBreaks (cl (cl (cr (cl (cr (cr (cr (cr (cr (cr (cr (cr (cr (cr (cr (cr (bodyC Try.f11))))))))))))))))) 237684487542793012780631976610 16 [(0, 123042)]) [ud, .slice more_a more_n more_e, ud, ud, ud, .slice a1 r3 r4, ud, .float .f32 r6, ud, .slice a2 r8 r9, ud, .slice a3 r11 r12, ud, .float .f64 0, .float .f64 0, .float .f64 0, .float .f64 0, ud, ud, ud, ud, ud, ud, ud, ud, ud, ud, ud, ud, ud, ud, ud, ud, ud, ud, ud, ud, ud, ud, ud, ud, ud, ud, ud, ud, ud, ud, ud, ud, ud, ud, ud, ud, ud, ud, ud, ud, ud, ud, ud, ud, ud, ud, ud, ud, ud, ud, ud, ud, ud, ud, ud, ud, ud, ud, ud, ud, ud, ud, ud, ud, ud, ud, ud, ud, ud, ud, ud, ud, ud, ud, ud, ud, ud, ud, ud, .int .i64 (r3 : Int), .int .i64 0, ud, ud, ud, ud, ud, ud, ud, ud, ud, ud, ud, ud, ud, ud, ud, ud, ud, ud, ud, ud, ud, ud, ud, ud, ud, ud, ud, ud, ud, ud, ud, ud, ud, ud, ud, ud, ud, ud, ud, ud, ud, ud, ud, ud, ud, ud, ud, ud, ud, ud, ud, ud, ud, ud, ud, ud, ud, ud, ud, ud, ud, ud, ud, ud, ud, ud, ud, ud, ud, ud, ud, ud, ud, ud, ud, ud, ud, ud, ud, ud, ud, ud, ud, ud, ud, ud, ud, ud, ud, ud, ud, ud, ud, ud, ud, ud, ud, ud, ud, ud, ud, ud, ud, ud, ud, ud, ud, ud, ud, ud, ud, ud, ud, ud, ud, ud, ud, ud, ud, ud, ud, ud, ud, ud, ud, ud, ud, ud, ud, ud, ud, ud, ud, ud, ud, ud, ud, ud, ud, ud, ud, ud, ud, ud, ud, ud, ud, ud, ud, ud, ud, ud] H7 (blockQ 0 (seqQ (exL Try.prog E_laws_FnBreaks (cr (cr (cr (cr (cr (cr (cr (cr (cr (cr (cr (cr (cr (bodyC Try.f11)))))))))))))) 16 16 []) (retK Try.prog Try.f11 K))))))))))))) := by kernel_rfl
abbrev laws_FnBreaks_P1 (a1 : Option Addr) (a2 : Option Addr) (a3 : Option Addr) (more_a : Option Addr) (more_e : Nat) (more_n : Nat) (r11 : Nat) (r12 : Nat) (r3 : Nat) (r4 : Nat) (r6 : Nat) (r8 : Nat) (r9 : Nat) (before : Nat) (behind : Nat) (sum : Nat) (means : Nat) (t97 : Int)  : List Value := [ud, .slice more_a more_n more_e, ud, ud, ud, .slice a1 r3 r4, ud, .float .f32 r6, ud, .slice a2 r8 r9, ud, .slice a3 r11 r12, ud, .float .f64 before, .float .f64 behind, .float .f64 sum, .float .f64 means, ud, ud, ud, ud, ud, ud, ud, ud, ud, ud, ud, ud, ud, ud, ud, ud, ud, ud, ud, ud, ud, ud, ud, ud, ud, ud, ud, ud, ud, ud, ud, ud, ud, ud, ud, ud, ud, ud, ud, ud, ud, ud, ud, ud, ud, ud, ud, ud, ud, ud, ud, ud, ud, ud, ud, ud, ud, ud, ud, ud, ud, ud, ud, ud, ud, ud, ud, ud, ud, ud, ud, ud, ud, ud, ud, ud, ud, ud, ud, .int .i64 (r3 : Int), .int .i64 t97, ud, ud, ud, ud, ud, ud, ud, ud, ud, ud, ud, ud, ud, ud, ud, ud, ud, ud, ud, ud, ud, ud, ud, ud, ud, ud, ud, ud, ud, ud, ud, ud, ud, ud, ud, ud, ud, ud, ud, ud, ud, ud, ud, ud, ud, ud, ud, ud, ud, ud, ud, ud, ud, ud, ud, ud, ud, ud, ud, ud, ud, ud, ud, ud, ud, ud, ud, ud, ud, ud, ud, ud, ud, ud, ud, ud, ud, ud, ud, ud, ud, ud, ud, ud, ud, ud, ud, ud, ud, ud, ud, ud, ud, ud, ud, ud, ud, ud, ud, ud, ud, ud, ud, ud, ud, ud, ud, ud, ud, ud, ud, ud, ud, ud, ud, ud, ud, ud, ud, ud, ud, ud, ud, ud, ud, ud, ud, ud, ud, ud, ud, ud, ud, ud, ud, ud, ud, ud, ud, ud, ud, ud, ud, ud, ud, ud, ud, ud, ud, ud, ud, ud]
theorem laws_FnBreaks_r1 (a1 : Option Addr) (a2 : Option Addr) (a3 : Option Addr) (more_a : Option Addr) (more_e : Nat) (more_n : Nat) (r11 : Nat) (r12 : Nat) (r3 : Nat) (r4 : Nat) (r6 : Nat) (r8 : Nat) (r9 : Nat) (before : Nat) (behind : Nat) (sum : Nat) (means : Nat) (t97 : Int)  (H : AHeap) (R : Post) : exL Try.prog E_laws_FnBreaks (cl (cl (cr (cl (cr (cr (cr (cr (cr (cr (cr (cr (cr (cr (cr (cr (bodyC Try.f11))))))))))))))))) 237684487542793012780631976610 16 [(0, 123042)] (laws_FnBreaks_P1 a1 a2 a3 more_a more_e more_n r11 r12 r3 r4 r6 r8 r9 before behind sum means t97) H R =
  (Br (decide ((t97 : Int) < (r3 : Int))) ((0 : Int) ≤ t97 ∧ t97 < (r3 : Int) ∧ ∃ b2 f1, (a1 : Option Addr) = some ⟨b2, f1, none⟩ ∧ ∃ x1 : Nat,  rdC H b2 (f1 + (t97 : Int).toNat * 1) = some (.float .f32 x1) ∧ (0 : Int) ≤ t97 ∧ t97 < (r8 : Int) ∧ ∃ b3 f2, (a2 : Option Addr) = some ⟨b3, f2, none⟩ ∧ ∃ x2 : Nat,  rdC H b3 (f2 + (t97 : Int).toNat * 1) = some (.float .f32 x2) ∧ (0 : Int) ≤ t97 ∧ t97 < (r3 : Int) ∧ ∃ b4 f3, (a1 : Option Addr) = some ⟨b4, f3, none⟩ ∧ ∃ x3 : Nat,  rdC H b4 (f3 + (t97 : Int).toNat * 1) = some (.float .f32 x3) ∧ (0 : Int) ≤ t97 ∧ t97 < (r11 : Int) ∧ ∃ b5 f4, (a3 : Option Addr) = some ⟨b5, f4, none⟩ ∧ ∃ x4 : Nat,  rdC H b5 (f4 + (t97 : Int).toNat * 1) = some (.float .f32 x4) ∧ (0 : Int) ≤ t97 ∧ t97 < (r3 : Int) ∧ ∃ b6 f5, (a1 : Option Addr) = some ⟨b6, f5, none⟩ ∧ ∃ x5 : Nat,  rdC H b6 (f5 + (t97 : Int).toNat * 1) = some (.float .f32 x5) ∧ (0 : Int) ≤ t97 ∧ t97 < (r11 : Int) ∧ ∃ b7 f6, (a3 : Option Addr) = some ⟨b7, f6, none⟩ ∧ ∃ x6 : Nat,  rdC H b7 (f6 + (t97 : Int).toNat * 1) = some (.float .f32 x6) ∧ R .normal [ud, .slice more_a more_n more_e, ud, ud, ud, .slice a1 r3 r4, ud, .float .f32 r6, ud, .slice a2 r8 r9, ud, .slice a3 r11 r12, ud, .float .f64 (fadd .f64 before (fmul .f64 (fsub .f64 (fwide x1) (fwide x2)) (fsub .f64 (fwide x1) (fwide x2)))), .float .f64 (fadd .f64 behind (fmul .f64 (fsub .f64 (fwide x3) (fwide x4)) (fsub .f64 (fwide x3) (fwide x4)))), .float .f64 (fadd .f64 sum (fwide x5)), .float .f64 (fadd .f64 means (fwide x6)), ud, ud, ud, ud, ud, ud, ud, ud, ud, ud, ud, ud, ud, ud, ud, ud, ud, ud, ud, ud, ud, ud, ud, ud, ud, ud, ud, ud, ud, ud, ud, ud, ud, ud, ud, ud, ud, ud, ud, ud, ud, ud, ud, ud, ud, ud, ud, ud, ud, ud, ud, ud, ud, ud, ud, ud, ud, ud, ud, ud, ud, ud, ud, ud, ud, ud, ud, ud, ud, ud, ud, ud, ud, ud, ud, ud, ud, ud, ud, .int .i64 (r3 : Int), .int .i64 (IntKind.wrap .i64 (t97 + 1)), ud, ud, ud, ud, ud, ud, ud, ud, ud, ud, ud, ud, ud, ud, ud, ud, ud, ud, ud, ud, ud, ud, ud, ud, ud, ud, ud, ud, ud, ud, ud, ud, ud, ud, ud, ud, ud, ud, ud, ud, ud, ud, ud, ud, ud, ud, ud, ud, ud, ud, ud, ud, ud, ud, ud, ud, ud, ud, ud, ud, ud, ud, ud, ud, ud, ud, ud, ud, ud, ud, ud, ud, ud, ud, ud, ud, ud, ud, ud, ud, ud, ud, ud, ud, ud, ud, ud, ud, ud, ud, ud, ud, ud, ud, ud, ud, ud, ud, ud, ud, ud, ud, ud, ud, ud, ud, ud, ud, ud, ud, ud, ud, ud, ud, ud, ud, ud, ud, ud, ud, ud, ud, ud, ud, ud, ud, ud, ud, ud, ud, ud, ud, ud, ud, ud, ud, ud, ud, ud, ud, ud, ud, ud, ud, ud, ud, ud, ud, ud, ud, ud, ud] H) (R (.exit 0) [ud, .slice more_a more_n more_e, ud, ud, ud, .slice a1 r3 r4, ud, .float .f32 r6, ud, ud, ud, ud, ud, .float .f64 before, .float .f64 behind, .float .f64 sum, .float .f64 means, ud, ud, ud, ud, ud, ud, ud, ud, ud, ud, ud, ud, ud, ud, ud, ud, ud, ud, ud, ud, ud, ud, ud, ud, ud, ud, ud, ud, ud, ud, ud, ud, ud, ud, ud, ud, ud, ud, ud, ud, ud, ud, ud, ud, ud, ud, ud, ud, ud, ud, ud, ud, ud, ud, ud, ud, ud, ud, ud, ud, ud, ud, ud, ud, ud, ud, ud, ud, ud, ud, ud, ud, ud, ud, ud, ud, ud, ud, ud, ud, ud, ud, ud, ud, ud, ud, ud, ud, ud, ud, ud, ud, ud, ud, ud, ud, ud, ud, ud, ud, ud, ud, ud, ud, ud, ud, ud, ud, ud, ud, ud, ud, ud, ud, ud, ud, ud, ud, ud, ud, ud, ud, ud, ud, ud, ud, ud, ud, ud, ud, ud, ud, ud, ud, ud, ud, ud, ud, ud, ud, ud, ud, ud, ud, ud, ud, ud, ud, ud, ud, ud, ud, ud, ud, ud, ud, ud, ud, ud, ud, ud, ud, ud, ud, ud, ud, ud, ud, ud, ud, ud, ud, ud, ud, ud, ud, ud, ud, ud, ud, ud, ud, ud, ud, ud, ud, ud, ud, ud, ud, ud, ud, ud, ud, ud, ud, ud, ud, ud, ud, ud, ud, ud, ud, ud, ud, ud, ud, ud, ud, ud, ud, ud, ud, ud, ud, ud, ud, ud, ud, ud, ud, ud, ud, ud, ud, ud, ud, ud, ud, ud, ud, ud] H)) := by kernel_rfl
def laws_FnBreaks_I1 (a1 : Option Addr) (a2 : Option Addr) (a3 : Option Addr) (more_a : Option Addr) (more_e : Nat) (more_n : Nat) (r11 : Nat) (r12 : Nat) (r3 : Nat) (r4 : Nat) (r6 : Nat) (r8 : Nat) (r9 : Nat) (Inv : Nat → Nat → Nat → Nat → Nat → Int → AHeap → Prop) : Nat → List Value → AHeap → Prop := fun μ tm H => ∃ (before : Nat), ∃ (behind : Nat), ∃ (sum : Nat), ∃ (means : Nat), ∃ (t97 : Int), tm = (laws_FnBreaks_P1 a1 a2 a3 more_a more_e more_n r11 r12 r3 r4 r6 r8 r9 before behind sum means t97) ∧ Inv μ before behind sum means t97 H
theorem laws_FnBreaks_L1 (a1 : Option Addr) (a2 : Option Addr) (a3 : Option Addr) (more_a : Option Addr) (more_e : Nat) (more_n : Nat) (r11 : Nat) (r12 : Nat) (r3 : Nat) (r4 : Nat) (r6 : Nat) (r8 : Nat) (r9 : Nat) {Q : Post} (Inv : Nat → Nat → Nat → Nat → Nat → Int → AHeap → Prop) (ν : Nat) (before : Nat) (behind : Nat) (sum : Nat) (means : Nat) (t97 : Int)  (H : AHeap) (h0 : Inv ν before behind sum means t97 H)
    (hs : ∀ (μ : Nat) (before : Nat) (behind : Nat) (sum : Nat) (means : Nat) (t97 : Int)  (H : AHeap), Inv μ before behind sum means t97 H → exL Try.prog E_laws_FnBreaks (cl (cl (cr (cl (cr (cr (cr (cr (cr (cr (cr (cr (cr (cr (cr (cr (bodyC Try.f11))))))))))))))))) 237684487542793012780631976610 16 [(0, 123042)] (laws_FnBreaks_P1 a1 a2 a3 more_a more_e more_n r11 r12 r3 r4 r6 r8 r9 before behind sum means t97) H (loopQ (laws_FnBreaks_I1 a1 a2 a3 more_a more_e more_n r11 r12 r3 r4 r6 r8 r9 Inv) μ Q)) : loopK (exL Try.prog E_laws_FnBreaks (cl (cl (cr (cl (cr (cr (cr (cr (cr (cr (cr (cr (cr (cr (cr (cr (bodyC Try.f11))))))))))))))))) 237684487542793012780631976610 16 [(0, 123042)]) (laws_FnBreaks_P1 a1 a2 a3 more_a more_e more_n r11 r12 r3 r4 r6 r8 r9 before behind sum means t97) H Q :=
  ⟨laws_FnBreaks_I1 a1 a2 a3 more_a more_e more_n r11 r12 r3 r4 r6 r8 r9 Inv, ν, ⟨before, behind, sum, means, t97, rfl, h0⟩, fun μ tm H h => by obtain ⟨before, behind, sum, means, t97, rfl, hI⟩ := h; exact hs μ before behind sum means t97  H hI⟩
theorem laws_FnBreaks_n1 {a1 : Option Addr} {a2 : Option Addr} {a3 : Option Addr} {more_a : Option Addr} {more_e : Nat} {more_n : Nat} {r11 : Nat} {r12 : Nat} {r3 : Nat} {r4 : Nat} {r6 : Nat} {r8 : Nat} {r9 : Nat} {Q : Post} {Inv : Nat → Nat → Nat → Nat → Nat → Int → AHeap → Prop} {μ : Nat} (μ' : Nat) {before : Nat} {behind : Nat} {sum : Nat} {means : Nat} {t97 : Int}  {H : AHeap} (hm : μ' < μ) (hI : Inv μ' before behind sum means t97 H) : loopQ (laws_FnBreaks_I1 a1 a2 a3 more_a more_e more_n r11 r12 r3 r4 r6 r8 r9 Inv) μ Q .normal (laws_FnBreaks_P1 a1 a2 a3 more_a more_e more_n r11 r12 r3 r4 r6 r8 r9 before behind sum means t97) H := ⟨μ', hm, before, behind, sum, means, t97, rfl, hI⟩
theorem laws_FnBreaks_x1_0 (a1 : Option Addr) (more_a : Option Addr) (more_e : Nat) (more_n : Nat) (r3 : Nat) (r4 : Nat) (r6 : Nat) (before : Nat) (behind : Nat) (sum : Nat) (means : Nat) (H : AHeap) (K : Value → AHeap → Prop)  {I : Nat → List Value → AHeap → Prop} {μ : Nat} : loopQ I μ (blockQ 0 (seqQ (exL Try.prog E_laws_FnBreaks (cr (cr (cr (cr (cr (cr (cr (cr (cr (cr (cr (cr (cr (bodyC Try.f11)))))))))))))) 16 16 []) (retK Try.prog Try.f11 K))) (.exit 0) [ud, .slice more_a more_n more_e, ud, ud, ud, .slice a1 r3 r4, ud, .float .f32 r6, ud, ud, ud, ud, ud, .float .f64 before, .float .f64 behind, .float .f64 sum, .float .f64 means, ud, ud, ud, ud, ud, ud, ud, ud, ud, ud, ud, ud, ud, ud, ud, ud, ud, ud, ud, ud, ud, ud, ud, ud, ud, ud, ud, ud, ud, ud, ud, ud, ud, ud, ud, ud, ud, ud, ud, ud, ud, ud, ud, ud, ud, ud, ud, ud, ud, ud, ud, ud, ud, ud, ud, ud, ud, ud, ud, ud, ud, ud, ud, ud, ud, ud, ud, ud, ud, ud, ud, ud, ud, ud, ud, ud, ud, ud, ud, ud, ud, ud, ud, ud, ud, ud, ud, ud, ud, ud, ud, ud, ud, ud, ud, ud, ud, ud, ud, ud, ud, ud, ud, ud, ud, ud, ud, ud, ud, ud, ud, ud, ud, ud, ud, ud, ud, ud, ud, ud, ud, ud, ud, ud, ud, ud, ud, ud, ud, ud, ud, ud, ud, ud, ud, ud, ud, ud, ud, ud, ud, ud, ud, ud, ud, ud, ud, ud, ud, ud, ud, ud, ud, ud, ud, ud, ud, ud, ud, ud, ud, ud, ud, ud, ud, ud, ud, ud, ud, ud, ud, ud, ud, ud, ud, ud, ud, ud, ud, ud, ud, ud, ud, ud, ud, ud, ud, ud, ud, ud, ud, ud, ud, ud, ud, ud, ud, ud, ud, ud, ud, ud, ud, ud, ud, ud, ud, ud, ud, ud, ud, ud, ud, ud, ud, ud, ud, ud, ud, ud, ud, ud, ud, ud, ud, ud, ud, ud, ud, ud, ud, ud, ud] H =
  (T_laws_b10Gap (fsub .f64 before behind) (fwide r6) H fun (r14 : Nat) (H8 : AHeap) => Br (flt .f64 (fmul .f64 4576918229304087675 (fadd .f64 4607182418800017408 before)) r14) (K (.bool false) H8) (T_laws_b10Gap sum means H8 fun (r15 : Nat) (H9 : AHeap) => Br (flt .f64 4576918229304087675 r15) (K (.bool false) H9) (T_laws_b10At more_a more_n more_e 1 5 H9 fun (r16 : Int) (H10 : AHeap) => T_laws_b10At more_a more_n more_e 2 5 H10 fun (r17 : Int) (H11 : AHeap) => Al [] H11 fun b8 H12 => loopK (exL Try.prog E_laws_FnBreaks (cl (cl (cr (cl (cr (cr (cr (cr (cr (cr (cr (cr (cr (cr (cr (cr (cr (cr (cr (cr (cr (bodyC Try.f11)))))))))))))))))))))) 15728672 16 [(2, 7340064)]) [ud, ud, ud, ud, ud, .slice a1 r3 r4, ud, ud, ud, ud, ud, ud, ud, ud, ud, ud, ud, ud, ud, ud, .int .i64 (IntKind.wrap .i64 (2 + r16)), .int .i64 (IntKind.wrap .i64 ((IntKind.wrap .i64 ((IntKind.wrap .i64 (2 + r16)) + 2)) + r17)), .slice (some ⟨b8, 0, none⟩) 0 1, .int .i64 0, ud, ud, ud, ud, ud, ud, ud, ud, ud, ud, ud, ud, ud, ud, ud, ud, ud, ud, ud, ud, ud, ud, ud, ud, ud, ud, ud, ud, ud, ud, ud, ud, ud, ud, ud, ud, ud, ud, ud, ud, ud, ud, ud, ud, ud, ud, ud, ud, ud, ud, ud, ud, ud, ud, ud, ud, ud, ud, ud, ud, ud, ud, ud, ud, ud, ud, ud, ud, ud, ud, ud, ud, ud, ud, ud, ud, ud, ud, ud, ud, ud, ud, ud, ud, ud, ud, ud, ud, ud, ud, ud, ud, ud, ud, ud, ud, ud, ud, ud, ud, ud, ud, ud, ud, ud, ud, ud, ud, ud, ud, ud, ud, ud, ud, ud, ud, ud, ud, ud, ud, ud, ud, ud, ud, ud, ud, ud, ud, ud, ud, ud, ud, ud, ud, ud, ud, ud, ud, ud, ud, ud, ud, ud, ud, ud, ud, ud, ud, ud, ud, ud, ud, ud, ud, ud, ud, ud, ud, ud, ud, ud, ud, ud, ud, ud, ud, ud, ud, ud, ud, ud, ud, ud, ud, ud, ud, ud, ud, ud, ud, ud, ud, ud, ud, ud, ud, ud, ud, ud, ud, ud, ud, ud, ud, ud, ud, ud, ud, ud, ud, ud, ud, ud, ud, ud, ud, ud, ud, ud, ud, ud, ud, ud, ud, ud, ud, ud, ud, ud, ud, ud, ud, ud, ud, ud, ud] H12 (blockQ 2 (seqQ (exL Try.prog E_laws_FnBreaks (cr (cr (cr (cr (cr (cr (cr (cr (cr (cr (cr (cr (cr (cr (cr (cr (cr (cr (bodyC Try.f11))))))))))))))))))) 16 16 []) (retK Try.prog Try.f11 K)))))) := by kernel_rfl
abbrev laws_FnBreaks_P2 (a1 : Option Addr) (r3 : Nat) (r4 : Nat) (z2_20 : Int) (z2_21 : Int) (steps_a : Option Addr) (steps_n : Nat) (steps_e : Nat) (i : Int)  : List Value := [ud, ud, ud, ud, ud, .slice a1 r3 r4, ud, ud, ud, ud, ud, ud, ud, ud, ud, ud, ud, ud, ud, ud, .int .i64 z2_20, .int .i64 z2_21, .slice steps_a steps_n steps_e, .int .i64 i, ud, ud, ud, ud, ud, ud, ud, ud, ud, ud, ud, ud, ud, ud, ud, ud, ud, ud, ud, ud, ud, ud, ud, ud, ud, ud, ud, ud, ud, ud, ud, ud, ud, ud, ud, ud, ud, ud, ud, ud, ud, ud, ud, ud, ud, ud, ud, ud, ud, ud, ud, ud, ud, ud, ud, ud, ud, ud, ud, ud, ud, ud, ud, ud, ud, ud, ud, ud, ud, ud, ud, ud, ud, ud, ud, ud, ud, ud, ud, ud, ud, ud, ud, ud, ud, ud, ud, ud, ud, ud, ud, ud, ud, ud, ud, ud, ud, ud, ud, ud, ud, ud, ud, ud, ud, ud, ud, ud, ud, ud, ud, ud, ud, ud, ud, ud, ud, ud, ud, ud, ud, ud, ud, ud, ud, ud, ud, ud, ud, ud, ud, ud, ud, ud, ud, ud, ud, ud, ud, ud, ud, ud, ud, ud, ud, ud, ud, ud, ud, ud, ud, ud, ud, ud, ud, ud, ud, ud, ud, ud, ud, ud, ud, ud, ud, ud, ud, ud, ud, ud, ud, ud, ud, ud, ud, ud, ud, ud, ud, ud, ud, ud, ud, ud, ud, ud, ud, ud, ud, ud, ud, ud, ud, ud, ud, ud, ud, ud, ud, ud, ud, ud, ud, ud, ud, ud, ud, ud, ud, ud, ud, ud, ud, ud, ud, ud, ud, ud, ud, ud, ud, ud, ud, ud, ud, ud]
theorem laws_FnBreaks_r2 (a1 : Option Addr) (r3 : Nat) (r4 : Nat) (z2_20 : Int) (z2_21 : Int) (steps_a : Option Addr) (steps_n : Nat) (steps_e : Nat) (i : Int)  (H : AHeap) (R : Post) : exL Try.prog E_laws_FnBreaks (cl (cl (cr (cl (cr (cr (cr (cr (cr (cr (cr (cr (cr (cr (cr (cr (cr (cr (cr (cr (cr (bodyC Try.f11)))))))))))))))))))))) 15728672 16 [(2, 7340064)] (laws_FnBreaks_P2 a1 r3 r4 z2_20 z2_21 steps_a steps_n steps_e i) H R =
  (Br (decide ((i : Int) < IntKind.wrap .i64 (z2_21 + 3))) (Br (decide ((z2_20 : Int) ≤ i)) (Br (decide ((z2_21 : Int) ≤ i)) (Al [.float .f32 1101004800] H fun b9 H13 => ∃ o1 w1 : List Value, ownB H13 steps_a steps_n steps_e 1 = some o1 ∧ rdS H13 (some ⟨b9, 0, none⟩) (1 * 1) = some w1 ∧ ((steps_a : Option Addr) = none → 0 < (1 : Nat)) ∧ (steps_n : Nat) + 1 < most ∧ Ap H13 (killB H13 steps_a ++ [some ⟨o1 ++ w1, true⟩]) fun b10 H14 => R .normal [ud, ud, ud, ud, ud, .slice a1 r3 r4, ud, ud, ud, ud, ud, ud, ud, ud, ud, ud, ud, ud, ud, ud, .int .i64 z2_20, .int .i64 z2_21, .slice (some ⟨b10, 0, none⟩) (steps_n + 1) 1, .int .i64 (IntKind.wrap .i64 (i + 1)), ud, ud, ud, ud, ud, ud, ud, ud, ud, ud, ud, ud, ud, ud, ud, ud, ud, ud, ud, ud, ud, ud, ud, ud, ud, ud, ud, ud, ud, ud, ud, ud, ud, ud, ud, ud, ud, ud, ud, ud, ud, ud, ud, ud, ud, ud, ud, ud, ud, ud, ud, ud, ud, ud, ud, ud, ud, ud, ud, ud, ud, ud, ud, ud, ud, ud, ud, ud, ud, ud, ud, ud, ud, ud, ud, ud, ud, ud, ud, ud, ud, ud, ud, ud, ud, ud, ud, ud, ud, ud, ud, ud, ud, ud, ud, ud, ud, ud, ud, ud, ud, ud, ud, ud, ud, ud, ud, ud, ud, ud, ud, ud, ud, ud, ud, ud, ud, ud, ud, ud, ud, ud, ud, ud, ud, ud, ud, ud, ud, ud, ud, ud, ud, ud, ud, ud, ud, ud, ud, ud, ud, ud, ud, ud, ud, ud, ud, ud, ud, ud, ud, ud, ud, ud, ud, ud, ud, ud, ud, ud, ud, ud, ud, ud, ud, ud, ud, ud, ud, ud, ud, ud, ud, ud, ud, ud, ud, ud, ud, ud, ud, ud, ud, ud, ud, ud, ud, ud, ud, ud, ud, ud, ud, ud, ud, ud, ud, ud, ud, ud, ud, ud, ud, ud, ud, ud, ud, ud, ud, ud, ud, ud, ud, ud, ud, ud, ud, ud, ud, ud, ud, ud, ud, ud, ud, ud] H14) (Al [.float .f32 1091567616] H fun b11 H15 => ∃ o2 w2 : List Value, ownB H15 steps_a steps_n steps_e 1 = some o2 ∧ rdS H15 (some ⟨b11, 0, none⟩) (1 * 1) = some w2 ∧ ((steps_a : Option Addr) = none → 0 < (1 : Nat)) ∧ (steps_n : Nat) + 1 < most ∧ Ap H15 (killB H15 steps_a ++ [some ⟨o2 ++ w2, true⟩]) fun b12 H16 => R .normal [ud, ud, ud, ud, ud, .slice a1 r3 r4, ud, ud, ud, ud, ud, ud, ud, ud, ud, ud, ud, ud, ud, ud, .int .i64 z2_20, .int .i64 z2_21, .slice (some ⟨b12, 0, none⟩) (steps_n + 1) 1, .int .i64 (IntKind.wrap .i64 (i + 1)), ud, ud, ud, ud, ud, ud, ud, ud, ud, ud, ud, ud, ud, ud, ud, ud, ud, ud, ud, ud, ud, ud, ud, ud, ud, ud, ud, ud, ud, ud, ud, ud, ud, ud, ud, ud, ud, ud, ud, ud, ud, ud, ud, ud, ud, ud, ud, ud, ud, ud, ud, ud, ud, ud, ud, ud, ud, ud, ud, ud, ud, ud, ud, ud, ud, ud, ud, ud, ud, ud, ud, ud, ud, ud, ud, ud, ud, ud, ud, ud, ud, ud, ud, ud, ud, ud, ud, ud, ud, ud, ud, ud, ud, ud, ud, ud, ud, ud, ud, ud, ud, ud, ud, ud, ud, ud, ud, ud, ud, ud, ud, ud, ud, ud, ud, ud, ud, ud, ud, ud, ud, ud, ud, ud, ud, ud, ud, ud, ud, ud, ud, ud, ud, ud, ud, ud, ud, ud, ud, ud, ud, ud, ud, ud, ud, ud, ud, ud, ud, ud, ud, ud, ud, ud, ud, ud, ud, ud, ud, ud, ud, ud, ud, ud, ud, ud, ud, ud, ud, ud, ud, ud, ud, ud, ud, ud, ud, ud, ud, ud, ud, ud, ud, ud, ud, ud, ud, ud, ud, ud, ud, ud, ud, ud, ud, ud, ud, ud, ud, ud, ud, ud, ud, ud, ud, ud, ud, ud, ud, ud, ud, ud, ud, ud, ud, ud, ud, ud, ud, ud, ud, ud, ud, ud, ud, ud] H16)) (Br (decide ((z2_21 : Int) ≤ i)) (Al [.float .f32 1101004800] H fun b13 H17 => ∃ o3 w3 : List Value, ownB H17 steps_a steps_n steps_e 1 = some o3 ∧ rdS H17 (some ⟨b13, 0, none⟩) (1 * 1) = some w3 ∧ ((steps_a : Option Addr) = none → 0 < (1 : Nat)) ∧ (steps_n : Nat) + 1 < most ∧ Ap H17 (killB H17 steps_a ++ [some ⟨o3 ++ w3, true⟩]) fun b14 H18 => R .normal [ud, ud, ud, ud, ud, .slice a1 r3 r4, ud, ud, ud, ud, ud, ud, ud, ud, ud, ud, ud, ud, ud, ud, .int .i64 z2_20, .int .i64 z2_21, .slice (some ⟨b14, 0, none⟩) (steps_n + 1) 1, .int .i64 (IntKind.wrap .i64 (i + 1)), ud, ud, ud, ud, ud, ud, ud, ud, ud, ud, ud, ud, ud, ud, ud, ud, ud, ud, ud, ud, ud, ud, ud, ud, ud, ud, ud, ud, ud, ud, ud, ud, ud, ud, ud, ud, ud, ud, ud, ud, ud, ud, ud, ud, ud, ud, ud, ud, ud, ud, ud, ud, ud, ud, ud, ud, ud, ud, ud, ud, ud, ud, ud, ud, ud, ud, ud, ud, ud, ud, ud, ud, ud, ud, ud, ud, ud, ud, ud, ud, ud, ud, ud, ud, ud, ud, ud, ud, ud, ud, ud, ud, ud, ud, ud, ud, ud, ud, ud, ud, ud, ud, ud, ud, ud, ud, ud, ud, ud, ud, ud, ud, ud, ud, ud, ud, ud, ud, ud, ud, ud, ud, ud, ud, ud, ud, ud, ud, ud, ud, ud, ud, ud, ud, ud, ud, ud, ud, ud, ud, ud, ud, ud, ud, ud, ud, ud, ud, ud, ud, ud, ud, ud, ud, ud, ud, ud, ud, ud, ud, ud, ud, ud, ud, ud, ud, ud, ud, ud, ud, ud, ud, ud, ud, ud, ud, ud, ud, ud, ud, ud, ud, ud, ud, ud, ud, ud, ud, ud, ud, ud, ud, ud, ud, ud, ud, ud, ud, ud, ud, ud, ud, ud, ud, ud, ud, ud, ud, ud, ud, ud, ud, ud, ud, ud, ud, ud, ud, ud, ud, ud, ud, ud, ud, ud, ud] H18) (Al [.float .f32 1065353216] H fun b15 H19 => ∃ o4 w4 : List Value, ownB H19 steps_a steps_n steps_e 1 = some o4 ∧ rdS H19 (some ⟨b15, 0, none⟩) (1 * 1) = some w4 ∧ ((steps_a : Option Addr) = none → 0 < (1 : Nat)) ∧ (steps_n : Nat) + 1 < most ∧ Ap H19 (killB H19 steps_a ++ [some ⟨o4 ++ w4, true⟩]) fun b16 H20 => R .normal [ud, ud, ud, ud, ud, .slice a1 r3 r4, ud, ud, ud, ud, ud, ud, ud, ud, ud, ud, ud, ud, ud, ud, .int .i64 z2_20, .int .i64 z2_21, .slice (some ⟨b16, 0, none⟩) (steps_n + 1) 1, .int .i64 (IntKind.wrap .i64 (i + 1)), ud, ud, ud, ud, ud, ud, ud, ud, ud, ud, ud, ud, ud, ud, ud, ud, ud, ud, ud, ud, ud, ud, ud, ud, ud, ud, ud, ud, ud, ud, ud, ud, ud, ud, ud, ud, ud, ud, ud, ud, ud, ud, ud, ud, ud, ud, ud, ud, ud, ud, ud, ud, ud, ud, ud, ud, ud, ud, ud, ud, ud, ud, ud, ud, ud, ud, ud, ud, ud, ud, ud, ud, ud, ud, ud, ud, ud, ud, ud, ud, ud, ud, ud, ud, ud, ud, ud, ud, ud, ud, ud, ud, ud, ud, ud, ud, ud, ud, ud, ud, ud, ud, ud, ud, ud, ud, ud, ud, ud, ud, ud, ud, ud, ud, ud, ud, ud, ud, ud, ud, ud, ud, ud, ud, ud, ud, ud, ud, ud, ud, ud, ud, ud, ud, ud, ud, ud, ud, ud, ud, ud, ud, ud, ud, ud, ud, ud, ud, ud, ud, ud, ud, ud, ud, ud, ud, ud, ud, ud, ud, ud, ud, ud, ud, ud, ud, ud, ud, ud, ud, ud, ud, ud, ud, ud, ud, ud, ud, ud, ud, ud, ud, ud, ud, ud, ud, ud, ud, ud, ud, ud, ud, ud, ud, ud, ud, ud, ud, ud, ud, ud, ud, ud, ud, ud, ud, ud, ud, ud, ud, ud, ud, ud, ud, ud, ud, ud, ud, ud, ud, ud, ud, ud, ud, ud, ud] H20))) (R (.exit 2) [ud, ud, ud, ud, ud, .slice a1 r3 r4, ud, ud, ud, ud, ud, ud, ud, ud, ud, ud, ud, ud, ud, ud, .int .i64 z2_20, .int .i64 z2_21, .slice steps_a steps_n steps_e, ud, ud, ud, ud, ud, ud, ud, ud, ud, ud, ud, ud, ud, ud, ud, ud, ud, ud, ud, ud, ud, ud, ud, ud, ud, ud, ud, ud, ud, ud, ud, ud, ud, ud, ud, ud, ud, ud, ud, ud, ud, ud, ud, ud, ud, ud, ud, ud, ud, ud, ud, ud, ud, ud, ud, ud, ud, ud, ud, ud, ud, ud, ud, ud, ud, ud, ud, ud, ud, ud, ud, ud, ud, ud, ud, ud, ud, ud, ud, ud, ud, ud, ud, ud, ud, ud, ud, ud, ud, ud, ud, ud, ud, ud, ud, ud, ud, ud, ud, ud, ud, ud, ud, ud, ud, ud, ud, ud, ud, ud, ud, ud, ud, ud, ud, ud, ud, ud, ud, ud, ud, ud, ud, ud, ud, ud, ud, ud, ud, ud, ud, ud, ud, ud, ud, ud, ud, ud, ud, ud, ud, ud, ud, ud, ud, ud, ud, ud, ud, ud, ud, ud, ud, ud, ud, ud, ud, ud, ud, ud, ud, ud, ud, ud, ud, ud, ud, ud, ud, ud, ud, ud, ud, ud, ud, ud, ud, ud, ud, ud, ud, ud, ud, ud, ud, ud, ud, ud, ud, ud, ud, ud, ud, ud, ud, ud, ud, ud, ud, ud, ud, ud, ud, ud, ud, ud, ud, ud, ud, ud, ud, ud, ud, ud, ud, ud, ud, ud, ud, ud, ud, ud, ud, ud, ud, ud, ud] H)) := by kernel_rfl
def laws_FnBreaks_I2 (a1 : Option Addr) (r3 : Nat) (r4 : Nat) (z2_20 : Int) (z2_21 : Int) (Inv : Nat → (Option Addr) → Nat → Nat → Int → AHeap → Prop) : Nat → List Value → AHeap → Prop := fun μ tm H => ∃ (steps_a : Option Addr), ∃ (steps_n : Nat), ∃ (steps_e : Nat), ∃ (i : Int), tm = (laws_FnBreaks_P2 a1 r3 r4 z2_20 z2_21 steps_a steps_n steps_e i) ∧ Inv μ steps_a steps_n steps_e i H
theorem laws_FnBreaks_L2 (a1 : Option Addr) (r3 : Nat) (r4 : Nat) (z2_20 : Int) (z2_21 : Int) {Q : Post} (Inv : Nat → (Option Addr) → Nat → Nat → Int → AHeap → Prop) (ν : Nat) (steps_a : Option Addr) (steps_n : Nat) (steps_e : Nat) (i : Int)  (H : AHeap) (h0 : Inv ν steps_a steps_n steps_e i H)
    (hs : ∀ (μ : Nat) (steps_a : Option Addr) (steps_n : Nat) (steps_e : Nat) (i : Int)  (H : AHeap), Inv μ steps_a steps_n steps_e i H → exL Try.prog E_laws_FnBreaks (cl (cl (cr (cl (cr (cr (cr (cr (cr (cr (cr (cr (cr (cr (cr (cr (cr (cr (cr (cr (cr (bodyC Try.f11)))))))))))))))))))))) 15728672 16 [(2, 7340064)] (laws_FnBreaks_P2 a1 r3 r4 z2_20 z2_21 steps_a steps_n steps_e i) H (loopQ (laws_FnBreaks_I2 a1 r3 r4 z2_20 z2_21 Inv) μ Q)) : loopK (exL Try.prog E_laws_FnBreaks (cl (cl (cr (cl (cr (cr (cr (cr (cr (cr (cr (cr (cr (cr (cr (cr (cr (cr (cr (cr (cr (bodyC Try.f11)))))))))))))))))))))) 15728672 16 [(2, 7340064)]) (laws_FnBreaks_P2 a1 r3 r4 z2_20 z2_21 steps_a steps_n steps_e i) H Q :=
  ⟨laws_FnBreaks_I2 a1 r3 r4 z2_20 z2_21 Inv, ν, ⟨steps_a, steps_n, steps_e, i, rfl, h0⟩, fun μ tm H h => by obtain ⟨steps_a, steps_n, steps_e, i, rfl, hI⟩ := h; exact hs μ steps_a steps_n steps_e i  H hI⟩
theorem laws_FnBreaks_n2 {a1 : Option Addr} {r3 : Nat} {r4 : Nat} {z2_20 : Int} {z2_21 : Int} {Q : Post} {Inv : Nat → (Option Addr) → Nat → Nat → Int → AHeap → Prop} {μ : Nat} (μ' : Nat) {steps_a : Option Addr} {steps_n : Nat} {steps_e : Nat} {i : Int}  {H : AHeap} (hm : μ' < μ) (hI : Inv μ' steps_a steps_n steps_e i H) : loopQ (laws_FnBreaks_I2 a1 r3 r4 z2_20 z2_21 Inv) μ Q .normal (laws_FnBreaks_P2 a1 r3 r4 z2_20 z2_21 steps_a steps_n steps_e i) H := ⟨μ', hm, steps_a, steps_n, steps_e, i, rfl, hI⟩
theorem laws_FnBreaks_x2_2 (a1 : Option Addr) (r3 : Nat) (r4 : Nat) (z2_20 : Int) (z2_21 : Int) (steps_a : Option Addr) (steps_n : Nat) (steps_e : Nat) (H : AHeap) (K : Value → AHeap → Prop)  {I : Nat → List Value → AHeap → Prop} {μ : Nat} : loopQ I μ (blockQ 2 (seqQ (exL Try.prog E_laws_FnBreaks (cr (cr (cr (cr (cr (cr (cr (cr (cr (cr (cr (cr (cr (cr (cr (cr (cr (cr (bodyC Try.f11))))))))))))))))))) 16 16 []) (retK Try.prog Try.f11 K))) (.exit 2) [ud, ud, ud, ud, ud, .slice a1 r3 r4, ud, ud, ud, ud, ud, ud, ud, ud, ud, ud, ud, ud, ud, ud, .int .i64 z2_20, .int .i64 z2_21, .slice steps_a steps_n steps_e, ud, ud, ud, ud, ud, ud, ud, ud, ud, ud, ud, ud, ud, ud, ud, ud, ud, ud, ud, ud, ud, ud, ud, ud, ud, ud, ud, ud, ud, ud, ud, ud, ud, ud, ud, ud, ud, ud, ud, ud, ud, ud, ud, ud, ud, ud, ud, ud, ud, ud, ud, ud, ud, ud, ud, ud, ud, ud, ud, ud, ud, ud, ud, ud, ud, ud, ud, ud, ud, ud, ud, ud, ud, ud, ud, ud, ud, ud, ud, ud, ud, ud, ud, ud, ud, ud, ud, ud, ud, ud, ud, ud, ud, ud, ud, ud, ud, ud, ud, ud, ud, ud, ud, ud, ud, ud, ud, ud, ud, ud, ud, ud, ud, ud, ud, ud, ud, ud, ud, ud, ud, ud, ud, ud, ud, ud, ud, ud, ud, ud, ud, ud, ud, ud, ud, ud, ud, ud, ud, ud, ud, ud, ud, ud, ud, ud, ud, ud, ud, ud, ud, ud, ud, ud, ud, ud, ud, ud, ud, ud, ud, ud, ud, ud, ud, ud, ud, ud, ud, ud, ud, ud, ud, ud, ud, ud, ud, ud, ud, ud, ud, ud, ud, ud, ud, ud, ud, ud, ud, ud, ud, ud, ud, ud, ud, ud, ud, ud, ud, ud, ud, ud, ud, ud, ud, ud, ud, ud, ud, ud, ud, ud, ud, ud, ud, ud, ud, ud, ud, ud, ud, ud, ud, ud, ud, ud, ud] H =
  (T_impl_BreaksOf steps_a steps_n steps_e 1056964608 8 H fun (a4 : Option Addr) (r18 : Nat) (r19 : Nat) (r20 : Bool) (H21 : AHeap) => T_impl_BreaksOf steps_a steps_n steps_e 1056964608 0 H21 fun (a5 : Option Addr) (r21 : Nat) (r22 : Nat) (r23 : Bool) (H22 : AHeap) => T_impl_BreaksOf a1 r3 r4 1065353216 5 H22 fun (a6 : Option Addr) (r24 : Nat) (r25 : Nat) (r26 : Bool) (H23 : AHeap) => T_spec_BreaksOf a1 r3 r4 1065353216 5 H23 fun (a7 : Option Addr) (r27 : Nat) (r28 : Nat) (r29 : Bool) (H24 : AHeap) => Br r20 (Br r23 (Br (r26 == r29) (Br (((r21 : Int) : Int) == 0) (Br (((r18 : Int) : Int) == 2) ((0 : Int) ≤ 0 ∧ 0 < (r18 : Int) ∧ ∃ b17 f7, (a4 : Option Addr) = some ⟨b17, f7, none⟩ ∧ ∃ x7 : Int,  rdC H24 b17 (f7 + (0 : Int).toNat * 1) = some (.int .i64 x7) ∧ Br ((x7 : Int) == z2_20) ((0 : Int) ≤ 1 ∧ 1 < (r18 : Int) ∧ ∃ b18 f8, (a4 : Option Addr) = some ⟨b18, f8, none⟩ ∧ ∃ x8 : Int,  rdC H24 b18 (f8 + (1 : Int).toNat * 1) = some (.int .i64 x8) ∧ Br ((x8 : Int) == z2_21) (Br (!r26) (K (.bool true) H24) (T_laws_b10Ints a6 r24 r25 a7 r27 r28 H24 fun (r30 : Bool) (H25 : AHeap) => K (.bool r30) H25)) (K (.bool false) H24)) (K (.bool false) H24)) (K (.bool false) H24)) (K (.bool false) H24)) (K (.bool false) H24)) (K (.bool false) H24)) (K (.bool false) H24)) := by kernel_rfl
theorem E_laws_FnBreaks_ok : ∀ g, FnOk Try.prog g (E_laws_FnBreaks g) := FnOk.envOf (by
  intro x hx
  simp only [List.mem_cons, List.not_mem_nil, or_false] at hx
  rcases hx with rfl | rfl | rfl | rfl | rfl | rfl | rfl | rfl | rfl
  · exact laws_b10Long_ok
  · exact laws_b10At_ok
  · exact spec_B10Signal_ok
  · exact impl_BestBreak_ok
  · exact impl_SegmentMeans_ok
  · exact laws_b10Gap_ok
  · exact impl_BreaksOf_ok
  · exact spec_BreaksOf_ok
  · exact laws_b10Ints_ok)
set_option maxHeartbeats 1000000 in
theorem laws_FnBreaks_main (code_a : Option Addr) (code_n : Nat) (code_e : Nat) (more_a : Option Addr) (more_n : Nat) (more_e : Nat) (H : AHeap) (K : Value → AHeap → Prop) (h : T_laws_FnBreaks code_a code_n code_e more_a more_n more_e H fun (r1 : Bool) (H' : AHeap) => K (.bool r1) H') : bodyL Try.prog E_laws_FnBreaks Try.f11 [.slice code_a code_n code_e, .slice more_a more_n more_e] H K := by
  rw [laws_FnBreaks_vc]
  obtain ⟨l_code, l_more, h_0, h_1, hk⟩ := h
  have i_code := h_0
  obtain rfl := i_code.eqn
  have i_more := h_1
  obtain rfl := i_more.eqn
  have hl := laws_FnBreaks_true l_code l_more 
  have e : p_laws_FnBreaks l_code l_more = _ := rfl
  have e := e.trans (p_laws_FnBreaks_eq l_code l_more)
  have e := hl.symm.trans e
  have g0 := Grow.refl H
  have s0 := brk_n l_more; have s1 := brk_at l_more; have s2 := brk_th l_more
  refine T_laws_b10Long_i ⟨_, _, (i_code.grow g0), (i_more.grow g0), ?_⟩
  refine Br.intro (fun c_1 => ?_) (fun c_1 => ?_)
  · have e := e.trans (cond_t c_1)
    first | exact hk _ | (exfalso; cases e; done) | (rw [← e]; exact hk _)
  · have e := e.trans (cond_f c_1)
    have c_1' := laws_b10Long_f c_1
    refine T_laws_b10At_i ⟨_, (i_more.grow g0), ω0, ω11, ω11, ?_⟩
    have z_2 := laws_b10At_rng l_more (0 : Int) (14 : Int) ω3 ω3
    refine T_spec_B10Signal_i ⟨_, (i_code.grow g0), ω0, ω11, fun a_3 n_4 e_5 H_1 g_8 r_6 => ?_⟩
    have z_7 := spec_B10Signal_len l_code (IntKind.wrap .i64 (2 + ((p_laws_b10At l_more (0 : Int) (14 : Int)))))
    have l_9 := g_8.1
    have g_10 := g0.trans g_8
    have l_11 := g_10.1
    obtain rfl := r_6.isL.eqn
    have u_12 := r_6.up
    have u_13 := r_6.lo
    refine T_impl_BestBreak_i ⟨_, r_6.isL, ω0, fun  H_2 g_16  => ?_⟩
    have z_15 := impl_BestBreak_at ((p_spec_B10Signal l_code (IntKind.wrap .i64 (2 + ((p_laws_b10At l_more (0 : Int) (14 : Int)))))))
    have l_17 := g_16.1
    have g_18 := g_10.trans g_16
    have l_19 := g_18.1
    have r_20 := r_6.grow g_16
    refine Br.intro (fun c_21 => ?_) (fun c_21 => ?_)
    · have e := e.trans (cond_t c_21)
      have c_21n := nf_of_t c_21
      first | exact hk _ | (exfalso; cases e; done) | (rw [← e]; exact hk _)
    · have e := e.trans (cond_f c_21)
      have c_21n := nt_of_f c_21
      refine Br.intro (fun c_22 => ?_) (fun c_22 => ?_)
      · have e := e.trans (cond_t c_22)
        have c_22' := of_decide_eq_true c_22
        first | exact hk _ | (exfalso; cases e; done) | (rw [← e]; exact hk _)
      · have e := e.trans (cond_f c_22)
        have c_22' := of_decide_eq_false c_22
        refine Br.intro (fun c_23 => ?_) (fun c_23 => ?_)
        · have e := e.trans (cond_t c_23)
          have c_23' := of_decide_eq_true c_23
          first | exact hk _ | (exfalso; cases e; done) | (rw [← e]; exact hk _)
        · have e := e.trans (cond_f c_23)
          have c_23' := of_decide_eq_false c_23
          refine Br.intro (fun c_24 => ?_) (fun c_24 => ?_)
          · have e := e.trans (cond_t c_24)
            first | exact hk _ | (exfalso; cases e; done) | (rw [← e]; exact hk _)
          · have e := e.trans (cond_f c_24)
            refine T_impl_SegmentMeans_i ⟨_, _, r_20.isL, (by first | exact IsL.nil _ _ _ | exact IsT.nil _ _), ω0, ω0, fun a_25 n_26 e_27 H_3 g_30 r_28 => ?_⟩
            have z_29 := impl_SegmentMeans_len ((p_spec_B10Signal l_code (IntKind.wrap .i64 (2 + ((p_laws_b10At l_more (0 : Int) (14 : Int))))))) ([])
            have l_31 := g_30.1
            have g_32 := g_18.trans g_30
            have l_33 := g_32.1
            have r_34 := r_20.grow g_30
            obtain rfl := r_28.isL.eqn
            have u_35 := r_28.up
            have u_36 := r_28.lo
            refine Al.intro (fun b_38 H_4 hb_39 hl_40 g_41 o_42 => ?_)
            have o_42 : Own H_4 b_38 (([((p_impl_BestBreak ((p_spec_B10Signal l_code (IntKind.wrap .i64 (2 + ((p_laws_b10At l_more (0 : Int) (14 : Int)))))))).1 : Int)]).map fI) := o_42
            have l_44 := g_41.1
            have g_45 := g_32.trans g_41
            have l_46 := g_45.1
            have r_47 := r_34.grow g_41
            have r_48 := r_28.grow g_41
            have w_379 := o_42.lt
            refine T_impl_SegmentMeans_i ⟨_, _, r_47.isL, (o_42.isL ω4), ω0, ω0, fun a_49 n_50 e_51 H_5 g_54 r_52 => ?_⟩
            have z_53 := impl_SegmentMeans_len ((p_spec_B10Signal l_code (IntKind.wrap .i64 (2 + ((p_laws_b10At l_more (0 : Int) (14 : Int))))))) ([((p_impl_BestBreak ((p_spec_B10Signal l_code (IntKind.wrap .i64 (2 + ((p_laws_b10At l_more (0 : Int) (14 : Int)))))))).1 : Int)])
            have l_55 := g_54.1
            have g_56 := g_45.trans g_54
            have l_57 := g_56.1
            have o_58 := o_42.grow g_54
            have w_59 := o_58.lt
            have r_60 := r_47.grow g_54
            have r_61 := r_48.grow g_54
            obtain rfl := r_52.isL.eqn
            have u_62 := r_52.up
            have u_63 := r_52.lo
            refine Br.intro (fun c_65 => ?_) (fun c_65 => ?_)
            · have e := e.trans (cond_t c_65)
              have c_65n := nf_of_t c_65
              first | exact hk _ | (exfalso; cases e; done) | (rw [← e]; exact hk _)
            · have e := e.trans (cond_f c_65)
              have c_65n := nt_of_f c_65
              refine Br.intro (fun c_66 => ?_) (fun c_66 => ?_)
              · have e := e.trans (cond_t c_66)
                have c_66n := nf_of_t c_66
                first | exact hk _ | (exfalso; cases e; done) | (rw [← e]; exact hk _)
              · have e := e.trans (cond_f c_66)
                have c_66n := nt_of_f c_66
                refine Br.intro (fun c_67 => ?_) (fun c_67 => ?_)
                · have e := e.trans (cond_t c_67)
                  have c_67' := ine_t c_67
                  first | exact hk _ | (exfalso; cases e; done) | (rw [← e]; exact hk _)
                · have e := e.trans (cond_f c_67)
                  have c_67' := ine_f c_67
                  refine Br.intro (fun c_68 => ?_) (fun c_68 => ?_)
                  · have e := e.trans (cond_t c_68)
                    have c_68' := ine_t c_68
                    first | exact hk _ | (exfalso; cases e; done) | (rw [← e]; exact hk _)
                  · have e := e.trans (cond_f c_68)
                    have c_68' := ine_f c_68
                    refine laws_FnBreaks_L1 _ _ _ _ _ _ _ _ _ _ _ _ _ (fun (μ : Nat) (before : Nat) (behind : Nat) (sum : Nat) (means : Nat) (t97 : Int) (H_6 : AHeap) => Own H_6 b_38 (([((p_impl_BestBreak ((p_spec_B10Signal l_code (IntKind.wrap .i64 (2 + ((p_laws_b10At l_more (0 : Int) (14 : Int)))))))).1 : Int)]).map fI) ∧ OwnS fF H_6 H.length a_3 (((p_spec_B10Signal l_code (IntKind.wrap .i64 (2 + ((p_laws_b10At l_more (0 : Int) (14 : Int))))))).length) e_5 ((p_spec_B10Signal l_code (IntKind.wrap .i64 (2 + ((p_laws_b10At l_more (0 : Int) (14 : Int))))))) ∧ OwnS fF H_6 H_2.length a_25 (((p_impl_SegmentMeans ((p_spec_B10Signal l_code (IntKind.wrap .i64 (2 + ((p_laws_b10At l_more (0 : Int) (14 : Int))))))) ([])).1).length) e_27 ((p_impl_SegmentMeans ((p_spec_B10Signal l_code (IntKind.wrap .i64 (2 + ((p_laws_b10At l_more (0 : Int) (14 : Int))))))) ([])).1) ∧ OwnS fF H_6 H_4.length a_49 (((p_impl_SegmentMeans ((p_spec_B10Signal l_code (IntKind.wrap .i64 (2 + ((p_laws_b10At l_more (0 : Int) (14 : Int))))))) ([((p_impl_BestBreak ((p_spec_B10Signal l_code (IntKind.wrap .i64 (2 + ((p_laws_b10At l_more (0 : Int) (14 : Int)))))))).1 : Int)])).1).length) e_51 ((p_impl_SegmentMeans ((p_spec_B10Signal l_code (IntKind.wrap .i64 (2 + ((p_laws_b10At l_more (0 : Int) (14 : Int))))))) ([((p_impl_BestBreak ((p_spec_B10Signal l_code (IntKind.wrap .i64 (2 + ((p_laws_b10At l_more (0 : Int) (14 : Int)))))))).1 : Int)])).1) ∧ H_1.length ≤ H_6.length ∧ H_3.length ≤ H_6.length ∧ H_5.length ≤ H_6.length ∧ Grow H H_6 ∧ (0 : Int) ≤ t97 ∧ t97 ≤ (((p_spec_B10Signal l_code (IntKind.wrap .i64 (2 + ((p_laws_b10At l_more (0 : Int) (14 : Int))))))).length : Int) ∧ (((p_spec_B10Signal l_code (IntKind.wrap .i64 (2 + ((p_laws_b10At l_more (0 : Int) (14 : Int))))))).length : Int) - t97 ≤ (μ : Int) ∧ true = p_laws_FnBreaks_l1 l_code l_more (μ + 1) before behind sum means t97) (Int.toNat ((((p_spec_B10Signal l_code (IntKind.wrap .i64 (2 + ((p_laws_b10At l_more (0 : Int) (14 : Int))))))).length : Int) - (0 : Int))) _ _ _ _ _ H_5 ?_ ?_
                    · exact ⟨o_58, r_60, r_61, r_52, ω3, ω3, ω3, g_56, ω7, ω7, ω3, e⟩
                    · intro μ before behind sum means t97  H_6 hI
                      obtain ⟨o_69, r_70, r_71, r_72, n_73, n_74, n_75, g_76, v_77, v_78, hμ, e⟩ := hI
                      rw [laws_FnBreaks_r1]
                      have e := e.trans (p_laws_FnBreaks_l1_s l_code l_more μ before behind sum means t97)
                      have w_79 := o_69.lt
                      have l_80 := g_76.1
                      refine Br.intro (fun c_81 => ?_) (fun c_81 => ?_)
                      · have e := e.trans (cond_t c_81)
                        have c_81' := of_decide_eq_true c_81
                        obtain ⟨b_82, f_83, q_84⟩ := (r_70.isL).pos ω0
                        refine ⟨by omega, by omega, b_82, f_83, q_84, ?_⟩
                        refine ⟨(((p_spec_B10Signal l_code (IntKind.wrap .i64 (2 + ((p_laws_b10At l_more (0 : Int) (14 : Int))))))).getD (t97 : Int).toNat 0), (r_70.isL).rd (Grow.refl _) q_84 ω3 _, ?_⟩
                        obtain ⟨b_85, f_86, q_87⟩ := (r_71.isL).pos ω0
                        refine ⟨by omega, by omega, b_85, f_86, q_87, ?_⟩
                        refine ⟨(((p_impl_SegmentMeans ((p_spec_B10Signal l_code (IntKind.wrap .i64 (2 + ((p_laws_b10At l_more (0 : Int) (14 : Int))))))) ([])).1).getD (t97 : Int).toNat 0), (r_71.isL).rd (Grow.refl _) q_87 ω3 _, ?_⟩
                        obtain ⟨b_88, f_89, q_90⟩ := (r_70.isL).pos ω0
                        refine ⟨by omega, by omega, b_88, f_89, q_90, ?_⟩
                        refine ⟨(((p_spec_B10Signal l_code (IntKind.wrap .i64 (2 + ((p_laws_b10At l_more (0 : Int) (14 : Int))))))).getD (t97 : Int).toNat 0), (r_70.isL).rd (Grow.refl _) q_90 ω3 _, ?_⟩
                        obtain ⟨b_91, f_92, q_93⟩ := (r_72.isL).pos ω0
                        refine ⟨by omega, by omega, b_91, f_92, q_93, ?_⟩
                        refine ⟨(((p_impl_SegmentMeans ((p_spec_B10Signal l_code (IntKind.wrap .i64 (2 + ((p_laws_b10At l_more (0 : Int) (14 : Int))))))) ([((p_impl_BestBreak ((p_spec_B10Signal l_code (IntKind.wrap .i64 (2 + ((p_laws_b10At l_more (0 : Int) (14 : Int)))))))).1 : Int)])).1).getD (t97 : Int).toNat 0), (r_72.isL).rd (Grow.refl _) q_93 ω3 _, ?_⟩
                        obtain ⟨b_94, f_95, q_96⟩ := (r_70.isL).pos ω0
                        refine ⟨by omega, by omega, b_94, f_95, q_96, ?_⟩
                        refine ⟨(((p_spec_B10Signal l_code (IntKind.wrap .i64 (2 + ((p_laws_b10At l_more (0 : Int) (14 : Int))))))).getD (t97 : Int).toNat 0), (r_70.isL).rd (Grow.refl _) q_96 ω3 _, ?_⟩
                        obtain ⟨b_97, f_98, q_99⟩ := (r_72.isL).pos ω0
                        refine ⟨by omega, by omega, b_97, f_98, q_99, ?_⟩
                        refine ⟨(((p_impl_SegmentMeans ((p_spec_B10Signal l_code (IntKind.wrap .i64 (2 + ((p_laws_b10At l_more (0 : Int) (14 : Int))))))) ([((p_impl_BestBreak ((p_spec_B10Signal l_code (IntKind.wrap .i64 (2 + ((p_laws_b10At l_more (0 : Int) (14 : Int)))))))).1 : Int)])).1).getD (t97 : Int).toNat 0), (r_72.isL).rd (Grow.refl _) q_99 ω3 _, ?_⟩
                        rw [show IntKind.wrap .i64 (t97 + 1) = (t97 + 1) from wrap64 ω3 ω3]
                        refine laws_FnBreaks_n1 (μ - 1) ω9 ⟨o_69, r_70, r_71, r_72, ω3, ω3, ω3, g_76, ω1, ω1, ω9, (by rw [show μ - 1 + 1 = μ from by first | omega]; exact e)⟩
                      · have e := e.trans (cond_f c_81)
                        have c_81' := of_decide_eq_false c_81
                        rw [laws_FnBreaks_x1_0]
                        refine T_laws_b10Gap_i ?_
                        refine Br.intro (fun c_100 => ?_) (fun c_100 => ?_)
                        · have e := e.trans (cond_t c_100)
                          first | exact hk _ | (exfalso; cases e; done) | (rw [← e]; exact hk _)
                        · have e := e.trans (cond_f c_100)
                          refine T_laws_b10Gap_i ?_
                          refine Br.intro (fun c_101 => ?_) (fun c_101 => ?_)
                          · have e := e.trans (cond_t c_101)
                            first | exact hk _ | (exfalso; cases e; done) | (rw [← e]; exact hk _)
                          · have e := e.trans (cond_f c_101)
                            refine T_laws_b10At_i ⟨_, (i_more.grow g_76), ω0, ω11, ω11, ?_⟩
                            have z_102 := laws_b10At_rng l_more (1 : Int) (5 : Int) ω3 ω3
                            refine T_laws_b10At_i ⟨_, (i_more.grow g_76), ω0, ω11, ω11, ?_⟩
                            have z_103 := laws_b10At_rng l_more (2 : Int) (5 : Int) ω3 ω3
                            refine Al.intro (fun b_104 H_7 hb_105 hl_106 g_107 o_108 => ?_)
                            have o_108 : Own H_7 b_104 ((([] : List Nat)).map fF) := o_108
                            have l_110 := g_107.1
                            have g_111 := g_76.trans g_107
                            have l_112 := g_111.1
                            have o_113 := o_69.grow g_107
                            have w_114 := o_113.lt
                            have r_115 := r_70.grow g_107
                            have r_116 := r_71.grow g_107
                            have r_117 := r_72.grow g_107
                            have w_378 := o_108.lt
                            refine laws_FnBreaks_L2 _ _ _ _ _ (fun (μ2 : Nat) (steps_a : Option Addr) (steps_n : Nat) (steps_e : Nat) (i : Int) (H_8 : AHeap) => ∃ (l_steps : List Nat), ∃ (b_118 : Nat), steps_a = some ⟨b_118, 0, none⟩ ∧ steps_n = l_steps.length ∧ steps_e = 1 ∧ Own H_8 b_118 (l_steps.map fF) ∧ Own H_8 b_38 (([((p_impl_BestBreak ((p_spec_B10Signal l_code (IntKind.wrap .i64 (2 + ((p_laws_b10At l_more (0 : Int) (14 : Int)))))))).1 : Int)]).map fI) ∧ OwnS fF H_8 H.length a_3 (((p_spec_B10Signal l_code (IntKind.wrap .i64 (2 + ((p_laws_b10At l_more (0 : Int) (14 : Int))))))).length) e_5 ((p_spec_B10Signal l_code (IntKind.wrap .i64 (2 + ((p_laws_b10At l_more (0 : Int) (14 : Int))))))) ∧ OwnS fF H_8 H_2.length a_25 (((p_impl_SegmentMeans ((p_spec_B10Signal l_code (IntKind.wrap .i64 (2 + ((p_laws_b10At l_more (0 : Int) (14 : Int))))))) ([])).1).length) e_27 ((p_impl_SegmentMeans ((p_spec_B10Signal l_code (IntKind.wrap .i64 (2 + ((p_laws_b10At l_more (0 : Int) (14 : Int))))))) ([])).1) ∧ OwnS fF H_8 H_4.length a_49 (((p_impl_SegmentMeans ((p_spec_B10Signal l_code (IntKind.wrap .i64 (2 + ((p_laws_b10At l_more (0 : Int) (14 : Int))))))) ([((p_impl_BestBreak ((p_spec_B10Signal l_code (IntKind.wrap .i64 (2 + ((p_laws_b10At l_more (0 : Int) (14 : Int)))))))).1 : Int)])).1).length) e_51 ((p_impl_SegmentMeans ((p_spec_B10Signal l_code (IntKind.wrap .i64 (2 + ((p_laws_b10At l_more (0 : Int) (14 : Int))))))) ([((p_impl_BestBreak ((p_spec_B10Signal l_code (IntKind.wrap .i64 (2 + ((p_laws_b10At l_more (0 : Int) (14 : Int)))))))).1 : Int)])).1) ∧ (b_118 ≠ b_38) ∧ H_1.length ≤ H_8.length ∧ (b_118 < H.length ∨ H_1.length ≤ b_118) ∧ H_3.length ≤ H_8.length ∧ (b_118 < H_2.length ∨ H_3.length ≤ b_118) ∧ H_5.length ≤ H_8.length ∧ (b_118 < H_4.length ∨ H_5.length ≤ b_118) ∧ Grow H H_8 ∧ H.length ≤ b_118 ∧ (0 : Int) ≤ i ∧ ((i ≤ IntKind.wrap .i64 ((IntKind.wrap .i64 ((IntKind.wrap .i64 ((IntKind.wrap .i64 (2 + ((p_laws_b10At l_more (1 : Int) (5 : Int))))) + 2)) + ((p_laws_b10At l_more (2 : Int) (5 : Int))))) + 3) ∨ i ≤ (0 : Int))) ∧ (l_steps.length : Int) ≤ i - (0 : Int) + 0 ∧ 0 ≤ i ∧ (l_steps.length : Int) = i ∧ i ≤ IntKind.wrap .i64 (IntKind.wrap .i64 (IntKind.wrap .i64 (IntKind.wrap .i64 (2 + p_laws_b10At l_more (1 : Int) (5 : Int)) + 2) + p_laws_b10At l_more (2 : Int) (5 : Int)) + 3) ∧ IntKind.wrap .i64 ((IntKind.wrap .i64 ((IntKind.wrap .i64 ((IntKind.wrap .i64 (2 + ((p_laws_b10At l_more (1 : Int) (5 : Int))))) + 2)) + ((p_laws_b10At l_more (2 : Int) (5 : Int))))) + 3) - i ≤ (μ2 : Int) ∧ true = p_laws_FnBreaks_l2 l_code l_more before behind sum means t97 (fun (l_steps : List Nat) (i : Int) => (bif (p_impl_BreaksOf l_steps 1056964608 (8 : Int)).2 then (bif (p_impl_BreaksOf l_steps 1056964608 (0 : Int)).2 then (bif ((p_impl_BreaksOf ((p_spec_B10Signal l_code (IntKind.wrap .i64 (2 + ((p_laws_b10At l_more (0 : Int) (14 : Int))))))) 1065353216 (5 : Int)).2) == ((p_spec_BreaksOf ((p_spec_B10Signal l_code (IntKind.wrap .i64 (2 + ((p_laws_b10At l_more (0 : Int) (14 : Int))))))) 1065353216 (5 : Int)).2) then (bif ((((p_impl_BreaksOf l_steps 1056964608 (0 : Int)).1).length : Int) : Int) == 0 then (bif ((((p_impl_BreaksOf l_steps 1056964608 (8 : Int)).1).length : Int) : Int) == 2 then (bif ((((p_impl_BreaksOf l_steps 1056964608 (8 : Int)).1).getD (0 : Int).toNat 0) : Int) == IntKind.wrap .i64 (2 + ((p_laws_b10At l_more (1 : Int) (5 : Int)))) then (bif ((((p_impl_BreaksOf l_steps 1056964608 (8 : Int)).1).getD (1 : Int).toNat 0) : Int) == IntKind.wrap .i64 ((IntKind.wrap .i64 ((IntKind.wrap .i64 (2 + ((p_laws_b10At l_more (1 : Int) (5 : Int))))) + 2)) + ((p_laws_b10At l_more (2 : Int) (5 : Int)))) then (bif !((p_impl_BreaksOf ((p_spec_B10Signal l_code (IntKind.wrap .i64 (2 + ((p_laws_b10At l_more (0 : Int) (14 : Int))))))) 1065353216 (5 : Int)).2) then true else (p_laws_b10Ints ((p_impl_BreaksOf ((p_spec_B10Signal l_code (IntKind.wrap .i64 (2 + ((p_laws_b10At l_more (0 : Int) (14 : Int))))))) 1065353216 (5 : Int)).1) ((p_spec_BreaksOf ((p_spec_B10Signal l_code (IntKind.wrap .i64 (2 + ((p_laws_b10At l_more (0 : Int) (14 : Int))))))) 1065353216 (5 : Int)).1))) else false) else false) else false) else false) else false) else false) else false)) (μ2 + 1) l_steps i) (Int.toNat (IntKind.wrap .i64 ((IntKind.wrap .i64 ((IntKind.wrap .i64 ((IntKind.wrap .i64 (2 + ((p_laws_b10At l_more (1 : Int) (5 : Int))))) + 2)) + ((p_laws_b10At l_more (2 : Int) (5 : Int))))) + 3) - (0 : Int))) _ _ _ _ H_7 ?_ ?_
                            · exact ⟨_, _, rfl, ω4, rfl, o_108, o_113, r_115, r_116, r_117, ω3, ω3, ω3, ω3, ω3, ω3, ω3, g_111, ω3, ω7, ω7, ω7, ω7, ω7, ω7, ω3, e⟩
                            · intro μ2 steps_a steps_n steps_e i  H_8 hI
                              obtain ⟨l_steps, b_118, rfl, rfl, rfl, o_119, o_120, r_121, r_122, r_123, n_124, n_125, n_126, n_127, n_128, n_129, n_130, g_131, l_132, v_133, v_134, v_135, v_136, v_137, v_138, hμ, e⟩ := hI
                              rw [laws_FnBreaks_r2]
                              have e := e.trans (p_laws_FnBreaks_l2_s l_code l_more before behind sum means t97 (fun (l_steps : List Nat) (i : Int) => (bif (p_impl_BreaksOf l_steps 1056964608 (8 : Int)).2 then (bif (p_impl_BreaksOf l_steps 1056964608 (0 : Int)).2 then (bif ((p_impl_BreaksOf ((p_spec_B10Signal l_code (IntKind.wrap .i64 (2 + ((p_laws_b10At l_more (0 : Int) (14 : Int))))))) 1065353216 (5 : Int)).2) == ((p_spec_BreaksOf ((p_spec_B10Signal l_code (IntKind.wrap .i64 (2 + ((p_laws_b10At l_more (0 : Int) (14 : Int))))))) 1065353216 (5 : Int)).2) then (bif ((((p_impl_BreaksOf l_steps 1056964608 (0 : Int)).1).length : Int) : Int) == 0 then (bif ((((p_impl_BreaksOf l_steps 1056964608 (8 : Int)).1).length : Int) : Int) == 2 then (bif ((((p_impl_BreaksOf l_steps 1056964608 (8 : Int)).1).getD (0 : Int).toNat 0) : Int) == IntKind.wrap .i64 (2 + ((p_laws_b10At l_more (1 : Int) (5 : Int)))) then (bif ((((p_impl_BreaksOf l_steps 1056964608 (8 : Int)).1).getD (1 : Int).toNat 0) : Int) == IntKind.wrap .i64 ((IntKind.wrap .i64 ((IntKind.wrap .i64 (2 + ((p_laws_b10At l_more (1 : Int) (5 : Int))))) + 2)) + ((p_laws_b10At l_more (2 : Int) (5 : Int)))) then (bif !((p_impl_BreaksOf ((p_spec_B10Signal l_code (IntKind.wrap .i64 (2 + ((p_laws_b10At l_more (0 : Int) (14 : Int))))))) 1065353216 (5 : Int)).2) then true else (p_laws_b10Ints ((p_impl_BreaksOf ((p_spec_B10Signal l_code (IntKind.wrap .i64 (2 + ((p_laws_b10At l_more (0 : Int) (14 : Int))))))) 1065353216 (5 : Int)).1) ((p_spec_BreaksOf ((p_spec_B10Signal l_code (IntKind.wrap .i64 (2 + ((p_laws_b10At l_more (0 : Int) (14 : Int))))))) 1065353216 (5 : Int)).1))) else false) else false) else false) else false) else false) else false) else false)) μ2 l_steps i)
                              have w_139 := o_120.lt
                              have w_140 := o_119.lt
                              have l_141 := g_131.1
                              refine Br.intro (fun c_142 => ?_) (fun c_142 => ?_)
                              · have e := e.trans (cond_t c_142)
                                have c_142' := of_decide_eq_true c_142
                                refine Br.intro (fun c_143 => ?_) (fun c_143 => ?_)
                                · have e := e.trans (cond_t c_143)
                                  have c_143' := of_decide_eq_true c_143
                                  refine Br.intro (fun c_144 => ?_) (fun c_144 => ?_)
                                  · have e := e.trans (cond_t c_144)
                                    have c_144' := of_decide_eq_true c_144
                                    refine Al.intro (fun b_145 H_9 hb_146 hl_147 g_148 o_149 => ?_)
                                    have o_149 : Own H_9 b_145 (([1101004800]).map fF) := o_149
                                    have l_151 := g_148.1
                                    have g_152 := g_131.trans g_148
                                    have l_153 := g_152.1
                                    have o_154 := o_120.grow g_148
                                    have w_155 := o_154.lt
                                    have o_156 := o_119.grow g_148
                                    have w_157 := o_156.lt
                                    have r_158 := r_121.grow g_148
                                    have r_159 := r_122.grow g_148
                                    have r_160 := r_123.grow g_148
                                    have w_178 := o_149.lt
                                    refine ⟨_, _, o_156.ownB ω2 rfl, (isl_rdS (o_149.isL ω4)), (fun h => by cases h), ω13, ?_⟩
                                    refine Ap.app o_156 rfl rfl (fun b_165 H_10 q_176 hl_161 o_162 k_163 => ?_)
                                    have o_162 := map_snoc o_162
                                    have l_166 := k_163.1
                                    have g_167 := g_152.keep (b := b_118) ω3 k_163
                                    have l_168 := g_167.1
                                    have o_169 := o_154.keep ω3 k_163
                                    have w_170 := o_169.lt
                                    have o_171 := o_149.keep ω3 k_163
                                    have w_172 := o_171.lt
                                    have r_173 := r_158.keep u_12 ω3 k_163
                                    have r_174 := r_159.keep u_35 ω3 k_163
                                    have r_175 := r_160.keep u_62 ω3 k_163
                                    have w_177 := o_162.lt
                                    rw [show IntKind.wrap .i64 (i + 1) = (i + 1) from wrap64 ω3 ω3]
                                    refine laws_FnBreaks_n2 (μ2 - 1) ω9 ⟨_, _, rfl, ω5, rfl, o_162, o_169, r_173, r_174, r_175, ω3, ω3, ω3, ω3, ω3, ω3, ω3, g_167, ω3, ω1, ω1, ω1, ω1, ω1, ω1, ω9, (by rw [show μ2 - 1 + 1 = μ2 from by first | omega]; exact e)⟩
                                  · have e := e.trans (cond_f c_144)
                                    have c_144' := of_decide_eq_false c_144
                                    refine Al.intro (fun b_179 H_11 hb_180 hl_181 g_182 o_183 => ?_)
                                    have o_183 : Own H_11 b_179 (([1091567616]).map fF) := o_183
                                    have l_185 := g_182.1
                                    have g_186 := g_131.trans g_182
                                    have l_187 := g_186.1
                                    have o_188 := o_120.grow g_182
                                    have w_189 := o_188.lt
                                    have o_190 := o_119.grow g_182
                                    have w_191 := o_190.lt
                                    have r_192 := r_121.grow g_182
                                    have r_193 := r_122.grow g_182
                                    have r_194 := r_123.grow g_182
                                    have w_212 := o_183.lt
                                    refine ⟨_, _, o_190.ownB ω2 rfl, (isl_rdS (o_183.isL ω4)), (fun h => by cases h), ω13, ?_⟩
                                    refine Ap.app o_190 rfl rfl (fun b_199 H_12 q_210 hl_195 o_196 k_197 => ?_)
                                    have o_196 := map_snoc o_196
                                    have l_200 := k_197.1
                                    have g_201 := g_186.keep (b := b_118) ω3 k_197
                                    have l_202 := g_201.1
                                    have o_203 := o_188.keep ω3 k_197
                                    have w_204 := o_203.lt
                                    have o_205 := o_183.keep ω3 k_197
                                    have w_206 := o_205.lt
                                    have r_207 := r_192.keep u_12 ω3 k_197
                                    have r_208 := r_193.keep u_35 ω3 k_197
                                    have r_209 := r_194.keep u_62 ω3 k_197
                                    have w_211 := o_196.lt
                                    rw [show IntKind.wrap .i64 (i + 1) = (i + 1) from wrap64 ω3 ω3]
                                    refine laws_FnBreaks_n2 (μ2 - 1) ω9 ⟨_, _, rfl, ω5, rfl, o_196, o_203, r_207, r_208, r_209, ω3, ω3, ω3, ω3, ω3, ω3, ω3, g_201, ω3, ω1, ω1, ω1, ω1, ω1, ω1, ω9, (by rw [show μ2 - 1 + 1 = μ2 from by first | omega]; exact e)⟩
                                · have e := e.trans (cond_f c_143)
                                  have c_143' := of_decide_eq_false c_143
                                  refine Br.intro (fun c_213 => ?_) (fun c_213 => ?_)
                                  · have e := e.trans (cond_t c_213)
                                    have c_213' := of_decide_eq_true c_213
                                    refine Al.intro (fun b_214 H_13 hb_215 hl_216 g_217 o_218 => ?_)
                                    have o_218 : Own H_13 b_214 (([1101004800]).map fF) := o_218
                                    have l_220 := g_217.1
                                    have g_221 := g_131.trans g_217
                                    have l_222 := g_221.1
                                    have o_223 := o_120.grow g_217
                                    have w_224 := o_223.lt
                                    have o_225 := o_119.grow g_217
                                    have w_226 := o_225.lt
                                    have r_227 := r_121.grow g_217
                                    have r_228 := r_122.grow g_217
                                    have r_229 := r_123.grow g_217
                                    have w_247 := o_218.lt
                                    refine ⟨_, _, o_225.ownB ω2 rfl, (isl_rdS (o_218.isL ω4)), (fun h => by cases h), ω13, ?_⟩
                                    refine Ap.app o_225 rfl rfl (fun b_234 H_14 q_245 hl_230 o_231 k_232 => ?_)
                                    have o_231 := map_snoc o_231
                                    have l_235 := k_232.1
                                    have g_236 := g_221.keep (b := b_118) ω3 k_232
                                    have l_237 := g_236.1
                                    have o_238 := o_223.keep ω3 k_232
                                    have w_239 := o_238.lt
                                    have o_240 := o_218.keep ω3 k_232
                                    have w_241 := o_240.lt
                                    have r_242 := r_227.keep u_12 ω3 k_232
                                    have r_243 := r_228.keep u_35 ω3 k_232
                                    have r_244 := r_229.keep u_62 ω3 k_232
                                    have w_246 := o_231.lt
                                    rw [show IntKind.wrap .i64 (i + 1) = (i + 1) from wrap64 ω3 ω3]
                                    refine laws_FnBreaks_n2 (μ2 - 1) ω9 ⟨_, _, rfl, ω5, rfl, o_231, o_238, r_242, r_243, r_244, ω3, ω3, ω3, ω3, ω3, ω3, ω3, g_236, ω3, ω1, ω1, ω1, ω1, ω1, ω1, ω9, (by rw [show μ2 - 1 + 1 = μ2 from by first | omega]; exact e)⟩
                                  · have e := e.trans (cond_f c_213)
                                    have c_213' := of_decide_eq_false c_213
                                    refine Al.intro (fun b_248 H_15 hb_249 hl_250 g_251 o_252 => ?_)
                                    have o_252 : Own H_15 b_248 (([1065353216]).map fF) := o_252
                                    have l_254 := g_251.1
                                    have g_255 := g_131.trans g_251
                                    have l_256 := g_255.1
                                    have o_257 := o_120.grow g_251
                                    have w_258 := o_257.lt
                                    have o_259 := o_119.grow g_251
                                    have w_260 := o_259.lt
                                    have r_261 := r_121.grow g_251
                                    have r_262 := r_122.grow g_251
                                    have r_263 := r_123.grow g_251
                                    have w_281 := o_252.lt
                                    refine ⟨_, _, o_259.ownB ω2 rfl, (isl_rdS (o_252.isL ω4)), (fun h => by cases h), ω13, ?_⟩
                                    refine Ap.app o_259 rfl rfl (fun b_268 H_16 q_279 hl_264 o_265 k_266 => ?_)
                                    have o_265 := map_snoc o_265
                                    have l_269 := k_266.1
                                    have g_270 := g_255.keep (b := b_118) ω3 k_266
                                    have l_271 := g_270.1
                                    have o_272 := o_257.keep ω3 k_266
                                    have w_273 := o_272.lt
                                    have o_274 := o_252.keep ω3 k_266
                                    have w_275 := o_274.lt
                                    have r_276 := r_261.keep u_12 ω3 k_266
                                    have r_277 := r_262.keep u_35 ω3 k_266
                                    have r_278 := r_263.keep u_62 ω3 k_266
                                    have w_280 := o_265.lt
                                    rw [show IntKind.wrap .i64 (i + 1) = (i + 1) from wrap64 ω3 ω3]
                                    refine laws_FnBreaks_n2 (μ2 - 1) ω9 ⟨_, _, rfl, ω5, rfl, o_265, o_272, r_276, r_277, r_278, ω3, ω3, ω3, ω3, ω3, ω3, ω3, g_270, ω3, ω1, ω1, ω1, ω1, ω1, ω1, ω9, (by rw [show μ2 - 1 + 1 = μ2 from by first | omega]; exact e)⟩
                              · have e := e.trans (cond_f c_142)
                                have c_142' := of_decide_eq_false c_142
                                rw [laws_FnBreaks_x2_2]
                                refine T_impl_BreaksOf_i ⟨_, (o_119.isL ω4), ω0, fun a_282 n_283 e_284 H_17 g_287 r_285 => ?_⟩
                                have z_286 := impl_BreaksOf_len l_steps 1056964608 (8 : Int)
                                have l_288 := g_287.1
                                have g_289 := g_131.trans g_287
                                have l_290 := g_289.1
                                have o_291 := o_120.grow g_287
                                have w_292 := o_291.lt
                                have o_293 := o_119.grow g_287
                                have w_294 := o_293.lt
                                have r_295 := r_121.grow g_287
                                have r_296 := r_122.grow g_287
                                have r_297 := r_123.grow g_287
                                obtain rfl := r_285.isL.eqn
                                have u_298 := r_285.up
                                have u_299 := r_285.lo
                                refine T_impl_BreaksOf_i ⟨_, (o_293.isL ω4), ω0, fun a_301 n_302 e_303 H_18 g_306 r_304 => ?_⟩
                                have z_305 := impl_BreaksOf_len l_steps 1056964608 (0 : Int)
                                have l_307 := g_306.1
                                have g_308 := g_289.trans g_306
                                have l_309 := g_308.1
                                have o_310 := o_291.grow g_306
                                have w_311 := o_310.lt
                                have o_312 := o_293.grow g_306
                                have w_313 := o_312.lt
                                have r_314 := r_295.grow g_306
                                have r_315 := r_296.grow g_306
                                have r_316 := r_297.grow g_306
                                have r_317 := r_285.grow g_306
                                obtain rfl := r_304.isL.eqn
                                have u_318 := r_304.up
                                have u_319 := r_304.lo
                                refine T_impl_BreaksOf_i ⟨_, r_314.isL, ω0, fun a_321 n_322 e_323 H_19 g_326 r_324 => ?_⟩
                                have z_325 := impl_BreaksOf_len ((p_spec_B10Signal l_code (IntKind.wrap .i64 (2 + ((p_laws_b10At l_more (0 : Int) (14 : Int))))))) 1065353216 (5 : Int)
                                have l_327 := g_326.1
                                have g_328 := g_308.trans g_326
                                have l_329 := g_328.1
                                have o_330 := o_310.grow g_326
                                have w_331 := o_330.lt
                                have o_332 := o_312.grow g_326
                                have w_333 := o_332.lt
                                have r_334 := r_314.grow g_326
                                have r_335 := r_315.grow g_326
                                have r_336 := r_316.grow g_326
                                have r_337 := r_317.grow g_326
                                have r_338 := r_304.grow g_326
                                obtain rfl := r_324.isL.eqn
                                have u_339 := r_324.up
                                have u_340 := r_324.lo
                                refine T_spec_BreaksOf_i ⟨_, r_334.isL, ω0, fun a_342 n_343 e_344 H_20 g_347 r_345 => ?_⟩
                                have z_346 := spec_BreaksOf_len ((p_spec_B10Signal l_code (IntKind.wrap .i64 (2 + ((p_laws_b10At l_more (0 : Int) (14 : Int))))))) 1065353216 (5 : Int)
                                have l_348 := g_347.1
                                have g_349 := g_328.trans g_347
                                have l_350 := g_349.1
                                have o_351 := o_330.grow g_347
                                have w_352 := o_351.lt
                                have o_353 := o_332.grow g_347
                                have w_354 := o_353.lt
                                have r_355 := r_334.grow g_347
                                have r_356 := r_335.grow g_347
                                have r_357 := r_336.grow g_347
                                have r_358 := r_337.grow g_347
                                have r_359 := r_338.grow g_347
                                have r_360 := r_324.grow g_347
                                obtain rfl := r_345.isL.eqn
                                have u_361 := r_345.up
                                have u_362 := r_345.lo
                                refine Br.intro (fun c_364 => ?_) (fun c_364 => ?_)
                                · have e := e.trans (cond_t c_364)
                                  refine Br.intro (fun c_365 => ?_) (fun c_365 => ?_)
                                  · have e := e.trans (cond_t c_365)
                                    refine Br.intro (fun c_366 => ?_) (fun c_366 => ?_)
                                    · have e := e.trans (cond_t c_366)
                                      refine Br.intro (fun c_367 => ?_) (fun c_367 => ?_)
                                      · have e := e.trans (cond_t c_367)
                                        have c_367' := ieq_t c_367
                                        refine Br.intro (fun c_368 => ?_) (fun c_368 => ?_)
                                        · have e := e.trans (cond_t c_368)
                                          have c_368' := ieq_t c_368
                                          obtain ⟨b_369, f_370, q_371⟩ := (r_358.isL).pos ω0
                                          refine ⟨by omega, by omega, b_369, f_370, q_371, ?_⟩
                                          refine ⟨(((p_impl_BreaksOf l_steps 1056964608 (8 : Int)).1).getD (0 : Int).toNat 0), (r_358.isL).rd (Grow.refl _) q_371 ω3 _, ?_⟩
                                          refine Br.intro (fun c_372 => ?_) (fun c_372 => ?_)
                                          · have e := e.trans (cond_t c_372)
                                            have c_372' := ieq_t c_372
                                            obtain ⟨b_373, f_374, q_375⟩ := (r_358.isL).pos ω0
                                            refine ⟨by omega, by omega, b_373, f_374, q_375, ?_⟩
                                            refine ⟨(((p_impl_BreaksOf l_steps 1056964608 (8 : Int)).1).getD (1 : Int).toNat 0), (r_358.isL).rd (Grow.refl _) q_375 ω3 _, ?_⟩
                                            refine Br.intro (fun c_376 => ?_) (fun c_376 => ?_)
                                            · have e := e.trans (cond_t c_376)
                                              have c_376' := ieq_t c_376
                                              refine Br.intro (fun c_377 => ?_) (fun c_377 => ?_)
                                              · have e := e.trans (cond_t c_377)
                                                have c_377n := nf_of_t c_377
                                                first | exact hk _ | (exfalso; cases e; done) | (rw [← e]; exact hk _)
                                              · have e := e.trans (cond_f c_377)
                                                have c_377n := nt_of_f c_377
                                                refine T_laws_b10Ints_i ⟨_, _, r_360.isL, r_345.isL, ω0, ω0, ?_⟩
                                                first | exact hk _ | (exfalso; cases e; done) | (rw [← e]; exact hk _)
                                            · have e := e.trans (cond_f c_376)
                                              have c_376' := ieq_f c_376
                                              first | exact hk _ | (exfalso; cases e; done) | (rw [← e]; exact hk _)
                                          · have e := e.trans (cond_f c_372)
                                            have c_372' := ieq_f c_372
                                            first | exact hk _ | (exfalso; cases e; done) | (rw [← e]; exact hk _)
                                        · have e := e.trans (cond_f c_368)
                                          have c_368' := ieq_f c_368
                                          first | exact hk _ | (exfalso; cases e; done) | (rw [← e]; exact hk _)
                                      · have e := e.trans (cond_f c_367)
                                        have c_367' := ieq_f c_367
                                        first | exact hk _ | (exfalso; cases e; done) | (rw [← e]; exact hk _)
                                    · have e := e.trans (cond_f c_366)
                                      first | exact hk _ | (exfalso; cases e; done) | (rw [← e]; exact hk _)
                                  · have e := e.trans (cond_f c_365)
                                    first | exact hk _ | (exfalso; cases e; done) | (rw [← e]; exact hk _)
                                · have e := e.trans (cond_f c_364)
                                  first | exact hk _ | (exfalso; cases e; done) | (rw [← e]; exact hk _)
theorem laws_FnBreaks_ok : FnOk Try.prog 11 S_laws_FnBreaks := by
  refine FnOk.body mix_ok E_laws_FnBreaks_ok Try.func11 rfl (by kernel_rfl) (by kernel_rfl) ?_ ?_ ?_ ?_ ?_
  · intro args H K K' h hk
    simp only [S_laws_FnBreaks] at *
    unfold F_laws_FnBreaks at *
    split at hk
    · obtain ⟨l_code, l_more, h_0, h_1, k⟩ := hk
      exact ⟨l_code, l_more, h_0, h_1, (fun H' => h _ _ (k H'))⟩
    · exact hk.elim
  · intro hq; cases hq
  · intro args H K hk
    simp only [S_laws_FnBreaks] at *
    unfold F_laws_FnBreaks at *
    split at hk
    · obtain ⟨l_code, l_more, h_0, h_1, k⟩ := hk
      exact ⟨_, _, k []⟩
    · exact hk.elim
  · intro hq; cases hq
  · have mm := @laws_FnBreaks_main
    have ml := fun (args : List Value) (H : AHeap) (K : Value → AHeap → Prop) => bodyL_body (P := Try.prog) (env := E_laws_FnBreaks ) (fn := Try.f11) (args := args) (H := H) (K := K) E_laws_FnBreaks_ok 
    revert mm ml
    generalize bodyK Try.prog E_laws_FnBreaks Try.f11 = Q
    generalize bodyL Try.prog E_laws_FnBreaks Try.f11 = QL
    intro mm ml args H K hk
    simp only [S_laws_FnBreaks] at *
    unfold F_laws_FnBreaks at *
    split at hk
    · exact ml _ H K (mm _ _ _ _ _ _ H K hk)
    · exact hk.elim
end Go.Proofs.Ytbnplefohfamnaa.Ai
