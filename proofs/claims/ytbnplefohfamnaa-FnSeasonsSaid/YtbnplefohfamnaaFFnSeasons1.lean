/- What functions of the program come to on the abstract machine, and that they do so; printed by a program of mine around proofs of mine. -/
import Derived.Test.YtbnplefohfamnaaFFnSeasons0
set_option linter.unusedVariables false
set_option linter.unusedSimpArgs false
set_option linter.defProp false
set_option maxRecDepth 100000
namespace Go.Proofs.Ytbnplefohfamnaa.Ai
open Go
attribute [local irreducible] bodyK bodyL

def p_laws_FnSeasons_l3 (l_code : List UInt8) (l_more : List UInt8) (sum : Nat) (t74 : Int) (t4 : Bool) (t87 : Int) (k3_4 : (List Nat) → (List Nat) → Int → Bool) : Nat → (List Nat) → (List Nat) → Int → Bool
  | 0, _, _, _ => false
  | μ3 + 1, l_line, l_times, k => (bif decide ((k : Int) < 7) then (p_laws_FnSeasons_l3 l_code l_more sum t74 t4 t87 k3_4 μ3 ((l_line ++ [(fadd .f32 (fmul .f32 (fdiv .f32 (FloatKind.nearest .f32 (IntKind.wrap .i64 (((p_laws_b10At l_more (2 : Int) (17 : Int))) - 8))) 1082130432) (FloatKind.nearest .f32 k)) (fdiv .f32 (FloatKind.nearest .f32 (IntKind.wrap .i64 (((p_laws_b10At l_more (3 : Int) (17 : Int))) - 8))) 1082130432))])) ((l_times ++ [(FloatKind.nearest .f32 k)])) (k + 1)) else (k3_4 l_line l_times k))
def p_laws_FnSeasons_l3_s := fun l_code l_more sum t74 t4 t87 k3_4 μ3 l_line l_times k => @p_laws_FnSeasons_l3.eq_2 l_code l_more sum t74 t4 t87 k3_4 l_line l_times k μ3
def p_laws_FnSeasons_l2 (l_code : List UInt8) (l_more : List UInt8) (sum : Nat) (t74 : Int) (k2_2 : Bool → Int → Bool) : Nat → Bool → Int → Bool
  | 0, _, _ => false
  | μ2 + 1, t4, t87 => (bif decide ((t87 : Int) < (((p_spec_B10Signal l_code (IntKind.wrap .i64 ((IntKind.wrap .i64 (1 + ((p_laws_b10At l_more (0 : Int) (5 : Int))))) * (IntKind.wrap .i64 (1 + ((p_laws_b10At l_more (1 : Int) (4 : Int))))))))).length : Int)) then (bif flt .f64 4562254508917369340 ((p_laws_b10Gap (fadd .f64 (fwide ((((p_impl_WithoutSeason ((p_spec_B10Signal l_code (IntKind.wrap .i64 ((IntKind.wrap .i64 (1 + ((p_laws_b10At l_more (0 : Int) (5 : Int))))) * (IntKind.wrap .i64 (1 + ((p_laws_b10At l_more (1 : Int) (4 : Int))))))))) (IntKind.wrap .i64 (1 + ((p_laws_b10At l_more (0 : Int) (5 : Int)))))).1).getD (t87 : Int).toNat 0))) (fwide ((((p_impl_SeasonOf ((p_spec_B10Signal l_code (IntKind.wrap .i64 ((IntKind.wrap .i64 (1 + ((p_laws_b10At l_more (0 : Int) (5 : Int))))) * (IntKind.wrap .i64 (1 + ((p_laws_b10At l_more (1 : Int) (4 : Int))))))))) (IntKind.wrap .i64 (1 + ((p_laws_b10At l_more (0 : Int) (5 : Int)))))).1).getD (Int.tmod t87 (IntKind.wrap .i64 (1 + ((p_laws_b10At l_more (0 : Int) (5 : Int))))) : Int).toNat 0)))) (fwide ((((p_spec_B10Signal l_code (IntKind.wrap .i64 ((IntKind.wrap .i64 (1 + ((p_laws_b10At l_more (0 : Int) (5 : Int))))) * (IntKind.wrap .i64 (1 + ((p_laws_b10At l_more (1 : Int) (4 : Int))))))))).getD (t87 : Int).toNat 0))))) then false else (p_laws_FnSeasons_l2 l_code l_more sum t74 k2_2 μ2 t4 (t87 + 1))) else (k2_2 t4 t87))
def p_laws_FnSeasons_l2_s := fun l_code l_more sum t74 k2_2 μ2 t4 t87 => @p_laws_FnSeasons_l2.eq_2 l_code l_more sum t74 k2_2 t4 t87 μ2
def p_laws_FnSeasons_l1 (l_code : List UInt8) (l_more : List UInt8) : Nat → Nat → Int → Bool
  | 0, _, _ => false
  | μ + 1, sum, t74 => (bif decide ((t74 : Int) < (((p_impl_SeasonOf ((p_spec_B10Signal l_code (IntKind.wrap .i64 ((IntKind.wrap .i64 (1 + ((p_laws_b10At l_more (0 : Int) (5 : Int))))) * (IntKind.wrap .i64 (1 + ((p_laws_b10At l_more (1 : Int) (4 : Int))))))))) (IntKind.wrap .i64 (1 + ((p_laws_b10At l_more (0 : Int) (5 : Int)))))).1).length : Int)) then (p_laws_FnSeasons_l1 l_code l_more μ (fadd .f64 sum (fwide ((((p_impl_SeasonOf ((p_spec_B10Signal l_code (IntKind.wrap .i64 ((IntKind.wrap .i64 (1 + ((p_laws_b10At l_more (0 : Int) (5 : Int))))) * (IntKind.wrap .i64 (1 + ((p_laws_b10At l_more (1 : Int) (4 : Int))))))))) (IntKind.wrap .i64 (1 + ((p_laws_b10At l_more (0 : Int) (5 : Int)))))).1).getD (t74 : Int).toNat 0)))) (t74 + 1)) else (p_laws_FnSeasons_l2 l_code l_more sum t74 (fun (t4 : Bool) (t87 : Int) => (bif !((p_impl_SeasonOf ((p_impl_WithoutSeason ((p_spec_B10Signal l_code (IntKind.wrap .i64 ((IntKind.wrap .i64 (1 + ((p_laws_b10At l_more (0 : Int) (5 : Int))))) * (IntKind.wrap .i64 (1 + ((p_laws_b10At l_more (1 : Int) (4 : Int))))))))) (IntKind.wrap .i64 (1 + ((p_laws_b10At l_more (0 : Int) (5 : Int)))))).1) (IntKind.wrap .i64 (1 + ((p_laws_b10At l_more (0 : Int) (5 : Int)))))).2) then false else (bif flt .f64 4576918229304087675 (p_laws_b10Gap sum 0) then false else (bif (p_laws_b10Apart ((p_impl_SeasonOf ((p_impl_WithoutSeason ((p_spec_B10Signal l_code (IntKind.wrap .i64 ((IntKind.wrap .i64 (1 + ((p_laws_b10At l_more (0 : Int) (5 : Int))))) * (IntKind.wrap .i64 (1 + ((p_laws_b10At l_more (1 : Int) (4 : Int))))))))) (IntKind.wrap .i64 (1 + ((p_laws_b10At l_more (0 : Int) (5 : Int)))))).1) (IntKind.wrap .i64 (1 + ((p_laws_b10At l_more (0 : Int) (5 : Int)))))).1) (List.replicate ((IntKind.wrap .i64 (1 + ((p_laws_b10At l_more (0 : Int) (5 : Int))))).toNat) 0) 4576918229304087675) then false else (p_laws_FnSeasons_l3 l_code l_more sum t74 t4 t87 (fun (l_line : List Nat) (l_times : List Nat) (k : Int) => (bif (p_impl_TrendOf l_line).2.2 then (bif (p_impl_KernelMean l_times l_line (fdiv .f32 (FloatKind.nearest .f32 ((p_laws_b10At l_more (4 : Int) (13 : Int)))) 1073741824) (fdiv .f32 (FloatKind.nearest .f32 (IntKind.wrap .i64 (1 + ((p_laws_b10At l_more (5 : Int) (4 : Int)))))) 1073741824)).2 then (bif flt .f64 ((p_laws_b10Gap (fwide ((p_impl_TrendOf l_line).1)) (fwide (fdiv .f32 (FloatKind.nearest .f32 (IntKind.wrap .i64 (((p_laws_b10At l_more (2 : Int) (17 : Int))) - 8))) 1082130432)))) 4562254508917369340 then (bif flt .f64 ((p_laws_b10Gap (fwide ((p_impl_TrendOf l_line).2.1)) (fwide (fdiv .f32 (FloatKind.nearest .f32 (IntKind.wrap .i64 (((p_laws_b10At l_more (3 : Int) (17 : Int))) - 8))) 1082130432)))) 4562254508917369340 then (bif fle .f64 (fsub .f64 (fwide (fmin .f32 (((l_line).getD (0 : Int).toNat 0)) (((l_line).getD (6 : Int).toNat 0)))) 4562254508917369340) (fwide ((p_impl_KernelMean l_times l_line (fdiv .f32 (FloatKind.nearest .f32 ((p_laws_b10At l_more (4 : Int) (13 : Int)))) 1073741824) (fdiv .f32 (FloatKind.nearest .f32 (IntKind.wrap .i64 (1 + ((p_laws_b10At l_more (5 : Int) (4 : Int)))))) 1073741824)).1)) then fle .f64 (fwide ((p_impl_KernelMean l_times l_line (fdiv .f32 (FloatKind.nearest .f32 ((p_laws_b10At l_more (4 : Int) (13 : Int)))) 1073741824) (fdiv .f32 (FloatKind.nearest .f32 (IntKind.wrap .i64 (1 + ((p_laws_b10At l_more (5 : Int) (4 : Int)))))) 1073741824)).1)) (fadd .f64 (fwide (fmax .f32 (((l_line).getD (0 : Int).toNat 0)) (((l_line).getD (6 : Int).toNat 0)))) 4562254508917369340) else false) else false) else false) else false) else false)) (Int.toNat (7 - (0 : Int)) + 1) ([] : List Nat) ([] : List Nat) (0 : Int)))))) (Int.toNat ((((p_spec_B10Signal l_code (IntKind.wrap .i64 ((IntKind.wrap .i64 (1 + ((p_laws_b10At l_more (0 : Int) (5 : Int))))) * (IntKind.wrap .i64 (1 + ((p_laws_b10At l_more (1 : Int) (4 : Int))))))))).length : Int) - (0 : Int)) + 1) false (0 : Int)))
def p_laws_FnSeasons_l1_s := fun l_code l_more μ sum t74 => @p_laws_FnSeasons_l1.eq_2 l_code l_more sum t74 μ
def p_laws_FnSeasons (l_code : List UInt8) (l_more : List UInt8) : Bool := ((bif (p_laws_b10Long l_code l_more) then true else (bif !((p_impl_SeasonOf ((p_spec_B10Signal l_code (IntKind.wrap .i64 ((IntKind.wrap .i64 (1 + ((p_laws_b10At l_more (0 : Int) (5 : Int))))) * (IntKind.wrap .i64 (1 + ((p_laws_b10At l_more (1 : Int) (4 : Int))))))))) (IntKind.wrap .i64 (1 + ((p_laws_b10At l_more (0 : Int) (5 : Int)))))).2) then false else (bif !((p_impl_WithoutSeason ((p_spec_B10Signal l_code (IntKind.wrap .i64 ((IntKind.wrap .i64 (1 + ((p_laws_b10At l_more (0 : Int) (5 : Int))))) * (IntKind.wrap .i64 (1 + ((p_laws_b10At l_more (1 : Int) (4 : Int))))))))) (IntKind.wrap .i64 (1 + ((p_laws_b10At l_more (0 : Int) (5 : Int)))))).2) then false else (bif ((((p_impl_SeasonOf ((p_spec_B10Signal l_code (IntKind.wrap .i64 ((IntKind.wrap .i64 (1 + ((p_laws_b10At l_more (0 : Int) (5 : Int))))) * (IntKind.wrap .i64 (1 + ((p_laws_b10At l_more (1 : Int) (4 : Int))))))))) (IntKind.wrap .i64 (1 + ((p_laws_b10At l_more (0 : Int) (5 : Int)))))).1).length : Int) : Int) != IntKind.wrap .i64 (1 + ((p_laws_b10At l_more (0 : Int) (5 : Int)))) then false else (bif ((((p_impl_WithoutSeason ((p_spec_B10Signal l_code (IntKind.wrap .i64 ((IntKind.wrap .i64 (1 + ((p_laws_b10At l_more (0 : Int) (5 : Int))))) * (IntKind.wrap .i64 (1 + ((p_laws_b10At l_more (1 : Int) (4 : Int))))))))) (IntKind.wrap .i64 (1 + ((p_laws_b10At l_more (0 : Int) (5 : Int)))))).1).length : Int) : Int) != (((p_spec_B10Signal l_code (IntKind.wrap .i64 ((IntKind.wrap .i64 (1 + ((p_laws_b10At l_more (0 : Int) (5 : Int))))) * (IntKind.wrap .i64 (1 + ((p_laws_b10At l_more (1 : Int) (4 : Int))))))))).length : Int) then false else (p_laws_FnSeasons_l1 l_code l_more (Int.toNat ((((p_impl_SeasonOf ((p_spec_B10Signal l_code (IntKind.wrap .i64 ((IntKind.wrap .i64 (1 + ((p_laws_b10At l_more (0 : Int) (5 : Int))))) * (IntKind.wrap .i64 (1 + ((p_laws_b10At l_more (1 : Int) (4 : Int))))))))) (IntKind.wrap .i64 (1 + ((p_laws_b10At l_more (0 : Int) (5 : Int)))))).1).length : Int) - (0 : Int)) + 1) 0 (0 : Int))))))))
def p_laws_FnSeasons_eq := @p_laws_FnSeasons.eq_1
def T_laws_FnSeasons (code_a : Option Addr) (code_n : Nat) (code_e : Nat) (more_a : Option Addr) (more_n : Nat) (more_e : Nat) (H : AHeap) (K : Bool → AHeap → Prop) : Prop := ∃ l_code : List UInt8, ∃ l_more : List UInt8, IsL (fun c : UInt8 => Value.int .u8 c.toNat) H code_a code_n l_code ∧ IsL (fun c : UInt8 => Value.int .u8 c.toNat) H more_a more_n l_more ∧ ∀ H' : AHeap, K true H'
theorem impl_fin (x : Nat) : p_impl_IsFinite x = fin .f32 x := fin_asked x
theorem areFinite_in (ls : List (List Nat)) (t2 : Bool) (t9 : Int) (k : Bool → Int → Bool) : ∀ (μ : Nat) (t : Bool) (i : Nat), i ≤ (ls.getD t9.toNat []).length → (ls.getD t9.toNat []).length - i < μ →
    p_impl_areFinite_l2 ls t2 t9 k μ t (i : Int) = bif ((ls.getD t9.toNat []).drop i).all (fin .f32) then k t ((ls.getD t9.toNat []).length : Int) else false := by
  intro μ
  generalize hl : ls.getD t9.toNat [] = l
  induction μ with
  | zero => intro t i _ h; omega
  | succ μ ih =>
    intro t i hi hm
    rw [p_impl_areFinite_l2_s, hl]
    by_cases h : i < l.length
    · rw [decide_eq_true (show (i : Int) < (l.length : Int) by omega), cond_true, Int.toNat_natCast, impl_fin]
      rw [List.drop_eq_getElem_cons h, List.all_cons, List.getD_eq_getElem?_getD, List.getElem?_eq_getElem h, Option.getD_some]
      have := ih t (i + 1) ω2 ω2
      cases fin .f32 l[i]
      · rfl
      · simp only [Bool.not_true, cond_false, Bool.true_and]; exact this
    · rw [decide_eq_false (show ¬ (i : Int) < (l.length : Int) by omega), cond_false, List.drop_eq_nil_of_le ω2, show i = l.length by omega]; rfl
theorem areFinite_go (ls : List (List Nat)) : ∀ (μ : Nat) (t : Bool) (i : Nat), ls.length - i < μ → p_impl_areFinite_l1 ls μ t (i : Int) = (ls.drop i).all (fun l => l.all (fin .f32)) := by
  intro μ
  induction μ with
  | zero => intro t i h; omega
  | succ μ ih =>
    intro t i hm
    rw [p_impl_areFinite_l1_s]
    by_cases h : i < ls.length
    · rw [decide_eq_true (show (i : Int) < (ls.length : Int) by omega), cond_true]
      have := areFinite_in ls t (i : Int) (fun t2 t15 => p_impl_areFinite_l1 ls μ t2 ((i : Int) + 1)) (Int.toNat ((((ls).getD ((i : Int) : Int).toNat []).length : Int) - (0 : Int)) + 1) t 0 (Nat.zero_le _) ω2
      refine Eq.trans this ?_
      rw [Int.toNat_natCast, List.drop_zero, List.drop_eq_getElem_cons h, List.all_cons, List.getD_eq_getElem?_getD, List.getElem?_eq_getElem h, Option.getD_some]
      have := ih t (i + 1) ω2
      cases ls[i].all (fin .f32)
      · rfl
      · simp only [cond_true, Bool.true_and]; exact this
    · rw [decide_eq_false (show ¬ (i : Int) < (ls.length : Int) by omega), cond_false, List.drop_eq_nil_of_le ω2]; rfl
theorem areFinite_all (ls : List (List Nat)) : p_impl_areFinite ls = ls.all (fun l => l.all (fin .f32)) := by
  rw [p_impl_areFinite_eq]
  have := areFinite_go ls (Int.toNat ((ls.length : Int) - (0 : Int)) + 1) false 0 ω2
  simpa using this
def sumv : List Nat → Int
  | [] => 0
  | y :: r => vl .f32 y + sumv r
def Bdl (B : Int) (l : List Nat) : Prop := ∀ y ∈ l, fin .f32 y = true ∧ -(B * 16777216 * wq) ≤ vl .f32 y ∧ vl .f32 y ≤ B * 16777216 * wq
theorem added_fold_go (l : List Nat) : ∀ (μ s i : Nat), l.length - i < μ → p_impl_added_l1 l μ s (i : Int) = (l.drop i).foldl (fadd .f32) s := by
  intro μ
  induction μ with
  | zero => intro s i h; omega
  | succ μ ih =>
    intro s i hm
    rw [p_impl_added_l1_s]
    by_cases h : i < l.length
    · rw [decide_eq_true (show (i : Int) < (l.length : Int) by omega), cond_true, Int.toNat_natCast]
      have := ih (fadd .f32 s (l.getD i 0)) (i + 1) ω2
      rw [List.drop_eq_getElem_cons h, List.foldl_cons]
      rw [show l.getD i 0 = l[i] by rw [List.getD_eq_getElem?_getD, List.getElem?_eq_getElem h]; rfl] at this ⊢
      exact this
    · rw [decide_eq_false (show ¬ (i : Int) < (l.length : Int) by omega), cond_false, List.drop_eq_nil_of_le ω2]; rfl
theorem added_fold (l : List Nat) : p_impl_added l = l.foldl (fadd .f32) 0 := by
  rw [p_impl_added_eq]
  have := added_fold_go l (Int.toNat ((l.length : Int) - 0) + 1) 0 0 ω2
  simpa using this
theorem fold_err : ∀ (l : List Nat) (s : Nat) (S : Int) (m : Nat), Bdl 32 l → m + l.length ≤ 24 → fin .f32 s = true → -((m : Int) * (1024 * wq)) ≤ vl .f32 s - S → vl .f32 s - S ≤ (m : Int) * (1024 * wq) →
    -((m : Int) * (32 * 16777216 * wq)) ≤ S → S ≤ (m : Int) * (32 * 16777216 * wq) →
    fin .f32 (l.foldl (fadd .f32) s) = true ∧ -(((m + l.length : Nat) : Int) * (1024 * wq)) ≤ vl .f32 (l.foldl (fadd .f32) s) - (S + sumv l) ∧ vl .f32 (l.foldl (fadd .f32) s) - (S + sumv l) ≤ ((m + l.length : Nat) : Int) * (1024 * wq) := by
  intro l
  induction l with
  | nil => intro s S m _ _ hf h1 h2 _ _; exact ⟨hf, by simpa [sumv] using h1, by simpa [sumv] using h2⟩
  | cons y r ih =>
    intro s S m hB hm hf h1 h2 h3 h4
    obtain ⟨fy, y1, y2⟩ := hB y (List.mem_cons_self ..)
    simp only [List.length_cons] at hm
    have hw := wq_pos
    have u1 : (m : Int) * (1024 * wq) ≤ 24 * (1024 * wq) := Int.mul_le_mul_of_nonneg_right ω2 ω2
    have u2 : (m : Int) * (32 * 16777216 * wq) ≤ 23 * (32 * 16777216 * wq) := Int.mul_le_mul_of_nonneg_right ω2 ω2
    have e1 : ((m + 1 : Nat) : Int) * (1024 * wq) = (m : Int) * (1024 * wq) + 1024 * wq := by rw [Int.natCast_add, Int.add_mul]; simp
    have e2 : ((m + 1 : Nat) : Int) * (32 * 16777216 * wq) = (m : Int) * (32 * 16777216 * wq) + 32 * 16777216 * wq := by rw [Int.natCast_add, Int.add_mul]; simp
    obtain ⟨f1, g1, g2⟩ := vadd (k := .f32) 10 (A := 1024) ω7 ω7 hf fy ω2 ω2
    have := ih (fadd .f32 s y) (S + vl .f32 y) (m + 1) (fun z hz => hB z (List.mem_cons_of_mem _ hz)) ω2 f1 ω2 ω2 ω2 ω2
    rw [show m + 1 + r.length = m + (y :: r).length by simp; omega, Int.add_assoc] at this
    exact this
theorem sumv_bd {B : Int} (hB : 0 ≤ B) : ∀ {l : List Nat}, Bdl B l → -((l.length : Int) * (B * 16777216 * wq)) ≤ sumv l ∧ sumv l ≤ (l.length : Int) * (B * 16777216 * wq) := by
  intro l
  induction l with
  | nil => intro _; simp [sumv]
  | cons y r ih =>
    intro h
    have h1 := ih fun z hz => h z (List.mem_cons_of_mem _ hz)
    obtain ⟨_, h2, h3⟩ := h y (List.mem_cons_self ..)
    have e : (((y :: r).length : Nat) : Int) * (B * 16777216 * wq) = (r.length : Int) * (B * 16777216 * wq) + B * 16777216 * wq := by rw [List.length_cons, Int.natCast_add, Int.add_mul]; simp
    rw [e]
    simp only [sumv]
    omega
theorem mean_err {l : List Nat} (h : Bdl 32 l) (h1 : 1 ≤ l.length) (h2 : l.length ≤ 24) :
    fin .f32 (p_impl_mean l) = true ∧ -((l.length : Int) * (1280 * wq)) ≤ (l.length : Int) * vl .f32 (p_impl_mean l) - sumv l ∧ (l.length : Int) * vl .f32 (p_impl_mean l) - sumv l ≤ (l.length : Int) * (1280 * wq) := by
  have hw := wq_pos
  obtain ⟨f1, g1, g2⟩ := fold_err l 0 0 0 h ω2 (fin_zero _) (by simp [vl, sv_zero]) (by simp [vl, sv_zero]) (by simp) (by simp)
  rw [p_impl_mean_eq, added_fold]
  obtain ⟨b1, b2⟩ := sumv_bd ω7 h
  simp only [Nat.zero_add, Int.zero_add] at g1 g2
  have e1 : (l.length : Int) * (1024 * wq) = 1024 * ((l.length : Int) * wq) := by rw [Int.mul_left_comm]
  have e2 : (l.length : Int) * (32 * 16777216 * wq) = 32 * 16777216 * ((l.length : Int) * wq) := by rw [Int.mul_left_comm]
  have e3 : (l.length : Int) * (128 * 8388608 * wq) = 128 * 8388608 * ((l.length : Int) * wq) := by rw [Int.mul_left_comm]
  have e4 : (l.length : Int) * (2 * (128 * wq)) = 256 * ((l.length : Int) * wq) := by rw [Int.mul_left_comm, Int.mul_left_comm (l.length : Int), ← Int.mul_assoc]; rfl
  have e5 : (l.length : Int) * (1280 * wq) = 1280 * ((l.length : Int) * wq) := by rw [Int.mul_left_comm]
  rw [e1] at g1 g2
  rw [e2] at b1 b2
  have hp : 0 ≤ (l.length : Int) * wq := Int.mul_nonneg ω2 ω2
  obtain ⟨f2, q1, q2⟩ := vdivn 7 (A := 128) ω7 ω7 (n := l.length) h1 ω2 f1 (by rw [e3]; omega) (by rw [e3]; omega)
  rw [e4] at q1 q2
  rw [e5]
  exact ⟨f2, by omega, by omega⟩
theorem le_of_count {n : Nat} (hn : 1 ≤ n) {a b : Int} (h : (n : Int) * a ≤ (n : Int) * b) : a ≤ b := Int.le_of_mul_le_mul_left h ω2
theorem mean_bd {l : List Nat} {B : Int} (hB : 0 ≤ B) (hB2 : B ≤ 32) (h : Bdl B l) (h1 : 1 ≤ l.length) (h2 : l.length ≤ 24) :
    -(B * 16777216 * wq + 1280 * wq) ≤ vl .f32 (p_impl_mean l) ∧ vl .f32 (p_impl_mean l) ≤ B * 16777216 * wq + 1280 * wq := by
  have hw := wq_pos
  have hm : B * 16777216 * wq ≤ 32 * 16777216 * wq := Int.mul_le_mul_of_nonneg_right ω2 ω2
  obtain ⟨_, m1, m2⟩ := mean_err (l := l) (fun y hy => by have := h y hy; exact ⟨this.1, by omega, by omega⟩) h1 h2
  obtain ⟨b1, b2⟩ := sumv_bd hB h
  constructor
  · apply le_of_count h1
    rw [Int.mul_neg, Int.mul_add]; omega
  · apply le_of_count h1
    rw [Int.mul_add]; omega
theorem Qt.bd {y : Nat} (h : Qt y) : fin .f32 y = true ∧ -(8 * 16777216 * wq) ≤ vl .f32 y ∧ vl .f32 y ≤ 8 * 16777216 * wq ∧ ∃ k : Int, -32 ≤ k ∧ k ≤ 32 ∧ vl .f32 y = k * 4194304 * wq := by
  obtain ⟨k, hk, rfl⟩ := h
  have hw := wq_pos
  have tab : ∀ k : Nat, k < 65 → fin .f32 (fdiv .f32 (FloatKind.nearest .f32 ((k : Int) - 32)) 1082130432) = true ∧ sv .f32 (fdiv .f32 (FloatKind.nearest .f32 ((k : Int) - 32)) 1082130432) = ((k : Int) - 32) * 2 ^ 147 := by decide +kernel
  obtain ⟨t1, t2⟩ := tab k hk
  have e : vl .f32 (fdiv .f32 (FloatKind.nearest .f32 ((k : Int) - 32)) 1082130432) = ((k : Int) - 32) * 4194304 * wq := by
    show sv .f32 _ * pw 925 = _
    have e2 : (4194304 : Int) * wq = pw 147 * pw 925 := by
      unfold wq
      rw [show (4194304 : Int) = pw 22 by decide, ← pw_add, ← pw_add]
    rw [t2, Int.mul_assoc _ 4194304, e2, ← Int.mul_assoc]
    rfl
  refine ⟨t1, ?_, ?_, (k : Int) - 32, by omega, by omega, e⟩
  · rw [e, Int.mul_assoc ((k : Int) - 32)]
    have := Int.mul_le_mul_of_nonneg_right (show (-32 : Int) ≤ (k : Int) - 32 by omega) (show (0 : Int) ≤ 4194304 * wq by omega)
    omega
  · rw [e, Int.mul_assoc ((k : Int) - 32)]
    have := Int.mul_le_mul_of_nonneg_right (show (k : Int) - 32 ≤ 32 by omega) (show (0 : Int) ≤ 4194304 * wq by omega)
    omega
/-! comparisons of 64 bits -/
theorem gap64 {a b : Nat} (ha : fin .f64 a = true) (hb : fin .f64 b = true) {E : Int} (hE : E ≤ 64 * 16777216 * wq) (h1 : -E ≤ vl .f64 a - vl .f64 b) (h2 : vl .f64 a - vl .f64 b ≤ E) :
    fin .f64 (p_laws_b10Gap a b) = true ∧ vl .f64 (p_laws_b10Gap a b) ≤ E + 64 * wq ∧ -(64 * wq) ≤ vl .f64 (p_laws_b10Gap a b) := by
  have hw := wq_pos
  unfold p_laws_b10Gap
  rw [flt_fin ha hb]
  by_cases h : sv .f64 a < sv .f64 b
  · rw [decide_eq_true h, cond_true]
    obtain ⟨f1, g1, g2⟩ := vsub (k := .f64) 6 (A := 64) ω7 ω7 hb ha ω2 ω2
    have h' : vl .f64 a < vl .f64 b := h
    exact ⟨f1, by omega, by omega⟩
  · rw [decide_eq_false h, cond_false]
    obtain ⟨f1, g1, g2⟩ := vsub (k := .f64) 6 (A := 64) ω7 ω7 ha hb ω2 ω2
    have h' : ¬ vl .f64 a < vl .f64 b := h
    exact ⟨f1, by omega, by omega⟩
theorem not_above {c g : Nat} (hc : fin .f64 c = true) (hg : fin .f64 g = true) (h : vl .f64 g ≤ vl .f64 c) : flt .f64 c g = false := by
  rw [flt_fin hc hg]; exact decide_eq_false (show ¬ sv .f64 c < sv .f64 g from Int.not_lt.2 h)
theorem at_most {c g : Nat} (hc : fin .f64 c = true) (hg : fin .f64 g = true) (h : vl .f64 g ≤ vl .f64 c) : fle .f64 g c = true := by
  rw [fle_fin hg hc]; exact decide_eq_true (show sv .f64 g ≤ sv .f64 c from h)
theorem milli : fin .f64 4562254508917369340 = true ∧ 16000 * wq ≤ vl .f64 4562254508917369340 := by
  have hr : FloatKind.f64.format.read 4562254508917369340 = .number false 4611686018427388 (-62) := by decide +kernel
  refine ⟨by unfold fin; rw [hr], ?_⟩
  have e : vl .f64 4562254508917369340 = 4611686018427388 * pw 1012 := by
    simp only [vl]
    unfold sv
    rw [hr]
    simp only []
    rw [signed_eq, l64, show ((-62 : Int) - -1074).toNat = 1012 by decide, pw_nat]
    generalize (2 : Nat) ^ 1012 = D
    simp
  have hp := pw_pos 1012
  have e2 : wq = 274877906944 * pw 1012 := by
    unfold wq
    rw [show (274877906944 : Int) = pw 38 by decide, ← pw_add]
  rw [e, e2]; omega
theorem milli_up : vl .f64 4562254508917369340 ≤ 17000 * wq := by
  have hr : FloatKind.f64.format.read 4562254508917369340 = .number false 4611686018427388 (-62) := by decide +kernel
  have e : vl .f64 4562254508917369340 = 4611686018427388 * pw 1012 := by
    simp only [vl]
    unfold sv
    rw [hr]
    simp only []
    rw [signed_eq, l64, show ((-62 : Int) - -1074).toNat = 1012 by decide, pw_nat]
    generalize (2 : Nat) ^ 1012 = D
    simp
  have hp := pw_pos 1012
  have e2 : wq = 274877906944 * pw 1012 := by
    unfold wq
    rw [show (274877906944 : Int) = pw 38 by decide, ← pw_add]
  rw [e, e2]; omega
theorem centi : fin .f64 4576918229304087675 = true ∧ 160000 * wq ≤ vl .f64 4576918229304087675 := by
  have hr : FloatKind.f64.format.read 4576918229304087675 = .number false 5764607523034235 (-59) := by decide +kernel
  refine ⟨by unfold fin; rw [hr], ?_⟩
  have e : vl .f64 4576918229304087675 = 5764607523034235 * pw 1015 := by
    simp only [vl]
    unfold sv
    rw [hr]
    simp only []
    rw [signed_eq, l64, show ((-59 : Int) - -1074).toNat = 1015 by decide, pw_nat]
    generalize (2 : Nat) ^ 1015 = D
    simp
  have hp := pw_pos 1015
  have e2 : wq = 34359738368 * pw 1015 := by
    unfold wq
    rw [show (34359738368 : Int) = pw 35 by decide, ← pw_add]
  rw [e, e2]; omega
def strd (l : List Nat) (p : Nat) : Nat → Nat → List Nat
  | 0, _ => []
  | μ + 1, i => if i < l.length then l.getD i 0 :: strd l p μ (i + p) else []
def sea (l : List Nat) (p j : Nat) : Nat := fsub .f32 (p_impl_mean (strd l p (Int.toNat ((l.length : Int) - (j : Int)) + 1) j)) (p_impl_mean l)
theorem season_in2 (l : List Nat) (p : Nat) (hp : 1 ≤ p) (vo : List Nat) (t : Int) (k : List Nat → Int → List Nat → List Nat × Bool) (K : List Nat → List Nat → List Nat × Bool) (hk : ∀ so i y, k so i y = K so y) :
    ∀ (μ : Nat) (so : List Nat) (i : Nat) (y : List Nat), l.length - i < μ → p_impl_SeasonOf_l2 l (p : Int) vo t k μ so (i : Int) y = K (so ++ strd l p μ i) y := by
  intro μ
  induction μ with
  | zero => intro so i y h; omega
  | succ μ ih =>
    intro so i y h
    rw [p_impl_SeasonOf_l2_s]
    by_cases hi : i < l.length
    · rw [decide_eq_true (show (i : Int) < (l.length : Int) by omega), cond_true, Int.toNat_natCast, ← Int.natCast_add, ih _ _ _ ω2]
      rw [strd, if_pos hi, List.append_assoc]; rfl
    · rw [decide_eq_false (show ¬ (i : Int) < (l.length : Int) by omega), cond_false, hk, strd, if_neg hi, List.append_nil]
theorem season_out (l : List Nat) (p : Nat) (hp : 1 ≤ p) : ∀ (μ : Nat) (o : List Nat) (j : Nat), j ≤ p → p - j < μ →
    p_impl_SeasonOf_l1 l (p : Int) μ o (j : Int) = (bif (p_impl_finiteList (o ++ (List.range' j (p - j)).map (sea l p))).2 then (o ++ (List.range' j (p - j)).map (sea l p), true) else ([], false)) := by
  intro μ
  induction μ with
  | zero => intro o j _ h; omega
  | succ μ ih =>
    intro o j hj h
    rw [p_impl_SeasonOf_l1_s]
    by_cases hi : j < p
    · rw [decide_eq_true (show (j : Int) < (p : Int) by omega), cond_true]
      rw [season_in2 l p hp o (j : Int) _ (fun so y => p_impl_SeasonOf_l1 l (p : Int) μ (y ++ [fsub .f32 (p_impl_mean so) (p_impl_mean l)]) ((j : Int) + 1)) (fun _ _ _ => rfl) _ _ _ _ ω2]
      have := ih (o ++ [sea l p j]) (j + 1) ω2 ω2
      rw [show p - j = (p - (j + 1)) + 1 by omega, List.range'_succ, List.map_cons]
      rw [List.append_assoc] at this
      exact this
    · rw [decide_eq_false (show ¬ (j : Int) < (p : Int) by omega), cond_false, show p - j = 0 by omega]
      simp
theorem finList {l : List Nat} (h : ∀ y ∈ l, fin .f32 y = true) : p_impl_areFinite [l] = true := by
  rw [areFinite_all]; simpa using h
theorem isLong_t {l : List Nat} (h1 : 1 ≤ l.length) (h2 : l.length ≤ 128) (h : ∀ y ∈ l, fin .f32 y = true) : p_impl_isLong l = true := by
  rw [p_impl_isLong_eq, finList h]
  unfold p_impl_within
  rw [decide_eq_true (show (1 : Int) ≤ (l.length : Int) by omega), decide_eq_true (show (l.length : Int) ≤ 128 by omega)]; rfl
theorem season_all {l : List Nat} {p : Nat} (h1 : 1 ≤ p) (h2 : p ≤ l.length) (h3 : l.length ≤ 128) (hf : ∀ y ∈ l, fin .f32 y = true) (hs : ∀ j, j < p → fin .f32 (sea l p j) = true) :
    p_impl_SeasonOf l (p : Int) = ((List.range p).map (sea l p), true) := by
  rw [p_impl_SeasonOf_eq, isLong_t ω2 h3 hf]
  unfold p_impl_within
  rw [decide_eq_true (show (1 : Int) ≤ (p : Int) by omega), decide_eq_true (show (p : Int) ≤ (l.length : Int) by omega)]
  simp only [Bool.not_true, cond_true, cond_false]
  have := season_out l p h1 (Int.toNat ((p : Int) - 0) + 1) [] 0 ω2 ω2
  refine this.trans ?_
  rw [List.nil_append, Nat.sub_zero, ← List.range_eq_range', p_impl_finiteList_eq, finList (fun y hy => by
    obtain ⟨j, hj, rfl⟩ := List.mem_map.1 hy
    exact hs j (List.mem_range.1 hj))]
  rfl
theorem without_go (l : List Nat) (p : Int) (S : List Nat) (hS : (p_impl_SeasonOf l p).1 = S) : ∀ (μ : Nat) (o : List Nat) (i : Nat), i ≤ l.length → l.length - i < μ →
    p_impl_WithoutSeason_l1 l p μ o (i : Int) = (bif (p_impl_finiteList (o ++ (List.range' i (l.length - i)).map (fun i => fsub .f32 (l.getD i 0) (S.getD (Int.tmod (i : Int) p).toNat 0)))).2 then (o ++ (List.range' i (l.length - i)).map (fun i => fsub .f32 (l.getD i 0) (S.getD (Int.tmod (i : Int) p).toNat 0)), true) else ([], false)) := by
  intro μ
  induction μ with
  | zero => intro o i _ h; omega
  | succ μ ih =>
    intro o i hi h
    rw [p_impl_WithoutSeason_l1_s]
    by_cases hc : i < l.length
    · rw [decide_eq_true (show (i : Int) < (l.length : Int) by omega), cond_true, Int.toNat_natCast, hS]
      have := ih (o ++ [fsub .f32 (l.getD i 0) (S.getD (Int.tmod (i : Int) p).toNat 0)]) (i + 1) ω2 ω2
      rw [show l.length - i = (l.length - (i + 1)) + 1 by omega, List.range'_succ, List.map_cons]
      rw [List.append_assoc] at this
      exact this
    · rw [decide_eq_false (show ¬ (i : Int) < (l.length : Int) by omega), cond_false, show l.length - i = 0 by omega]
      simp
def rst (l : List Nat) (p : Nat) (i : Nat) : Nat := fsub .f32 (l.getD i 0) (sea l p (i % p))
theorem without_all {l : List Nat} {p : Nat} (h1 : 1 ≤ p) (h2 : p ≤ l.length) (h3 : l.length ≤ 128) (hf : ∀ y ∈ l, fin .f32 y = true) (hs : ∀ j, j < p → fin .f32 (sea l p j) = true) (hr : ∀ i, i < l.length → fin .f32 (rst l p i) = true) :
    p_impl_WithoutSeason l (p : Int) = ((List.range l.length).map (rst l p), true) := by
  have hS := season_all h1 h2 h3 hf hs
  rw [p_impl_WithoutSeason_eq, hS]
  simp only [Bool.not_true, cond_false]
  have := without_go l (p : Int) ((List.range p).map (sea l p)) (by rw [hS]) (Int.toNat ((l.length : Int) - 0) + 1) [] 0 ω2 ω2
  refine this.trans ?_
  have e : ∀ i : Nat, fsub .f32 (l.getD i 0) (((List.range p).map (sea l p)).getD (Int.tmod (i : Int) (p : Int)).toNat 0) = rst l p i := fun i => by
    have hm : (Int.tmod (i : Int) (p : Int)).toNat = i % p := by rw [Int.tmod_eq_emod_of_nonneg ω2]; omega
    have hlt : i % p < p := Nat.mod_lt _ ω2
    unfold rst
    rw [hm]
    congr 1
    rw [List.getD_eq_getElem?_getD, List.getElem?_map, List.getElem?_range hlt]; rfl
  simp only [e]
  rw [List.nil_append, Nat.sub_zero, ← List.range_eq_range', p_impl_finiteList_eq, finList (fun y hy => by
    obtain ⟨j, hj, rfl⟩ := List.mem_map.1 hy
    exact hr j (List.mem_range.1 hj))]
  rfl
/-! the numbers -/
def cs (F : Nat → Int) (p : Nat) : Nat → Nat → Int
  | 0, _ => 0
  | c + 1, j => F j + cs F p c (j + p)
def rs (F : Nat → Int) : Nat → Nat → Int
  | 0, _ => 0
  | n + 1, a => F a + rs F n (a + 1)
def Fl (l : List Nat) (i : Nat) : Int := vl .f32 (l.getD i 0)
theorem strd_cs (l : List Nat) (p : Nat) : ∀ (b i μ : Nat), l.length ≤ i + b * p → i + b * p < l.length + p → b < μ → (strd l p μ i).length = b ∧ sumv (strd l p μ i) = cs (Fl l) p b i ∧ ∀ y ∈ strd l p μ i, y ∈ l := by
  intro b
  induction b with
  | zero =>
    intro i μ h1 h2 h3
    obtain ⟨ν, rfl⟩ : ∃ ν, μ = ν + 1 := ⟨μ - 1, by omega⟩
    rw [strd, if_neg ω2]
    exact ⟨rfl, rfl, fun y hy => by cases hy⟩
  | succ b ih =>
    intro i μ h1 h2 h3
    obtain ⟨ν, rfl⟩ : ∃ ν, μ = ν + 1 := ⟨μ - 1, by omega⟩
    rw [Nat.succ_mul] at h1 h2
    have hi : i < l.length := by omega
    obtain ⟨r1, r2, r3⟩ := ih (i + p) ν ω2 ω2 ω2
    rw [strd, if_pos hi]
    refine ⟨by rw [List.length_cons, r1], by rw [sumv, cs, r2]; rfl, fun y hy => ?_⟩
    rcases List.mem_cons.1 hy with rfl | hy
    · rw [List.getD_eq_getElem?_getD, List.getElem?_eq_getElem hi]; exact List.getElem_mem hi
    · exact r3 y hy
theorem rs_shift (F : Nat → Int) : ∀ (n a : Nat), rs (fun i => F (i + 1)) n a = rs F n (a + 1) := by
  intro n
  induction n with
  | zero => intro a; rfl
  | succ n ih => intro a; rw [rs, rs, ih]
theorem sumv_rs (l : List Nat) : sumv l = rs (Fl l) l.length 0 := by
  induction l with
  | nil => rfl
  | cons y r ih =>
    rw [sumv, ih, List.length_cons, rs, ← rs_shift]
    rfl
structure SeaOk (l : List Nat) (p c : Nat) : Prop where
  fin : ∀ j, j < p → fin .f32 (sea l p j) = true
  near : ∀ j, j < p → -((c : Int) * (1536 * wq)) ≤ (c : Int) * vl .f32 (sea l p j) - (cs (Fl l) p c j - (c : Int) * vl .f32 (p_impl_mean l)) ∧ (c : Int) * vl .f32 (sea l p j) - (cs (Fl l) p c j - (c : Int) * vl .f32 (p_impl_mean l)) ≤ (c : Int) * (1536 * wq)
theorem sea_ok {l : List Nat} {p c : Nat} (hp : 1 ≤ p) (hc : 1 ≤ c) (hl : l.length = c * p) (h24 : l.length ≤ 24) (hB : Bdl 32 l) : SeaOk l p c ∧
    (Bdl 8 l → ∀ j, j < p → -(16 * 16777216 * wq + 3000 * wq) ≤ vl .f32 (sea l p j) ∧ vl .f32 (sea l p j) ≤ 16 * 16777216 * wq + 3000 * wq) := by
  have hw := wq_pos
  have hcl : c ≤ l.length := by rw [hl]; exact Nat.le_mul_of_pos_right _ hp
  have one : ∀ (B : Int), 8 ≤ B → B ≤ 32 → Bdl B l → ∀ j, j < p → Ai.fin .f32 (sea l p j) = true ∧ (-((c : Int) * (1536 * wq)) ≤ (c : Int) * vl .f32 (sea l p j) - (cs (Fl l) p c j - (c : Int) * vl .f32 (p_impl_mean l)) ∧ (c : Int) * vl .f32 (sea l p j) - (cs (Fl l) p c j - (c : Int) * vl .f32 (p_impl_mean l)) ≤ (c : Int) * (1536 * wq)) ∧
      -(2 * (B * 16777216 * wq) + 3000 * wq) ≤ vl .f32 (sea l p j) ∧ vl .f32 (sea l p j) ≤ 2 * (B * 16777216 * wq) + 3000 * wq := by
    intro B hB1 hB2 hb j hj
    obtain ⟨s1, s2, s3⟩ := strd_cs l p c j (Int.toNat ((l.length : Int) - (j : Int)) + 1) ω2 ω2 (by
      have : c ≤ l.length - j := by
        have h1 : (c - 1) * p + p = c * p := by rw [← Nat.succ_mul]; congr 1; omega
        have h2 : c - 1 ≤ (c - 1) * p := Nat.le_mul_of_pos_right _ hp
        omega
      omega)
    have hbs : Bdl B (strd l p (Int.toNat ((l.length : Int) - (j : Int)) + 1) j) := fun y hy => hb y (s3 y hy)
    have hm32 : ∀ {x : Int}, x = B * 16777216 * wq → x ≤ 32 * 16777216 * wq := fun e => by rw [e]; exact Int.mul_le_mul_of_nonneg_right ω2 ω2
    have hB32 := hm32 rfl
    have w32 : ∀ {ys : List Nat}, Bdl B ys → Bdl 32 ys := fun h y hy => by have := h y hy; exact ⟨this.1, by omega, by omega⟩
    obtain ⟨f1, a1, a2⟩ := mean_err (w32 hbs) ω2 ω2
    obtain ⟨f2, _, _⟩ := mean_err (w32 hb) ω2 h24
    obtain ⟨b1, b2⟩ := mean_bd ω2 hB2 hbs ω2 ω2
    obtain ⟨d1, d2⟩ := mean_bd ω2 hB2 hb ω2 h24
    obtain ⟨f3, g1, g2⟩ := vsub (k := .f32) 7 (A := 128) ω7 ω7 f1 f2 ω2 ω2
    rw [s1, s2] at a1 a2
    have z1 := Int.mul_le_mul_of_nonneg_left g1 (show (0 : Int) ≤ (c : Int) by omega)
    have z2 := Int.mul_le_mul_of_nonneg_left g2 (show (0 : Int) ≤ (c : Int) by omega)
    unfold sea
    generalize p_impl_mean (strd l p (Int.toNat ((l.length : Int) - (j : Int)) + 1) j) = mj at *
    generalize p_impl_mean l = m at *
    simp only [Int.mul_sub, Int.mul_neg, Int.mul_left_comm (c : Int)] at *
    exact ⟨f3, ⟨by omega, by omega⟩, by omega, by omega⟩
  refine ⟨⟨fun j hj => (one 32 ω7 ω7 hB j hj).1, fun j hj => (one 32 ω7 ω7 hB j hj).2.1⟩, fun h j hj => ?_⟩
  obtain ⟨_, _, q1, q2⟩ := one 8 ω7 ω7 h j hj
  exact ⟨by omega, by omega⟩
theorem rs_add (F : Nat → Int) : ∀ (m n a : Nat), rs F (m + n) a = rs F m a + rs F n (a + m) := by
  intro m
  induction m with
  | zero => intro n a; simp [rs]
  | succ m ih => intro n a; rw [show m + 1 + n = (m + n) + 1 by omega, rs, rs, ih, show a + 1 + m = a + (m + 1) by omega]; omega
theorem rs_plus (F G : Nat → Int) : ∀ (n a : Nat), rs (fun i => F i + G i) n a = rs F n a + rs G n a := by
  intro n
  induction n with
  | zero => intro a; rfl
  | succ n ih => intro a; rw [rs, rs, rs, ih]; omega
theorem rs_minus (F G : Nat → Int) : ∀ (n a : Nat), rs (fun i => F i - G i) n a = rs F n a - rs G n a := by
  intro n
  induction n with
  | zero => intro a; rfl
  | succ n ih => intro a; rw [rs, rs, rs, ih]; omega
theorem rs_mul (c : Int) (F : Nat → Int) : ∀ (n a : Nat), rs (fun i => c * F i) n a = c * rs F n a := by
  intro n
  induction n with
  | zero => intro a; simp [rs]
  | succ n ih => intro a; rw [rs, rs, ih, Int.mul_add]
theorem rs_const (c : Int) : ∀ (n a : Nat), rs (fun _ => c) n a = (n : Int) * c := by
  intro n
  induction n with
  | zero => intro a; simp [rs]
  | succ n ih => intro a; rw [rs, ih, Int.natCast_add, Int.add_mul]; omega
theorem rs_le {F : Nat → Int} {E : Int} : ∀ (n a : Nat), (∀ i, a ≤ i → i < a + n → -E ≤ F i ∧ F i ≤ E) → -((n : Int) * E) ≤ rs F n a ∧ rs F n a ≤ (n : Int) * E := by
  intro n
  induction n with
  | zero => intro a _; simp [rs]
  | succ n ih =>
    intro a h
    have h1 := h a (Nat.le_refl _) ω2
    have h2 := ih (a + 1) fun i hi hj => h i ω2 ω2
    rw [rs, Int.natCast_add, Int.add_mul]
    omega
theorem cs_rs (F : Nat → Int) (p : Nat) : ∀ (c a : Nat), rs (fun j => cs F p c j) p a = rs F (c * p) a := by
  intro c
  induction c with
  | zero => intro a; rw [Nat.zero_mul]; simp only [cs]; rw [rs_const]; simp [rs]
  | succ c ih =>
    intro a
    have e : ∀ (q a : Nat), rs (fun j => cs F p c (j + p)) q a = rs (fun j => cs F p c j) q (a + p) := by
      intro q
      induction q with
      | zero => intro a; rfl
      | succ q ihq => intro a; rw [rs, rs, ihq, show a + 1 + p = a + p + 1 by omega]
    simp only [cs]
    rw [rs_plus, e, ih, Nat.succ_mul, Nat.add_comm (c * p), rs_add]
theorem sum_sea {l : List Nat} {p c : Nat} (hp : 1 ≤ p) (hc : 1 ≤ c) (hl : l.length = c * p) (h24 : l.length ≤ 24) (hB : Bdl 32 l) :
    -((p : Int) * (2816 * wq)) ≤ rs (fun j => vl .f32 (sea l p j)) p 0 ∧ rs (fun j => vl .f32 (sea l p j)) p 0 ≤ (p : Int) * (2816 * wq) := by
  obtain ⟨H, _⟩ := sea_ok hp hc hl h24 hB
  have hcl : 1 ≤ l.length := by rw [hl]; exact Nat.mul_pos hc hp
  obtain ⟨_, m1, m2⟩ := mean_err hB hcl h24
  obtain ⟨g1, g2⟩ := rs_le (F := fun j => (c : Int) * vl .f32 (sea l p j) - (cs (Fl l) p c j - (c : Int) * vl .f32 (p_impl_mean l))) (E := (c : Int) * (1536 * wq)) p 0 (fun i _ hi => H.near i ω2)
  rw [rs_minus, rs_mul, rs_minus, rs_const, cs_rs] at g1 g2
  rw [sumv_rs, hl] at m1 m2
  generalize rs (fun j => vl .f32 (sea l p j)) p 0 = A at *
  generalize rs (Fl l) (c * p) 0 = S at *
  generalize vl .f32 (p_impl_mean l) = m at *
  have e : ((c * p : Nat) : Int) = (p : Int) * (c : Int) := by rw [Int.natCast_mul, Int.mul_comm]
  rw [e] at m1 m2
  simp only [Int.mul_assoc] at *
  constructor
  · apply le_of_count hc
    simp only [Int.mul_neg, Int.mul_left_comm (c : Int)] at *
    simp only [Int.mul_left_comm (p : Int) 1536, Int.mul_left_comm (p : Int) 2816, Int.mul_left_comm (p : Int) 1280] at *
    omega
  · apply le_of_count hc
    simp only [Int.mul_left_comm (c : Int)] at *
    simp only [Int.mul_left_comm (p : Int) 1536, Int.mul_left_comm (p : Int) 2816, Int.mul_left_comm (p : Int) 1280] at *
    omega
theorem cs_diff {F G : Nat → Int} {p : Nat} {x E : Int} : ∀ (c j : Nat), (∀ k, k < c → -E ≤ F (j + k * p) - (G (j + k * p) - x) ∧ F (j + k * p) - (G (j + k * p) - x) ≤ E) → -((c : Int) * E) ≤ cs F p c j - (cs G p c j - (c : Int) * x) ∧ cs F p c j - (cs G p c j - (c : Int) * x) ≤ (c : Int) * E := by
  intro c
  induction c with
  | zero => intro j _; simp [cs]
  | succ c ih =>
    intro j h
    have h0 := h 0 ω2
    rw [Nat.zero_mul, Nat.add_zero] at h0
    have h1 := ih (j + p) fun k hk => by
      have := h (k + 1) ω2
      rw [Nat.succ_mul, show j + (k * p + p) = j + p + k * p by omega] at this
      exact this
    rw [cs, cs, Int.natCast_add, Int.add_mul, Int.add_mul]
    omega
def rsts (l : List Nat) (p : Nat) : List Nat := (List.range l.length).map (rst l p)
theorem rsts_len (l : List Nat) (p : Nat) : (rsts l p).length = l.length := by simp [rsts]
theorem rsts_get (l : List Nat) (p : Nat) {i : Nat} (h : i < l.length) : (rsts l p).getD i 0 = rst l p i := by
  unfold rsts
  rw [List.getD_eq_getElem?_getD, List.getElem?_map, List.getElem?_range h]; rfl
theorem rst_ok {l : List Nat} {p c : Nat} (hp : 1 ≤ p) (hc : 1 ≤ c) (hl : l.length = c * p) (h24 : l.length ≤ 24) (hB : Bdl 8 l) {i : Nat} (hi : i < l.length) :
    fin .f32 (rst l p i) = true ∧ (-(128 * wq) ≤ vl .f32 (rst l p i) - (Fl l i - vl .f32 (sea l p (i % p))) ∧ vl .f32 (rst l p i) - (Fl l i - vl .f32 (sea l p (i % p))) ≤ 128 * wq) ∧ -(32 * 16777216 * wq) ≤ vl .f32 (rst l p i) ∧ vl .f32 (rst l p i) ≤ 32 * 16777216 * wq := by
  have hw := wq_pos
  have hB32 : Bdl 32 l := fun y hy => by have := hB y hy; exact ⟨this.1, by omega, by omega⟩
  obtain ⟨H, H2⟩ := sea_ok hp hc hl h24 hB32
  have hm : i % p < p := Nat.mod_lt _ hp
  obtain ⟨q1, q2⟩ := H2 hB _ hm
  have hg : l.getD i 0 ∈ l := by rw [List.getD_eq_getElem?_getD, List.getElem?_eq_getElem hi]; exact List.getElem_mem hi
  obtain ⟨f1, b1, b2⟩ := hB _ hg
  obtain ⟨f2, g1, g2⟩ := vsub (k := .f32) 7 (A := 128) ω7 ω7 f1 (H.fin _ hm) ω2 ω2
  unfold rst Fl
  exact ⟨f2, ⟨g1, g2⟩, by omega, by omega⟩
theorem rsts_bd {l : List Nat} {p c : Nat} (hp : 1 ≤ p) (hc : 1 ≤ c) (hl : l.length = c * p) (h24 : l.length ≤ 24) (hB : Bdl 8 l) : Bdl 32 (rsts l p) := fun y hy => by
  obtain ⟨i, hi, rfl⟩ := List.mem_map.1 hy
  obtain ⟨f, _, b⟩ := rst_ok hp hc hl h24 hB (List.mem_range.1 hi)
  exact ⟨f, b⟩
theorem again_ok {l : List Nat} {p c : Nat} (hp : 1 ≤ p) (hc : 1 ≤ c) (hl : l.length = c * p) (h24 : l.length ≤ 24) (hB : Bdl 8 l) {j : Nat} (hj : j < p) :
    fin .f32 (sea (rsts l p) p j) = true ∧ -(8704 * wq) ≤ vl .f32 (sea (rsts l p) p j) ∧ vl .f32 (sea (rsts l p) p j) ≤ 8704 * wq := by
  have hw := wq_pos
  have hB32 : Bdl 32 l := fun y hy => by have := hB y hy; exact ⟨this.1, by omega, by omega⟩
  have hR := rsts_bd hp hc hl h24 hB
  have hRl : (rsts l p).length = c * p := by rw [rsts_len, hl]
  obtain ⟨H, _⟩ := sea_ok hp hc hl h24 hB32
  obtain ⟨H', _⟩ := sea_ok hp hc hRl (by rw [rsts_len]; exact h24) hR
  have hcl : 1 ≤ l.length := by rw [hl]; exact Nat.mul_pos hc hp
  obtain ⟨_, m1, m2⟩ := mean_err hB32 hcl h24
  obtain ⟨_, n1, n2⟩ := mean_err hR (by rw [rsts_len]; exact hcl) (by rw [rsts_len]; exact h24)
  obtain ⟨a1, a2⟩ := sum_sea hp hc hl h24 hB32
  have hcs : ∀ j, j < p → -((c : Int) * (128 * wq)) ≤ cs (Fl (rsts l p)) p c j - (cs (Fl l) p c j - (c : Int) * vl .f32 (sea l p j)) ∧ cs (Fl (rsts l p)) p c j - (cs (Fl l) p c j - (c : Int) * vl .f32 (sea l p j)) ≤ (c : Int) * (128 * wq) := fun j hj => cs_diff c j fun k hk => by
    have hlt : j + k * p < l.length := by
      rw [hl]
      have : (k + 1) * p ≤ c * p := Nat.mul_le_mul_right _ hk
      rw [Nat.succ_mul] at this
      omega
    obtain ⟨_, r, _⟩ := rst_ok hp hc hl h24 hB hlt
    rw [show (j + k * p) % p = j by rw [Nat.add_mul_mod_self_right, Nat.mod_eq_of_lt hj]] at r
    have e : Fl (rsts l p) (j + k * p) = vl .f32 (rst l p (j + k * p)) := by unfold Fl; rw [rsts_get l p hlt]
    rw [e]; exact r
  obtain ⟨s1, s2⟩ := rs_le (F := fun j => cs (Fl (rsts l p)) p c j - (cs (Fl l) p c j - (c : Int) * vl .f32 (sea l p j))) (E := (c : Int) * (128 * wq)) p 0 (fun i _ hi => hcs i ω2)
  rw [rs_minus, rs_minus, rs_mul, cs_rs, cs_rs] at s1 s2
  rw [sumv_rs, hl] at m1 m2
  rw [sumv_rs, hRl] at n1 n2
  obtain ⟨u1, u2⟩ := H'.near j hj
  obtain ⟨v1, v2⟩ := H.near j hj
  obtain ⟨w1, w2⟩ := hcs j hj
  refine ⟨H'.fin j hj, ?_⟩
  generalize rs (fun j => vl .f32 (sea l p j)) p 0 = A at *
  generalize rs (Fl l) (c * p) 0 = S at *
  generalize rs (Fl (rsts l p)) (c * p) 0 = S' at *
  generalize vl .f32 (p_impl_mean l) = m at *
  generalize vl .f32 (p_impl_mean (rsts l p)) = m' at *
  generalize vl .f32 (sea (rsts l p) p j) = X at *
  generalize vl .f32 (sea l p j) = Y at *
  have e : ((c * p : Nat) : Int) = (p : Int) * (c : Int) := by rw [Int.natCast_mul, Int.mul_comm]
  rw [e] at m1 m2 n1 n2
  have ca1 := Int.mul_le_mul_of_nonneg_left a1 (show (0 : Int) ≤ (c : Int) by omega)
  have ca2 := Int.mul_le_mul_of_nonneg_left a2 (show (0 : Int) ≤ (c : Int) by omega)
  -- the two means
  have hmm : -((c : Int) * (5504 * wq)) ≤ (c : Int) * m - (c : Int) * m' ∧ (c : Int) * m - (c : Int) * m' ≤ (c : Int) * (5504 * wq) := by
    simp only [Int.mul_assoc, Int.mul_neg, Int.mul_left_comm (c : Int)] at *
    simp only [Int.mul_left_comm (p : Int) 1536, Int.mul_left_comm (p : Int) 2816, Int.mul_left_comm (p : Int) 1280, Int.mul_left_comm (p : Int) 128] at *
    constructor
    · apply le_of_count hp
      simp only [Int.mul_sub, Int.mul_neg, Int.mul_left_comm (p : Int) 5504]
      omega
    · apply le_of_count hp
      simp only [Int.mul_sub, Int.mul_neg, Int.mul_left_comm (p : Int) 5504]
      omega
  obtain ⟨h1, h2⟩ := hmm
  simp only [Int.mul_assoc, Int.mul_left_comm (c : Int)] at u1 u2 v1 v2 w1 w2 h1 h2
  constructor
  · apply le_of_count hc
    simp only [Int.mul_neg, Int.mul_left_comm (c : Int)]
    omega
  · apply le_of_count hc
    simp only [Int.mul_left_comm (c : Int)]
    omega
theorem fmin_sv {k : FloatKind} {x y : Nat} (hx : fin k x = true) (hy : fin k y = true) : (fmin k x y = x ∨ fmin k x y = y) ∧ sv k (fmin k x y) ≤ sv k x ∧ sv k (fmin k x y) ≤ sv k y := by
  have ho := order_fin hx hy
  unfold fmin
  rw [ho]
  cases hc : compare (sv k x) (sv k y) with
  | lt => have := Int.compare_eq_lt.1 hc; exact ⟨.inl rfl, Int.le_refl _, by simp only []; omega⟩
  | gt => have := Int.compare_eq_gt.1 hc; exact ⟨.inr rfl, by simp only []; omega, Int.le_refl _⟩
  | eq =>
    have := Int.compare_eq_eq.1 hc
    simp only []
    split
    · exact ⟨.inl rfl, Int.le_refl _, by omega⟩
    · exact ⟨.inr rfl, by omega, Int.le_refl _⟩
theorem fmax_sv {k : FloatKind} {x y : Nat} (hx : fin k x = true) (hy : fin k y = true) : (fmax k x y = x ∨ fmax k x y = y) ∧ sv k x ≤ sv k (fmax k x y) ∧ sv k y ≤ sv k (fmax k x y) := by
  have ho := order_fin hx hy
  unfold fmax
  rw [ho]
  cases hc : compare (sv k x) (sv k y) with
  | lt => have := Int.compare_eq_lt.1 hc; exact ⟨.inr rfl, by simp only []; omega, Int.le_refl _⟩
  | gt => have := Int.compare_eq_gt.1 hc; exact ⟨.inl rfl, Int.le_refl _, by simp only []; omega⟩
  | eq =>
    have := Int.compare_eq_eq.1 hc
    simp only []
    split
    · exact ⟨.inr rfl, by omega, Int.le_refl _⟩
    · exact ⟨.inl rfl, Int.le_refl _, by omega⟩
def expw (t at_ wide : Nat) : Nat := p_impl_ExpNumber (fmul .f32 (fmul .f32 3204448256 (fdiv .f32 (fsub .f32 t at_) wide)) (fdiv .f32 (fsub .f32 t at_) wide))
theorem quart_vl {y : Nat} {c : Int} (h : sv .f32 y = c * 2 ^ 147) : vl .f32 y = c * (4194304 * wq) := by
  show sv .f32 y * pw 925 = _
  have e2 : (4194304 : Int) * wq = pw 147 * pw 925 := by
    unfold wq
    rw [show (4194304 : Int) = pw 22 by decide, ← pw_add, ← pw_add]
  rw [h, e2, ← Int.mul_assoc]
  rfl
structure KernOk (ts vs : List Nat) (at_ wide : Nat) (w : Nat → Nat) (c : Nat → Int) (n : Nat) : Prop where
  lt : ts.length = n
  n7 : n ≤ 7
  ew : ∀ k, k < n → expw (ts.getD k 0) at_ wide = w k
  fw : ∀ k, k < n → fin .f32 (w k) = true ∧ 0 ≤ vl .f32 (w k) ∧ vl .f32 (w k) ≤ 2 * 16777216 * wq
  fv : ∀ k, k < n → fin .f32 (vs.getD k 0) = true ∧ sv .f32 (vs.getD k 0) = c k * 2 ^ 147 ∧ -56 ≤ c k ∧ c k ≤ 56
theorem rs_snoc (F : Nat → Int) (n : Nat) : rs F (n + 1) 0 = rs F n 0 + F n := by
  rw [rs_add]; simp [rs]
theorem kern_go {ts vs : List Nat} {at_ wide : Nat} {w : Nat → Nat} {c : Nat → Int} {n : Nat} (K : KernOk ts vs at_ wide w c n) : ∀ (μ s a i : Nat), i ≤ n → n - i < μ → fin .f32 s = true → fin .f32 a = true →
    -((i : Int) * (1152 * wq)) ≤ 4 * vl .f32 s - rs (fun k => c k * vl .f32 (w k)) i 0 → 4 * vl .f32 s - rs (fun k => c k * vl .f32 (w k)) i 0 ≤ (i : Int) * (1152 * wq) →
    -((i : Int) * (16 * wq)) ≤ vl .f32 a - rs (fun k => vl .f32 (w k)) i 0 → vl .f32 a - rs (fun k => vl .f32 (w k)) i 0 ≤ (i : Int) * (16 * wq) →
    ∃ s' a' : Nat, p_impl_KernelMean_l1 ts vs at_ wide μ s a (i : Int) = (bif !(flt .f32 0 a') then (0, false) else ((p_impl_finite (fdiv .f32 s' a')).1, (p_impl_finite (fdiv .f32 s' a')).2)) ∧ fin .f32 s' = true ∧ fin .f32 a' = true ∧
      (-((n : Int) * (1152 * wq)) ≤ 4 * vl .f32 s' - rs (fun k => c k * vl .f32 (w k)) n 0 ∧ 4 * vl .f32 s' - rs (fun k => c k * vl .f32 (w k)) n 0 ≤ (n : Int) * (1152 * wq)) ∧
      (-((n : Int) * (16 * wq)) ≤ vl .f32 a' - rs (fun k => vl .f32 (w k)) n 0 ∧ vl .f32 a' - rs (fun k => vl .f32 (w k)) n 0 ≤ (n : Int) * (16 * wq)) := by
  have hw := wq_pos
  have n7 := K.n7
  intro μ
  induction μ with
  | zero => intro s a i _ h; omega
  | succ μ ih =>
    intro s a i hi hm fs fa h1 h2 h3 h4
    rw [p_impl_KernelMean_l1_s, K.lt]
    by_cases hc : i < n
    · rw [decide_eq_true (show (i : Int) < (n : Int) by omega), cond_true, Int.toNat_natCast]
      have ew := K.ew i hc
      unfold expw at ew
      rw [ew]
      obtain ⟨f1, w1, w2⟩ := K.fw i hc
      obtain ⟨f2, v1, v2, v3⟩ := K.fv i hc
      -- sizes
      have pc : -(112 * 16777216 * wq) ≤ c i * vl .f32 (w i) ∧ c i * vl .f32 (w i) ≤ 112 * 16777216 * wq := by
        have a1 := Int.mul_le_mul_of_nonneg_right v2 w1
        have a2 := Int.mul_le_mul_of_nonneg_right v3 w1
        omega
      have hP : -((i : Int) * (112 * 16777216 * wq)) ≤ rs (fun k => c k * vl .f32 (w k)) i 0 ∧ rs (fun k => c k * vl .f32 (w k)) i 0 ≤ (i : Int) * (112 * 16777216 * wq) := rs_le i 0 fun k _ hk => by
        obtain ⟨_, x1, x2⟩ := K.fw k ω2
        obtain ⟨_, _, y2, y3⟩ := K.fv k ω2
        have a1 := Int.mul_le_mul_of_nonneg_right y2 x1
        have a2 := Int.mul_le_mul_of_nonneg_right y3 x1
        omega
      have hS : -((i : Int) * (2 * 16777216 * wq)) ≤ rs (fun k => vl .f32 (w k)) i 0 ∧ rs (fun k => vl .f32 (w k)) i 0 ≤ (i : Int) * (2 * 16777216 * wq) := rs_le i 0 fun k _ hk => by
        obtain ⟨_, x1, x2⟩ := K.fw k ω2; omega
      have u1 : (i : Int) * (112 * 16777216 * wq) ≤ 6 * (112 * 16777216 * wq) := Int.mul_le_mul_of_nonneg_right ω2 ω2
      have u2 : (i : Int) * (2 * 16777216 * wq) ≤ 6 * (2 * 16777216 * wq) := Int.mul_le_mul_of_nonneg_right ω2 ω2
      have u3 : (i : Int) * (1152 * wq) ≤ 6 * (1152 * wq) := Int.mul_le_mul_of_nonneg_right ω2 ω2
      have u4 : (i : Int) * (16 * wq) ≤ 6 * (16 * wq) := Int.mul_le_mul_of_nonneg_right ω2 ω2
      obtain ⟨f3, m1, m2⟩ := vmulq 5 (A := 32) ω7 ω7 f1 f2 v1 ω2 ω2
      obtain ⟨f4, s1, s2⟩ := vadd (k := .f32) 8 (A := 256) ω7 ω7 fs f3 ω2 ω2
      obtain ⟨f5, t1, t2⟩ := vadd (k := .f32) 4 (A := 16) ω7 ω7 fa f1 ω2 ω2
      have e1 : ((i + 1 : Nat) : Int) * (1152 * wq) = (i : Int) * (1152 * wq) + 1152 * wq := by rw [Int.natCast_add, Int.add_mul]; simp
      have e2 : ((i + 1 : Nat) : Int) * (16 * wq) = (i : Int) * (16 * wq) + 16 * wq := by rw [Int.natCast_add, Int.add_mul]; simp
      exact ih _ _ (i + 1) ω2 ω2 f4 f5 (by rw [rs_snoc, e1]; omega) (by rw [rs_snoc, e1]; omega) (by rw [rs_snoc, e2]; omega) (by rw [rs_snoc, e2]; omega)
    · rw [decide_eq_false (show ¬ (i : Int) < (n : Int) by omega), cond_false]
      obtain rfl : i = n := by omega
      exact ⟨s, a, rfl, fs, fa, ⟨h1, h2⟩, h3, h4⟩
theorem fin_ok {x : Nat} (h : fin .f32 x = true) : p_impl_finite x = (x, true) := by
  have e : p_impl_IsFinite x = true := (fin_asked x).trans h
  unfold p_impl_finite
  rw [e]; rfl
theorem kern_ok {ts vs : List Nat} {at_ wide : Nat} {w : Nat → Nat} {c : Nat → Int} (K : KernOk ts vs at_ wide w c 7) (hl : ts.length = vs.length) (h1 : p_impl_isLong ts = true) (h2 : p_impl_isLong vs = true) (h3 : fin .f32 at_ = true) (h4 : p_impl_isOver wide = true)
    {k0 : Nat} (hk : k0 < 7) (hk0 : 8388608 * wq ≤ vl .f32 (w k0)) {cl ch : Int} (hcl : -56 ≤ cl) (hch : ch ≤ 56) (hc : ∀ k, k < 7 → cl ≤ c k ∧ c k ≤ ch) :
    ∃ z : Nat, p_impl_KernelMean ts vs at_ wide = (z, true) ∧ fin .f32 z = true ∧ cl * (4194304 * wq) - 8000 * wq ≤ vl .f32 z ∧ vl .f32 z ≤ ch * (4194304 * wq) + 8000 * wq := by
  have hw := wq_pos
  have e0 : vl .f32 0 = 0 := by simp [vl, sv_zero]
  obtain ⟨s, a, g0, fs, fa, ⟨s1, s2⟩, a1, a2⟩ := kern_go K (Int.toNat ((ts.length : Int) - 0) + 1) 0 0 0 ω2 (by rw [K.lt]; omega) (fin_zero _) (fin_zero _) (by rw [e0]; simp [rs]) (by rw [e0]; simp [rs]) (by rw [e0]; simp [rs]) (by rw [e0]; simp [rs])
  -- the sums
  have hge : 8388608 * wq ≤ rs (fun k => vl .f32 (w k)) 7 0 := by
    have p : ∀ k, k < 7 → 0 ≤ vl .f32 (w k) := fun k hk => (K.fw k hk).2.1
    have q0 := p 0 ω7; have q1 := p 1 ω7; have q2 := p 2 ω7; have q3 := p 3 ω7; have q4 := p 4 ω7; have q5 := p 5 ω7; have q6 := p 6 ω7
    simp only [rs, Nat.zero_add, Nat.reduceAdd]
    match k0, hk with
    | 0, _ => omega
    | 1, _ => omega
    | 2, _ => omega
    | 3, _ => omega
    | 4, _ => omega
    | 5, _ => omega
    | 6, _ => omega
  have hle : rs (fun k => vl .f32 (w k)) 7 0 ≤ 7 * (2 * 16777216 * wq) := (rs_le (F := fun k => vl .f32 (w k)) 7 0 fun k _ hk => by
    obtain ⟨_, x1, x2⟩ := K.fw k ω2; omega).2
  have hP : cl * rs (fun k => vl .f32 (w k)) 7 0 ≤ rs (fun k => c k * vl .f32 (w k)) 7 0 ∧ rs (fun k => c k * vl .f32 (w k)) 7 0 ≤ ch * rs (fun k => vl .f32 (w k)) 7 0 := by
    have go : ∀ n, n ≤ 7 → cl * rs (fun k => vl .f32 (w k)) n 0 ≤ rs (fun k => c k * vl .f32 (w k)) n 0 ∧ rs (fun k => c k * vl .f32 (w k)) n 0 ≤ ch * rs (fun k => vl .f32 (w k)) n 0 := by
      intro n
      induction n with
      | zero => intro _; simp [rs]
      | succ n ih =>
        intro hn
        obtain ⟨i1, i2⟩ := ih ω2
        obtain ⟨c1, c2⟩ := hc n ω2
        have x1 := (K.fw n ω2).2.1
        have y1 := Int.mul_le_mul_of_nonneg_right c1 x1
        have y2 := Int.mul_le_mul_of_nonneg_right c2 x1
        rw [rs_snoc, rs_snoc, Int.mul_add, Int.mul_add]
        omega
    exact go 7 ω7
  generalize rs (fun k => vl .f32 (w k)) 7 0 = S at *
  generalize rs (fun k => c k * vl .f32 (w k)) 7 0 = P at *
  have cd : cl ≤ ch := Int.le_trans (hc 0 ω7).1 (hc 0 ω7).2
  have ha0 : 8388608 * wq - 112 * wq ≤ vl .f32 a := by omega
  -- cl * S against cl * a
  have d1 : cl * vl .f32 a - 6272 * wq ≤ cl * S := by
    have t : (cl + 56) * (S - vl .f32 a + 112 * wq) ≥ 0 := Int.mul_nonneg ω2 ω2
    have t2 : (56 - cl) * (vl .f32 a - S + 112 * wq) ≥ 0 := Int.mul_nonneg ω2 ω2
    rw [Int.add_mul, Int.mul_add, Int.mul_sub, Int.mul_add, Int.mul_sub] at t
    rw [Int.sub_mul, Int.mul_add, Int.mul_sub, Int.mul_add, Int.mul_sub] at t2
    omega
  have d2 : ch * S ≤ ch * vl .f32 a + 6272 * wq := by
    have t : (ch + 56) * (vl .f32 a - S + 112 * wq) ≥ 0 := Int.mul_nonneg ω2 ω2
    have t2 : (56 - ch) * (S - vl .f32 a + 112 * wq) ≥ 0 := Int.mul_nonneg ω2 ω2
    rw [Int.add_mul, Int.mul_add, Int.mul_sub, Int.mul_add, Int.mul_sub] at t
    rw [Int.sub_mul, Int.mul_add, Int.mul_sub, Int.mul_add, Int.mul_sub] at t2
    omega
  have b1 : cl * vl .f32 a - 14336 * wq ≤ 4 * vl .f32 s := by omega
  have b2 : 4 * vl .f32 s ≤ ch * vl .f32 a + 14336 * wq := by omega
  have c56a : -(56 * vl .f32 a) ≤ cl * vl .f32 a := by
    have := Int.mul_le_mul_of_nonneg_right hcl (show 0 ≤ vl .f32 a by omega); omega
  have c56b : ch * vl .f32 a ≤ 56 * vl .f32 a := Int.mul_le_mul_of_nonneg_right hch (show 0 ≤ vl .f32 a by omega)
  obtain ⟨fz, z1, z2⟩ := vdiv 6 (A := 64) ω7 ω7 fs fa ω2 ω2 ω2
  refine ⟨fdiv .f32 s a, ?_, fz, ?_, ?_⟩
  · rw [p_impl_KernelMean_eq, h1, h2, hl, h4, show p_impl_IsFinite at_ = true from (fin_asked at_).trans h3]
    simp only [Bool.not_true, cond_false, bne_self_eq_false]
    rw [← hl]
    refine g0.trans ?_
    have hlt : flt .f32 0 a = true := by
      rw [flt_fin (fin_zero _) fa, sv_zero]
      refine decide_eq_true ?_
      have hp := pw_pos 925
      have hv : 0 < vl .f32 a := by omega
      simp only [vl] at hv
      rcases Int.lt_trichotomy (sv .f32 a) 0 with h | h | h
      · have := Int.mul_neg_of_neg_of_pos h hp; omega
      · rw [h, Int.zero_mul] at hv; omega
      · exact h
    rw [hlt, fin_ok fz]; rfl
  · generalize vl .f32 (fdiv .f32 s a) = z at *
    generalize vl .f32 s = s0 at *
    generalize vl .f32 a = A at *
    refine Int.not_lt.1 fun hlt => ?_
    have m1 := Int.mul_le_mul_of_nonneg_right (show z ≤ cl * (4194304 * wq) - 8000 * wq by omega) (show 0 ≤ A by omega)
    have m2 := Int.mul_le_mul_of_nonneg_right b1 (show 0 ≤ 4194304 * wq by omega)
    have m3 := Int.mul_le_mul_of_nonneg_left ha0 (show 0 ≤ wq by omega)
    have m4 : 0 < wq * wq := Int.mul_pos hw hw
    have n1 : (cl * (4194304 * wq) - 8000 * wq) * A = 4194304 * (cl * A * wq) - 8000 * (wq * A) := by
      rw [Int.sub_mul]; simp only [Int.mul_assoc, Int.mul_comm, Int.mul_left_comm]
    have n2 : (cl * A - 14336 * wq) * (4194304 * wq) = 4194304 * (cl * A * wq) - 14336 * 4194304 * (wq * wq) := by
      rw [Int.sub_mul]; simp only [Int.mul_assoc, Int.mul_comm, Int.mul_left_comm]
    have n3 : 4 * s0 * (4194304 * wq) = s0 * (16777216 * wq) := by
      rw [show (16777216 : Int) = 4 * 4194304 by decide, Int.mul_assoc 4 4194304 wq, Int.mul_left_comm s0 4, Int.mul_assoc 4 s0]
    have n4 : 2 * (64 * wq) * A = 128 * (wq * A) := by rw [Int.mul_assoc, Int.mul_assoc]; omega
    have n5 : wq * (8388608 * wq - 112 * wq) = 8388496 * (wq * wq) := by rw [← Int.sub_mul, Int.mul_left_comm]; rfl
    rw [n1] at m1
    rw [n2, n3] at m2
    rw [n4] at z1
    rw [n5] at m3
    omega
  · generalize vl .f32 (fdiv .f32 s a) = z at *
    generalize vl .f32 s = s0 at *
    generalize vl .f32 a = A at *
    refine Int.not_lt.1 fun hlt => ?_
    have m1 := Int.mul_le_mul_of_nonneg_right (show ch * (4194304 * wq) + 8000 * wq ≤ z by omega) (show 0 ≤ A by omega)
    have m2 := Int.mul_le_mul_of_nonneg_right b2 (show 0 ≤ 4194304 * wq by omega)
    have m3 := Int.mul_le_mul_of_nonneg_left ha0 (show 0 ≤ wq by omega)
    have m4 : 0 < wq * wq := Int.mul_pos hw hw
    have n1 : (ch * (4194304 * wq) + 8000 * wq) * A = 4194304 * (ch * A * wq) + 8000 * (wq * A) := by
      rw [Int.add_mul]; simp only [Int.mul_assoc, Int.mul_comm, Int.mul_left_comm]
    have n2 : (ch * A + 14336 * wq) * (4194304 * wq) = 4194304 * (ch * A * wq) + 14336 * 4194304 * (wq * wq) := by
      rw [Int.add_mul]; simp only [Int.mul_assoc, Int.mul_comm, Int.mul_left_comm]
    have n3 : 4 * s0 * (4194304 * wq) = s0 * (16777216 * wq) := by
      rw [show (16777216 : Int) = 4 * 4194304 by decide, Int.mul_assoc 4 4194304 wq, Int.mul_left_comm s0 4, Int.mul_assoc 4 s0]
    have n4 : 2 * (64 * wq) * A = 128 * (wq * A) := by rw [Int.mul_assoc, Int.mul_assoc]; omega
    have n5 : wq * (8388608 * wq - 112 * wq) = 8388496 * (wq * wq) := by rw [← Int.sub_mul, Int.mul_left_comm]; rfl
    rw [n1] at m1
    rw [n2, n3] at m2
    rw [n4] at z2
    rw [n5] at m3
    omega
theorem seas_n (l : List UInt8) : 1 ≤ IntKind.wrap .i64 (1 + p_laws_b10At l 0 5) ∧ IntKind.wrap .i64 (1 + p_laws_b10At l 0 5) ≤ 5 ∧ 1 ≤ IntKind.wrap .i64 (IntKind.wrap .i64 (1 + p_laws_b10At l 0 5) * IntKind.wrap .i64 (1 + p_laws_b10At l 1 4)) ∧ IntKind.wrap .i64 (IntKind.wrap .i64 (1 + p_laws_b10At l 0 5) * IntKind.wrap .i64 (1 + p_laws_b10At l 1 4)) ≤ 20 := by
  have h1 := laws_b10At_rng l 0 5 ω7 ω7
  have h2 := laws_b10At_rng l 1 4 ω7 ω7
  rw [wrap64 (n := 1 + p_laws_b10At l 0 5) ω2 ω2, wrap64 (n := 1 + p_laws_b10At l 1 4) ω2 ω2]
  generalize p_laws_b10At l 0 5 = a at *
  generalize p_laws_b10At l 1 4 = b at *
  have e1 : (1 + a) * 1 ≤ (1 + a) * (1 + b) := Int.mul_le_mul_of_nonneg_left ω2 ω2
  have e2 : (1 + a) * (1 + b) ≤ 5 * 4 := Int.mul_le_mul ω2 ω2 ω2 ω2
  rw [wrap64 ω2 ω2]
  omega
def qq (a : Nat) : Nat := fdiv .f32 (FloatKind.nearest .f32 ((a : Int) - 8)) 1082130432
def lineOf (a b : Nat) : List Nat := (List.range 7).map fun (k : Nat) => fadd .f32 (fmul .f32 (qq a) (FloatKind.nearest .f32 (k : Int))) (qq b)
def timesOf : List Nat := (List.range 7).map fun (k : Nat) => FloatKind.nearest .f32 (k : Int)
theorem tab_trend : ∀ a : Nat, a < 17 → ∀ b : Nat, b < 17 → ((p_impl_TrendOf (lineOf a b)).2.2 && flt .f64 (p_laws_b10Gap (fwide (p_impl_TrendOf (lineOf a b)).1) (fwide (qq a))) 4562254508917369340 && flt .f64 (p_laws_b10Gap (fwide (p_impl_TrendOf (lineOf a b)).2.1) (fwide (qq b))) 4562254508917369340) = true := by decide +kernel
theorem tab_q : ∀ b : Nat, b < 17 → fin .f32 (qq b) = true ∧ sv .f32 (qq b) = ((b : Int) - 8) * 2 ^ 147 := by decide +kernel
theorem tab_m : ∀ a : Nat, a < 17 → ∀ k : Nat, k < 7 → fin .f32 (fmul .f32 (qq a) (FloatKind.nearest .f32 (k : Int))) = true ∧ sv .f32 (fmul .f32 (qq a) (FloatKind.nearest .f32 (k : Int))) = ((a : Int) - 8) * (k : Int) * 2 ^ 147 := by decide +kernel
theorem tab_sub : ∀ k : Nat, k < 7 → ∀ a : Nat, a < 13 → fsub .f32 (FloatKind.nearest .f32 (k : Int)) (fdiv .f32 (FloatKind.nearest .f32 (a : Int)) 1073741824) = fdiv .f32 (FloatKind.nearest .f32 (((2 * k + 12 - a : Nat) : Int) - 12)) 1073741824 := by decide +kernel
theorem tab_at : ∀ a : Nat, a < 13 → fin .f32 (fdiv .f32 (FloatKind.nearest .f32 (a : Int)) 1073741824) = true := by decide +kernel
theorem tab_wide : ∀ w : Nat, w < 4 → p_impl_isOver (fdiv .f32 (FloatKind.nearest .f32 ((w : Int) + 1)) 1073741824) = true := by decide +kernel
def uu (d w : Nat) : Nat := fdiv .f32 (fdiv .f32 (FloatKind.nearest .f32 ((d : Int) - 12)) 1073741824) (fdiv .f32 (FloatKind.nearest .f32 ((w : Int) + 1)) 1073741824)
def ee (d w : Nat) : Nat := p_impl_ExpNumber (fmul .f32 (fmul .f32 3204448256 (uu d w)) (uu d w))
theorem tab_exp : ∀ d : Nat, d < 25 → ∀ w : Nat, w < 4 → (fun x : Nat => decide (fin .f32 x = true ∧ 0 ≤ sv .f32 x ∧ sv .f32 x ≤ 2 ^ 150 ∧ (d < 11 ∨ 13 < d ∨ 2 ^ 148 ≤ sv .f32 x))) (ee d w) = true := by decide +kernel
theorem line_get {a b : Nat} (ha : a < 17) (hb : b < 17) {k : Nat} (hk : k < 7) : fin .f32 ((lineOf a b).getD k 0) = true ∧ sv .f32 ((lineOf a b).getD k 0) = (((a : Int) - 8) * (k : Int) + ((b : Int) - 8)) * 2 ^ 147 := by
  have e : (lineOf a b).getD k 0 = fadd .f32 (fmul .f32 (qq a) (FloatKind.nearest .f32 (k : Int))) (qq b) := by
    unfold lineOf
    rw [List.getD_eq_getElem?_getD, List.getElem?_map, List.getElem?_range hk]; rfl
  rw [e]
  obtain ⟨m1, m2⟩ := tab_m a ha k hk
  obtain ⟨q1, q2⟩ := tab_q b hb
  have hs : sv .f32 (fmul .f32 (qq a) (FloatKind.nearest .f32 (k : Int))) + sv .f32 (qq b) = (((a : Int) - 8) * (k : Int) + ((b : Int) - 8)) * 2 ^ 147 := by rw [m2, q2, Int.add_mul]
  have hb : -56 ≤ ((a : Int) - 8) * (k : Int) + ((b : Int) - 8) ∧ ((a : Int) - 8) * (k : Int) + ((b : Int) - 8) ≤ 56 := by
    have x1 := Int.mul_le_mul_of_nonneg_right (show (-8 : Int) ≤ (a : Int) - 8 by omega) (show (0 : Int) ≤ (k : Int) by omega)
    have x2 := Int.mul_le_mul_of_nonneg_right (show (a : Int) - 8 ≤ 8 by omega) (show (0 : Int) ≤ (k : Int) by omega)
    omega
  obtain ⟨f1, f2⟩ := add_exact m1 q1 (T := 147) (top_32 ω7) hs (by show _ ≤ 2 * 8388608; omega)
  exact ⟨f1, f2.trans hs⟩
theorem timesOf_get {k : Nat} (hk : k < 7) : timesOf.getD k 0 = FloatKind.nearest .f32 (k : Int) := by
  unfold timesOf
  rw [List.getD_eq_getElem?_getD, List.getElem?_map, List.getElem?_range hk]; rfl
theorem mean_between {a b t w : Nat} (ha : a < 17) (hb : b < 17) (ht : t < 13) (hw : w < 4) : ∃ z, p_impl_KernelMean timesOf (lineOf a b) (fdiv .f32 (FloatKind.nearest .f32 (t : Int)) 1073741824) (fdiv .f32 (FloatKind.nearest .f32 ((w : Int) + 1)) 1073741824) = (z, true) ∧
    fle .f64 (fsub .f64 (fwide (fmin .f32 ((lineOf a b).getD 0 0) ((lineOf a b).getD 6 0))) 4562254508917369340) (fwide z) = true ∧ fle .f64 (fwide z) (fadd .f64 (fwide (fmax .f32 ((lineOf a b).getD 0 0) ((lineOf a b).getD 6 0))) 4562254508917369340) = true := by
  have hq := wq_pos
  have hp := pw_pos 925
  have tl : timesOf.length = 7 := by simp [timesOf]
  have ll : (lineOf a b).length = 7 := by simp [lineOf]
  have allt : ∀ y ∈ timesOf, fin .f32 y = true := fun y hy => by
    obtain ⟨k, hk, rfl⟩ := List.mem_map.1 hy
    exact (fin_of_nearest .f32 (by have := List.mem_range.1 hk; omega)).1
  have alll : ∀ y ∈ lineOf a b, fin .f32 y = true := fun y hy => by
    obtain ⟨k, hk, e⟩ := List.getElem_of_mem hy
    have := (line_get ha hb (k := k) ω2).1
    rw [List.getD_eq_getElem?_getD, List.getElem?_eq_getElem hk] at this
    rw [← e]; exact this
  have tabw : ∀ k, k < 7 → fin .f32 (ee (2 * k + 12 - t) w) = true ∧ 0 ≤ vl .f32 (ee (2 * k + 12 - t) w) ∧ vl .f32 (ee (2 * k + 12 - t) w) ≤ 2 * 16777216 * wq ∧ (t ≤ 2 * k + 1 → 2 * k ≤ t + 1 → 8388608 * wq ≤ vl .f32 (ee (2 * k + 12 - t) w)) := fun k hk => by
    have := tab_exp (2 * k + 12 - t) ω2 w hw
    obtain ⟨f, h0, h1, h2⟩ := of_decide_eq_true this
    refine ⟨f, Int.mul_nonneg h0 ω2, ?_, fun c1 c2 => ?_⟩
    · have e : 2 * 16777216 * wq = 2 ^ 150 * pw 925 := by
        unfold wq
        rw [show (2 * 16777216 : Int) = pw 25 by decide, ← pw_add, show (2 : Int) ^ 150 = pw 150 from rfl, ← pw_add]
      rw [e]; exact Int.mul_le_mul_of_nonneg_right h1 ω2
    · have e : 8388608 * wq = 2 ^ 148 * pw 925 := by
        unfold wq
        rw [show (8388608 : Int) = pw 23 by decide, ← pw_add, show (2 : Int) ^ 148 = pw 148 from rfl, ← pw_add]
      rw [e]; exact Int.mul_le_mul_of_nonneg_right ω2 ω2
  have K : KernOk timesOf (lineOf a b) (fdiv .f32 (FloatKind.nearest .f32 (t : Int)) 1073741824) (fdiv .f32 (FloatKind.nearest .f32 ((w : Int) + 1)) 1073741824) (fun k => ee (2 * k + 12 - t) w) (fun k => ((a : Int) - 8) * (k : Int) + ((b : Int) - 8)) 7 := {
    lt := tl
    n7 := by decide
    ew := fun k hk => by unfold expw ee uu; rw [timesOf_get hk, tab_sub k hk t ht]
    fw := fun k hk => ⟨(tabw k hk).1, (tabw k hk).2.1, (tabw k hk).2.2.1⟩
    fv := fun k hk => by
      obtain ⟨l1, l2⟩ := line_get ha hb hk
      have x1 := Int.mul_le_mul_of_nonneg_right (show (-8 : Int) ≤ (a : Int) - 8 by omega) (show (0 : Int) ≤ (k : Int) by omega)
      have x2 := Int.mul_le_mul_of_nonneg_right (show (a : Int) - 8 ≤ 8 by omega) (show (0 : Int) ≤ (k : Int) by omega)
      exact ⟨l1, l2, by omega, by omega⟩ }
  obtain ⟨l0f, l0s⟩ := line_get ha hb (k := 0) ω7
  obtain ⟨l6f, l6s⟩ := line_get ha hb (k := 6) ω7
  obtain ⟨m1, m2, m3⟩ := fmin_sv l0f l6f
  obtain ⟨x1, x2, x3⟩ := fmax_sv l0f l6f
  obtain ⟨cl, hcl⟩ : ∃ cl : Int, sv .f32 (fmin .f32 ((lineOf a b).getD 0 0) ((lineOf a b).getD 6 0)) = cl * 2 ^ 147 := m1.elim (fun e => ⟨_, (congrArg (sv .f32) e).trans l0s⟩) (fun e => ⟨_, (congrArg (sv .f32) e).trans l6s⟩)
  obtain ⟨ch, hch⟩ : ∃ ch : Int, sv .f32 (fmax .f32 ((lineOf a b).getD 0 0) ((lineOf a b).getD 6 0)) = ch * 2 ^ 147 := x1.elim (fun e => ⟨_, (congrArg (sv .f32) e).trans l0s⟩) (fun e => ⟨_, (congrArg (sv .f32) e).trans l6s⟩)
  have fmn : fin .f32 (fmin .f32 ((lineOf a b).getD 0 0) ((lineOf a b).getD 6 0)) = true := by rcases m1 with e | e <;> rw [e] <;> assumption
  have fmx : fin .f32 (fmax .f32 ((lineOf a b).getD 0 0) ((lineOf a b).getD 6 0)) = true := by rcases x1 with e | e <;> rw [e] <;> assumption
  have h147 : (0 : Int) < 2 ^ 147 := Int.pow_pos ω7
  rw [hcl, l0s] at m2
  rw [hcl, l6s] at m3
  rw [hch, l0s] at x2
  rw [hch, l6s] at x3
  have q0 := Int.le_of_mul_le_mul_right m2 h147
  have q6 := Int.le_of_mul_le_mul_right m3 h147
  have r0 := Int.le_of_mul_le_mul_right x2 h147
  have r6 := Int.le_of_mul_le_mul_right x3 h147
  have hin : ∀ k : Nat, k < 7 → cl ≤ ((a : Int) - 8) * (k : Int) + ((b : Int) - 8) ∧ ((a : Int) - 8) * (k : Int) + ((b : Int) - 8) ≤ ch := fun k hk => by
    match k, hk with
    | 0, _ => exact ⟨by omega, by omega⟩
    | 1, _ => exact ⟨by omega, by omega⟩
    | 2, _ => exact ⟨by omega, by omega⟩
    | 3, _ => exact ⟨by omega, by omega⟩
    | 4, _ => exact ⟨by omega, by omega⟩
    | 5, _ => exact ⟨by omega, by omega⟩
    | 6, _ => exact ⟨by omega, by omega⟩
  have cl56 : -56 ≤ cl ∧ cl ≤ 56 ∧ -56 ≤ ch ∧ ch ≤ 56 := by
    have e0 : ((a : Int) - 8) * ((0 : Nat) : Int) + ((b : Int) - 8) = (b : Int) - 8 := by simp
    have e6 : ((a : Int) - 8) * ((6 : Nat) : Int) + ((b : Int) - 8) = 6 * (a : Int) - 48 + ((b : Int) - 8) := by omega
    rcases m1 with e | e <;> rcases x1 with e' | e' <;> (rw [e] at hcl; rw [e'] at hch; (first | rw [l0s] at hcl | rw [l6s] at hcl); (first | rw [l0s] at hch | rw [l6s] at hch); have y1 := Int.eq_of_mul_eq_mul_right (Int.ne_of_gt h147) hcl; have y2 := Int.eq_of_mul_eq_mul_right (Int.ne_of_gt h147) hch; omega)
  obtain ⟨k0, hk0, c1, c2⟩ : ∃ k0, k0 < 7 ∧ t ≤ 2 * k0 + 1 ∧ 2 * k0 ≤ t + 1 := ⟨t / 2, by omega, by omega, by omega⟩
  obtain ⟨z, z1, z2, z3, z4⟩ := kern_ok K (by rw [tl, ll]) (isLong_t ω2 ω2 allt) (isLong_t ω2 ω2 alll) (tab_at t ht) (tab_wide w hw) hk0 ((tabw k0 hk0).2.2.2 c1 c2) cl56.1 cl56.2.2.2 hin
  refine ⟨z, z1, ?_, ?_⟩
  · obtain ⟨mf, ml⟩ := milli
    obtain ⟨w1, w2⟩ := vl_wide fmn
    obtain ⟨w3, w4⟩ := vl_wide z2
    have e := quart_vl hcl
    have mh := milli_up
    have b1 := Int.mul_le_mul_of_nonneg_right cl56.1 (show 0 ≤ 4194304 * wq by omega)
    have b2 := Int.mul_le_mul_of_nonneg_right cl56.2.1 (show 0 ≤ 4194304 * wq by omega)
    obtain ⟨g1, g2, g3⟩ := vsub (k := .f64) 4 (A := 16) ω7 ω7 w1 mf (by rw [w2, e]; omega) (by rw [w2, e]; omega)
    refine at_most w3 g1 ?_
    rw [w4]; rw [w2, e] at g3; omega
  · obtain ⟨mf, ml⟩ := milli
    obtain ⟨w1, w2⟩ := vl_wide fmx
    obtain ⟨w3, w4⟩ := vl_wide z2
    have e := quart_vl hch
    have mh := milli_up
    have b1 := Int.mul_le_mul_of_nonneg_right cl56.2.2.1 (show 0 ≤ 4194304 * wq by omega)
    have b2 := Int.mul_le_mul_of_nonneg_right cl56.2.2.2 (show 0 ≤ 4194304 * wq by omega)
    obtain ⟨g1, g2, g3⟩ := vadd (k := .f64) 4 (A := 16) ω7 ω7 w1 mf (by rw [w2, e]; omega) (by rw [w2, e]; omega)
    refine at_most g1 w3 ?_
    rw [w4]; rw [w2, e] at g2; omega
theorem seas_get {l : List Nat} {p : Nat} {i : Nat} (hi : i < p) : ((List.range p).map (sea l p)).getD i 0 = sea l p i := by
  rw [List.getD_eq_getElem?_getD, List.getElem?_map, List.getElem?_range hi]; rfl
theorem chk1 {l : List Nat} {p c : Nat} (hp : 1 ≤ p) (hc : 1 ≤ c) (hl : l.length = c * p) (h24 : l.length ≤ 24) (hB : Bdl 8 l) {i : Nat} (hi : i < l.length) :
    flt .f64 4562254508917369340 (p_laws_b10Gap (fadd .f64 (fwide ((rsts l p).getD i 0)) (fwide (((List.range p).map (sea l p)).getD (Int.tmod (i : Int) (p : Int)).toNat 0))) (fwide (l.getD i 0))) = false := by
  have hw := wq_pos
  have hm : (Int.tmod (i : Int) (p : Int)).toNat = i % p := by rw [Int.tmod_eq_emod_of_nonneg ω2]; omega
  have hlt : i % p < p := Nat.mod_lt _ ω2
  rw [rsts_get l p hi, hm, seas_get hlt]
  have hB32 : Bdl 32 l := fun y hy => by have := hB y hy; exact ⟨this.1, by omega, by omega⟩
  obtain ⟨H, H2⟩ := sea_ok hp hc hl h24 hB32
  obtain ⟨q1, q2⟩ := H2 hB _ hlt
  obtain ⟨f1, ⟨r1, r2⟩, r3, r4⟩ := rst_ok hp hc hl h24 hB hi
  have hg : l.getD i 0 ∈ l := by rw [List.getD_eq_getElem?_getD, List.getElem?_eq_getElem hi]; exact List.getElem_mem hi
  obtain ⟨f3, b1, b2⟩ := hB _ hg
  obtain ⟨g1, e1⟩ := vl_wide f1
  obtain ⟨g2, e2⟩ := vl_wide (H.fin _ hlt)
  obtain ⟨g3, e3⟩ := vl_wide f3
  obtain ⟨g4, s1, s2⟩ := vadd (k := .f64) 6 (A := 64) ω7 ω7 g1 g2 (by rw [e1, e2]; omega) (by rw [e1, e2]; omega)
  rw [e1, e2] at s1 s2
  unfold Fl at r1 r2
  obtain ⟨mf, ml⟩ := milli
  obtain ⟨g5, t1, t2⟩ := gap64 g4 g3 (E := 192 * wq) ω2 (by rw [e3]; omega) (by rw [e3]; omega)
  exact not_above mf g5 ω2
theorem apart_go {A B : List Nat} {near : Nat} (h : ∀ i, i < A.length → fle .f64 (p_laws_b10Gap (fwide (A.getD i 0)) (fwide (B.getD i 0))) near = true) : ∀ (μ : Nat) (t : Bool) (i : Nat), A.length - i < μ → p_laws_b10Apart_l1 A B near μ t (i : Int) = false := by
  intro μ
  induction μ with
  | zero => intro t i h; omega
  | succ μ ih =>
    intro t i hm
    rw [p_laws_b10Apart_l1_s]
    by_cases hi : i < A.length
    · rw [decide_eq_true (show (i : Int) < (A.length : Int) by omega), cond_true, Int.toNat_natCast, h i hi]
      exact ih t (i + 1) ω2
    · rw [decide_eq_false (show ¬ (i : Int) < (A.length : Int) by omega), cond_false]
theorem apart_ok {A B : List Nat} {near : Nat} (hl : A.length = B.length) (h : ∀ i, i < A.length → fle .f64 (p_laws_b10Gap (fwide (A.getD i 0)) (fwide (B.getD i 0))) near = true) : p_laws_b10Apart A B near = false := by
  rw [p_laws_b10Apart_eq, hl]
  simp only [bne_self_eq_false, cond_false]
  rw [← hl]
  exact apart_go h _ _ 0 ω2
theorem chk3 {l : List Nat} {p c : Nat} (hp : 1 ≤ p) (hc : 1 ≤ c) (hl : l.length = c * p) (h24 : l.length ≤ 24) (hB : Bdl 8 l) :
    p_laws_b10Apart ((List.range p).map (sea (rsts l p) p)) (List.replicate ((p : Int)).toNat 0) 4576918229304087675 = false := by
  have hw := wq_pos
  refine apart_ok (by simp) fun i hi => ?_
  have hip : i < p := by simpa using hi
  obtain ⟨f, a1, a2⟩ := again_ok hp hc hl h24 hB hip
  rw [seas_get hip, show (List.replicate ((p : Int)).toNat 0).getD i 0 = 0 by rw [List.getD_eq_getElem?_getD, List.getElem?_replicate]; split <;> rfl]
  obtain ⟨g1, e1⟩ := vl_wide f
  obtain ⟨g2, e2⟩ := vl_wide (fin_zero .f32)
  have e0 : vl .f32 0 = 0 := by simp [vl, sv_zero]
  obtain ⟨cf, cl⟩ := centi
  obtain ⟨g5, t1, t2⟩ := gap64 g1 g2 (E := 8704 * wq) ω2 (by rw [e1, e2, e0]; omega) (by rw [e1, e2, e0]; omega)
  exact at_most cf g5 ω2
structure Drawn (l_code l_more : List UInt8) (l : List Nat) (p c a b t w : Nat) : Prop where
  per : IntKind.wrap .i64 (1 + p_laws_b10At l_more 0 5) = (p : Int)
  num : IntKind.wrap .i64 (1 + p_laws_b10At l_more 1 4) = (c : Int)
  all : IntKind.wrap .i64 ((p : Int) * (c : Int)) = ((c * p : Nat) : Int)
  sig : p_spec_B10Signal l_code ((c * p : Nat) : Int) = l
  slope : IntKind.wrap .i64 (p_laws_b10At l_more 2 17 - 8) = (a : Int) - 8
  base : IntKind.wrap .i64 (p_laws_b10At l_more 3 17 - 8) = (b : Int) - 8
  near : p_laws_b10At l_more 4 13 = (t : Int)
  wide : IntKind.wrap .i64 (1 + p_laws_b10At l_more 5 4) = (w : Int) + 1
  hp : 1 ≤ p
  h5 : p ≤ 5
  hc : 1 ≤ c
  hl : l.length = c * p
  h24 : l.length ≤ 24
  hB : Bdl 8 l
  ha : a < 17
  hb : b < 17
  ht : t < 13
  hw : w < 4
  hS : p_impl_SeasonOf l (p : Int) = ((List.range p).map (sea l p), true)
  hW : p_impl_WithoutSeason l (p : Int) = (rsts l p, true)
  hA : p_impl_SeasonOf (rsts l p) (p : Int) = ((List.range p).map (sea (rsts l p) p), true)
section
variable {l_code l_more : List UInt8} {l : List Nat} {p c a b t w : Nat}
theorem drawn_l2 (D : Drawn l_code l_more l p c a b t w) (sum : Nat) (t74 : Int) (k2 : Bool → Int → Bool) : ∀ (μ : Nat) (t4 : Bool) (i : Nat), i ≤ l.length → l.length - i < μ → p_laws_FnSeasons_l2 l_code l_more sum t74 k2 μ t4 (i : Int) = k2 t4 (l.length : Int) := by
  intro μ
  induction μ with
  | zero => intro t4 i _ h; omega
  | succ μ ih =>
    intro t4 i hi hm
    rw [p_laws_FnSeasons_l2_s, D.per, D.num, D.all, D.sig, D.hS, D.hW]
    by_cases h : i < l.length
    · rw [decide_eq_true (show (i : Int) < (l.length : Int) by omega), cond_true, Int.toNat_natCast, chk1 D.hp D.hc D.hl D.h24 D.hB h, cond_false]
      exact ih t4 (i + 1) ω2 ω2
    · rw [decide_eq_false (show ¬ (i : Int) < (l.length : Int) by omega), cond_false, show i = l.length by omega]
theorem drawn_l3 (D : Drawn l_code l_more l p c a b t w) (sum : Nat) (t74 : Int) (t4 : Bool) (t87 : Int) (k3 : List Nat → List Nat → Int → Bool) : ∀ (μ k : Nat), k ≤ 7 → 7 - k < μ →
    p_laws_FnSeasons_l3 l_code l_more sum t74 t4 t87 k3 μ ((List.range k).map fun (k : Nat) => fadd .f32 (fmul .f32 (qq a) (FloatKind.nearest .f32 (k : Int))) (qq b)) ((List.range k).map fun (k : Nat) => FloatKind.nearest .f32 (k : Int)) (k : Int) = k3 (lineOf a b) timesOf 7 := by
  intro μ
  induction μ with
  | zero => intro k _ h; omega
  | succ μ ih =>
    intro k hk hm
    rw [p_laws_FnSeasons_l3_s, D.slope, D.base]
    by_cases h : k < 7
    · rw [decide_eq_true (show (k : Int) < 7 by omega), cond_true]
      have := ih (k + 1) ω2 ω2
      rw [List.range_succ, List.map_append, List.map_append] at this
      exact this
    · rw [decide_eq_false (show ¬ (k : Int) < 7 by omega), cond_false]
      obtain rfl : k = 7 := by omega
      rfl
theorem drawn_l1 (D : Drawn l_code l_more l p c a b t w) : ∀ (μ sum i : Nat), i ≤ p → p - i < μ → fin .f64 sum = true → -((i : Int) * (128 * wq)) ≤ vl .f64 sum - rs (fun j => vl .f32 (sea l p j)) i 0 → vl .f64 sum - rs (fun j => vl .f32 (sea l p j)) i 0 ≤ (i : Int) * (128 * wq) →
    p_laws_FnSeasons_l1 l_code l_more μ sum (i : Int) = true := by
  have hw := wq_pos
  have hB32 : Bdl 32 l := fun y hy => by have := D.hB y hy; exact ⟨this.1, by omega, by omega⟩
  obtain ⟨H, H2⟩ := sea_ok D.hp D.hc D.hl D.h24 hB32
  have h5 := D.h5
  intro μ
  induction μ with
  | zero => intro sum i _ h; omega
  | succ μ ih =>
    intro sum i hi hm fs s1 s2
    rw [p_laws_FnSeasons_l1_s, D.per, D.num, D.all, D.sig, D.hS, D.hW, D.hA]
    simp only [List.length_map, List.length_range]
    by_cases h : i < p
    · rw [decide_eq_true (show (i : Int) < (p : Int) by omega), cond_true, Int.toNat_natCast, seas_get h]
      obtain ⟨q1, q2⟩ := H2 D.hB _ h
      obtain ⟨g1, e1⟩ := vl_wide (H.fin _ h)
      obtain ⟨b1, b2⟩ := rs_le (F := fun j => vl .f32 (sea l p j)) (E := 16 * 16777216 * wq + 3000 * wq) i 0 (fun j _ hj => H2 D.hB j ω2)
      have u1 : (i : Int) * (16 * 16777216 * wq + 3000 * wq) ≤ 4 * (16 * 16777216 * wq + 3000 * wq) := Int.mul_le_mul_of_nonneg_right ω2 ω2
      have u2 : (i : Int) * (128 * wq) ≤ 4 * (128 * wq) := Int.mul_le_mul_of_nonneg_right ω2 ω2
      obtain ⟨f4, t1, t2⟩ := vadd (k := .f64) 7 (A := 128) ω7 ω7 fs g1 (by rw [e1]; omega) (by rw [e1]; omega)
      rw [e1] at t1 t2
      have e2 : ((i + 1 : Nat) : Int) * (128 * wq) = (i : Int) * (128 * wq) + 128 * wq := by rw [Int.natCast_add, Int.add_mul]; simp
      exact ih _ (i + 1) ω2 ω2 f4 (by rw [rs_snoc, e2]; omega) (by rw [rs_snoc, e2]; omega)
    · rw [decide_eq_false (show ¬ (i : Int) < (p : Int) by omega), cond_false]
      obtain rfl : i = p := by omega
      refine (drawn_l2 D sum (i : Int) _ _ false 0 (Nat.zero_le _) ω2).trans ?_
      obtain ⟨a1, a2⟩ := sum_sea D.hp D.hc D.hl D.h24 hB32
      have u1 : (i : Int) * (2816 * wq) ≤ 5 * (2816 * wq) := Int.mul_le_mul_of_nonneg_right ω2 ω2
      have u2 : (i : Int) * (128 * wq) ≤ 5 * (128 * wq) := Int.mul_le_mul_of_nonneg_right ω2 ω2
      obtain ⟨cf, cl⟩ := centi
      have e0 : vl .f64 0 = 0 := by simp only [vl]; exact sv_zero _
      obtain ⟨g5, t1, t2⟩ := gap64 fs (fin_zero .f64) (E := 14720 * wq) ω2 (by rw [e0]; omega) (by rw [e0]; omega)
      simp only [Bool.not_true, cond_false]
      have na := not_above cf g5 ω2
      rw [na, cond_false, chk3 D.hp D.hc D.hl D.h24 D.hB, cond_false]
      refine (drawn_l3 D sum (i : Int) false (l.length : Int) _ _ 0 ω2 ω2).trans ?_
      have tt := tab_trend a D.ha b D.hb
      simp only [Bool.and_eq_true] at tt
      obtain ⟨z, z1, z2, z3⟩ := mean_between D.ha D.hb D.ht D.hw
      simp only [D.near, D.wide, D.slope, D.base, z1, tt.1.1, cond_true]
      have k1 := tt.1.2
      have k2 := tt.2
      unfold qq at k1 k2
      rw [k1, k2]
      simp only [cond_true]
      exact (congrArg (fun q => bif q then fle .f64 (fwide z) (fadd .f64 (fwide (fmax .f32 ((lineOf a b).getD 0 0) ((lineOf a b).getD 6 0))) 4562254508917369340) else false) z2).trans z3
end
theorem laws_FnSeasons_true (l_code : List UInt8) (l_more : List UInt8) : p_laws_FnSeasons l_code l_more = true := by
  rw [p_laws_FnSeasons_eq]
  cases p_laws_b10Long l_code l_more
  · rw [cond_false]
    have r0 := laws_b10At_rng l_more 0 5 ω7 ω7
    have r1 := laws_b10At_rng l_more 1 4 ω7 ω7
    have r2 := laws_b10At_rng l_more 2 17 ω7 ω7
    have r3 := laws_b10At_rng l_more 3 17 ω7 ω7
    have r4 := laws_b10At_rng l_more 4 13 ω7 ω7
    have r5 := laws_b10At_rng l_more 5 4 ω7 ω7
    obtain ⟨p, hp⟩ : ∃ p : Nat, 1 + p_laws_b10At l_more 0 5 = p := ⟨(1 + p_laws_b10At l_more 0 5).toNat, by omega⟩
    obtain ⟨c, hc⟩ : ∃ c : Nat, 1 + p_laws_b10At l_more 1 4 = c := ⟨(1 + p_laws_b10At l_more 1 4).toNat, by omega⟩
    obtain ⟨a, ha⟩ : ∃ a : Nat, p_laws_b10At l_more 2 17 = a := ⟨(p_laws_b10At l_more 2 17).toNat, by omega⟩
    obtain ⟨b, hb⟩ : ∃ b : Nat, p_laws_b10At l_more 3 17 = b := ⟨(p_laws_b10At l_more 3 17).toNat, by omega⟩
    obtain ⟨t, ht⟩ : ∃ t : Nat, p_laws_b10At l_more 4 13 = t := ⟨(p_laws_b10At l_more 4 13).toNat, by omega⟩
    obtain ⟨w, hw⟩ : ∃ w : Nat, p_laws_b10At l_more 5 4 = w := ⟨(p_laws_b10At l_more 5 4).toNat, by omega⟩
    have hcp : c * p ≤ 4 * 5 := Nat.mul_le_mul ω2 ω2
    have hcp1 : 1 ≤ c * p := Nat.mul_pos ω2 ω2
    obtain ⟨s1, s2⟩ := spec_B10Signal_all l_code ((c * p : Nat) : Int)
    rw [Int.toNat_natCast] at s1
    have hB : Bdl 8 (p_spec_B10Signal l_code ((c * p : Nat) : Int)) := fun y hy => ⟨(s2 y hy).bd.1, (s2 y hy).bd.2.1, (s2 y hy).bd.2.2.1⟩
    have hB32 : Bdl 32 (p_spec_B10Signal l_code ((c * p : Nat) : Int)) := fun y hy => by have := hB y hy; have hw0 := wq_pos; exact ⟨this.1, by omega, by omega⟩
    have e0 : vl .f64 0 = 0 := by simp only [vl]; exact sv_zero _
    generalize hl : p_spec_B10Signal l_code ((c * p : Nat) : Int) = l at *
    have hpl : p ≤ l.length := by rw [s1]; exact Nat.le_mul_of_pos_left _ ω2
    obtain ⟨H, _⟩ := sea_ok (l := l) (p := p) (c := c) ω2 ω2 s1 ω2 hB32
    have hR := rsts_bd (l := l) (p := p) (c := c) ω2 ω2 s1 ω2 hB
    have D : Drawn l_code l_more l p c a b t w := {
      per := by rw [hp, wrap64 ω2 ω2]
      num := by rw [hc, wrap64 ω2 ω2]
      all := by rw [← Int.natCast_mul, Nat.mul_comm p c, wrap64 ω2 ω2]
      sig := hl
      slope := by rw [ha, wrap64 ω2 ω2]
      base := by rw [hb, wrap64 ω2 ω2]
      near := ht
      wide := by rw [hw, wrap64 ω2 ω2]; omega
      hp := by omega
      h5 := by omega
      hc := by omega
      hl := s1
      h24 := by omega
      hB := hB
      ha := by omega
      hb := by omega
      ht := by omega
      hw := by omega
      hS := season_all ω2 hpl ω2 (fun y hy => (hB y hy).1) H.fin
      hW := without_all ω2 hpl ω2 (fun y hy => (hB y hy).1) H.fin (fun i hi => (rst_ok (c := c) ω2 ω2 s1 ω2 hB hi).1)
      hA := season_all ω2 (by rw [rsts_len]; exact hpl) (by rw [rsts_len]; omega) (fun y hy => (hR y hy).1) (fun j hj => (again_ok (c := c) ω2 ω2 s1 ω2 hB hj).1) }
    rw [D.per, D.num, D.all, D.sig, D.hS, D.hW]
    simp only [Bool.not_true, cond_false, List.length_map, List.length_range, bne_self_eq_false, rsts_len]
    exact drawn_l1 D _ _ 0 ω2 ω2 (fin_zero _) (by rw [e0]; simp [rs]) (by rw [e0]; simp [rs])
  · rfl
/-! laws_FnSeasons: function 8 -/
def E_laws_FnSeasons : Env := envOf [(43, S_laws_b10Long), (44, S_laws_b10At), (45, S_spec_B10Signal), (46, S_impl_SeasonOf), (47, S_impl_WithoutSeason), (48, S_laws_b10Gap), (49, S_laws_b10Apart), (50, S_impl_TrendOf), (51, S_impl_KernelMean)]
def F_laws_FnSeasons : List Value → AHeap → (Value → AHeap → Prop) → Prop
  | [.slice code_a code_n code_e, .slice more_a more_n more_e], H, K => T_laws_FnSeasons code_a code_n code_e more_a more_n more_e H fun (r1 : Bool) (H' : AHeap) => K (.bool r1) H'
  | _, _, _ => False
def S_laws_FnSeasons : FSpec := { F := F_laws_FnSeasons, quiet := false, tame := false }
theorem laws_FnSeasons_vc (code_a : Option Addr) (code_n : Nat) (code_e : Nat) (more_a : Option Addr) (more_n : Nat) (more_e : Nat) (H : AHeap) (K : Value → AHeap → Prop) : bodyL Try.prog E_laws_FnSeasons Try.f8 [.slice code_a code_n code_e, .slice more_a more_n more_e] H K =
  (T_laws_b10Long code_a code_n code_e more_a more_n more_e H fun (r1 : Bool) (H1 : AHeap) => Br r1 (K (.bool true) H1) (T_laws_b10At more_a more_n more_e 0 5 H1 fun (r2 : Int) (H2 : AHeap) => T_laws_b10At more_a more_n more_e 1 4 H2 fun (r3 : Int) (H3 : AHeap) => T_spec_B10Signal code_a code_n code_e (IntKind.wrap .i64 ((IntKind.wrap .i64 (1 + r2)) * (IntKind.wrap .i64 (1 + r3)))) H3 fun (a1 : Option Addr) (r4 : Nat) (r5 : Nat) (H4 : AHeap) => T_impl_SeasonOf a1 r4 r5 (IntKind.wrap .i64 (1 + r2)) H4 fun (a2 : Option Addr) (r6 : Nat) (r7 : Nat) (r8 : Bool) (H5 : AHeap) => T_impl_WithoutSeason a1 r4 r5 (IntKind.wrap .i64 (1 + r2)) H5 fun (a3 : Option Addr) (r9 : Nat) (r10 : Nat) (r11 : Bool) (H6 : AHeap) => Br (!r8) (K (.bool false) H6) (Br (!r11) (K (.bool false) H6) (Br (((r6 : Int) : Int) != IntKind.wrap .i64 (1 + r2)) (K (.bool false) H6) (Br (((r9 : Int) : Int) != (r4 : Int)) (K (.bool false) H6) (loopK (exL Try.prog E_laws_FnSeasons (cl (cl (cr (cl (cr (cr (cr (cr (cr (cr (cr (cr (bodyC Try.f8))))))))))))) 28334198897217871284962 16 [(0, 2786)]) [ud, .slice more_a more_n more_e, ud, ud, ud, .int .i64 (IntKind.wrap .i64 (1 + r2)), .slice a1 r4 r5, .slice a2 r6 r7, ud, .slice a3 r9 r10, ud, .float .f64 0, ud, ud, ud, ud, ud, ud, ud, ud, ud, ud, ud, ud, ud, ud, ud, ud, ud, ud, ud, ud, ud, ud, ud, ud, ud, ud, ud, ud, ud, ud, ud, ud, ud, ud, ud, ud, ud, ud, ud, ud, ud, ud, ud, ud, ud, ud, ud, ud, ud, ud, ud, ud, ud, ud, ud, ud, ud, ud, ud, ud, ud, .int .i64 (r6 : Int), .int .i64 0, ud, ud, ud, ud, ud, ud, ud, ud, ud, ud, ud, ud, ud, ud, ud, ud, ud, ud, ud, ud, ud, ud, ud, ud, ud, ud, ud, ud, ud, ud, ud, ud, ud, ud, ud, ud, ud, ud, ud, ud, ud, ud, ud, ud, ud, ud, ud, ud, ud, ud, ud, ud, ud, ud, ud, ud, ud, ud, ud, ud, ud, ud, ud, ud, ud, ud, ud, ud, ud, ud, ud, ud, ud, ud, ud, ud, ud, ud, ud, ud, ud, ud, ud, ud, ud, ud, ud, ud, ud, ud, ud, ud, ud, ud, ud, ud, ud, ud, ud, ud, ud, ud, ud, ud, ud, ud, ud, ud, ud, ud, ud, ud, ud, ud, ud, ud, ud, ud, ud, ud, ud, ud, ud, ud, ud, ud, ud, ud, ud, ud, ud, ud, ud, ud, ud, ud, ud, ud, ud, ud, ud, ud, ud, ud, ud, ud, ud, ud, ud, ud, ud, ud, ud, ud, ud, ud] H6 (blockQ 0 (seqQ (exL Try.prog E_laws_FnSeasons (cr (cr (cr (cr (cr (cr (cr (cr (cr (bodyC Try.f8)))))))))) 16 16 []) (retK Try.prog Try.f8 K))))))))) := by kernel_rfl
abbrev laws_FnSeasons_P1 (a1 : Option Addr) (a2 : Option Addr) (a3 : Option Addr) (more_a : Option Addr) (more_e : Nat) (more_n : Nat) (r10 : Nat) (r4 : Nat) (r5 : Nat) (r6 : Nat) (r7 : Nat) (r9 : Nat) (z1_5 : Int) (sum : Nat) (t74 : Int)  : List Value := [ud, .slice more_a more_n more_e, ud, ud, ud, .int .i64 z1_5, .slice a1 r4 r5, .slice a2 r6 r7, ud, .slice a3 r9 r10, ud, .float .f64 sum, ud, ud, ud, ud, ud, ud, ud, ud, ud, ud, ud, ud, ud, ud, ud, ud, ud, ud, ud, ud, ud, ud, ud, ud, ud, ud, ud, ud, ud, ud, ud, ud, ud, ud, ud, ud, ud, ud, ud, ud, ud, ud, ud, ud, ud, ud, ud, ud, ud, ud, ud, ud, ud, ud, ud, ud, ud, ud, ud, ud, ud, .int .i64 (r6 : Int), .int .i64 t74, ud, ud, ud, ud, ud, ud, ud, ud, ud, ud, ud, ud, ud, ud, ud, ud, ud, ud, ud, ud, ud, ud, ud, ud, ud, ud, ud, ud, ud, ud, ud, ud, ud, ud, ud, ud, ud, ud, ud, ud, ud, ud, ud, ud, ud, ud, ud, ud, ud, ud, ud, ud, ud, ud, ud, ud, ud, ud, ud, ud, ud, ud, ud, ud, ud, ud, ud, ud, ud, ud, ud, ud, ud, ud, ud, ud, ud, ud, ud, ud, ud, ud, ud, ud, ud, ud, ud, ud, ud, ud, ud, ud, ud, ud, ud, ud, ud, ud, ud, ud, ud, ud, ud, ud, ud, ud, ud, ud, ud, ud, ud, ud, ud, ud, ud, ud, ud, ud, ud, ud, ud, ud, ud, ud, ud, ud, ud, ud, ud, ud, ud, ud, ud, ud, ud, ud, ud, ud, ud, ud, ud, ud, ud, ud, ud, ud, ud, ud, ud, ud, ud, ud, ud, ud, ud, ud]
theorem laws_FnSeasons_r1 (a1 : Option Addr) (a2 : Option Addr) (a3 : Option Addr) (more_a : Option Addr) (more_e : Nat) (more_n : Nat) (r10 : Nat) (r4 : Nat) (r5 : Nat) (r6 : Nat) (r7 : Nat) (r9 : Nat) (z1_5 : Int) (sum : Nat) (t74 : Int)  (H : AHeap) (R : Post) : exL Try.prog E_laws_FnSeasons (cl (cl (cr (cl (cr (cr (cr (cr (cr (cr (cr (cr (bodyC Try.f8))))))))))))) 28334198897217871284962 16 [(0, 2786)] (laws_FnSeasons_P1 a1 a2 a3 more_a more_e more_n r10 r4 r5 r6 r7 r9 z1_5 sum t74) H R =
  (Br (decide ((t74 : Int) < (r6 : Int))) ((0 : Int) ≤ t74 ∧ t74 < (r6 : Int) ∧ ∃ b1 f1, (a2 : Option Addr) = some ⟨b1, f1, none⟩ ∧ ∃ x1 : Nat,  rdC H b1 (f1 + (t74 : Int).toNat * 1) = some (.float .f32 x1) ∧ R .normal [ud, .slice more_a more_n more_e, ud, ud, ud, .int .i64 z1_5, .slice a1 r4 r5, .slice a2 r6 r7, ud, .slice a3 r9 r10, ud, .float .f64 (fadd .f64 sum (fwide x1)), ud, ud, ud, ud, ud, ud, ud, ud, ud, ud, ud, ud, ud, ud, ud, ud, ud, ud, ud, ud, ud, ud, ud, ud, ud, ud, ud, ud, ud, ud, ud, ud, ud, ud, ud, ud, ud, ud, ud, ud, ud, ud, ud, ud, ud, ud, ud, ud, ud, ud, ud, ud, ud, ud, ud, ud, ud, ud, ud, ud, ud, .int .i64 (r6 : Int), .int .i64 (IntKind.wrap .i64 (t74 + 1)), ud, ud, ud, ud, ud, ud, ud, ud, ud, ud, ud, ud, ud, ud, ud, ud, ud, ud, ud, ud, ud, ud, ud, ud, ud, ud, ud, ud, ud, ud, ud, ud, ud, ud, ud, ud, ud, ud, ud, ud, ud, ud, ud, ud, ud, ud, ud, ud, ud, ud, ud, ud, ud, ud, ud, ud, ud, ud, ud, ud, ud, ud, ud, ud, ud, ud, ud, ud, ud, ud, ud, ud, ud, ud, ud, ud, ud, ud, ud, ud, ud, ud, ud, ud, ud, ud, ud, ud, ud, ud, ud, ud, ud, ud, ud, ud, ud, ud, ud, ud, ud, ud, ud, ud, ud, ud, ud, ud, ud, ud, ud, ud, ud, ud, ud, ud, ud, ud, ud, ud, ud, ud, ud, ud, ud, ud, ud, ud, ud, ud, ud, ud, ud, ud, ud, ud, ud, ud, ud, ud, ud, ud, ud, ud, ud, ud, ud, ud, ud, ud, ud, ud, ud, ud, ud, ud] H) (R (.exit 0) [ud, .slice more_a more_n more_e, ud, ud, ud, .int .i64 z1_5, .slice a1 r4 r5, .slice a2 r6 r7, ud, .slice a3 r9 r10, ud, .float .f64 sum, ud, ud, ud, ud, ud, ud, ud, ud, ud, ud, ud, ud, ud, ud, ud, ud, ud, ud, ud, ud, ud, ud, ud, ud, ud, ud, ud, ud, ud, ud, ud, ud, ud, ud, ud, ud, ud, ud, ud, ud, ud, ud, ud, ud, ud, ud, ud, ud, ud, ud, ud, ud, ud, ud, ud, ud, ud, ud, ud, ud, ud, ud, ud, ud, ud, ud, ud, ud, ud, ud, ud, ud, ud, ud, ud, ud, ud, ud, ud, ud, ud, ud, ud, ud, ud, ud, ud, ud, ud, ud, ud, ud, ud, ud, ud, ud, ud, ud, ud, ud, ud, ud, ud, ud, ud, ud, ud, ud, ud, ud, ud, ud, ud, ud, ud, ud, ud, ud, ud, ud, ud, ud, ud, ud, ud, ud, ud, ud, ud, ud, ud, ud, ud, ud, ud, ud, ud, ud, ud, ud, ud, ud, ud, ud, ud, ud, ud, ud, ud, ud, ud, ud, ud, ud, ud, ud, ud, ud, ud, ud, ud, ud, ud, ud, ud, ud, ud, ud, ud, ud, ud, ud, ud, ud, ud, ud, ud, ud, ud, ud, ud, ud, ud, ud, ud, ud, ud, ud, ud, ud, ud, ud, ud, ud, ud, ud, ud, ud, ud, ud, ud, ud, ud, ud, ud, ud, ud, ud, ud, ud, ud, ud, ud, ud, ud, ud, ud, ud, ud] H)) := by kernel_rfl
def laws_FnSeasons_I1 (a1 : Option Addr) (a2 : Option Addr) (a3 : Option Addr) (more_a : Option Addr) (more_e : Nat) (more_n : Nat) (r10 : Nat) (r4 : Nat) (r5 : Nat) (r6 : Nat) (r7 : Nat) (r9 : Nat) (z1_5 : Int) (Inv : Nat → Nat → Int → AHeap → Prop) : Nat → List Value → AHeap → Prop := fun μ tm H => ∃ (sum : Nat), ∃ (t74 : Int), tm = (laws_FnSeasons_P1 a1 a2 a3 more_a more_e more_n r10 r4 r5 r6 r7 r9 z1_5 sum t74) ∧ Inv μ sum t74 H
theorem laws_FnSeasons_L1 (a1 : Option Addr) (a2 : Option Addr) (a3 : Option Addr) (more_a : Option Addr) (more_e : Nat) (more_n : Nat) (r10 : Nat) (r4 : Nat) (r5 : Nat) (r6 : Nat) (r7 : Nat) (r9 : Nat) (z1_5 : Int) {Q : Post} (Inv : Nat → Nat → Int → AHeap → Prop) (ν : Nat) (sum : Nat) (t74 : Int)  (H : AHeap) (h0 : Inv ν sum t74 H)
    (hs : ∀ (μ : Nat) (sum : Nat) (t74 : Int)  (H : AHeap), Inv μ sum t74 H → exL Try.prog E_laws_FnSeasons (cl (cl (cr (cl (cr (cr (cr (cr (cr (cr (cr (cr (bodyC Try.f8))))))))))))) 28334198897217871284962 16 [(0, 2786)] (laws_FnSeasons_P1 a1 a2 a3 more_a more_e more_n r10 r4 r5 r6 r7 r9 z1_5 sum t74) H (loopQ (laws_FnSeasons_I1 a1 a2 a3 more_a more_e more_n r10 r4 r5 r6 r7 r9 z1_5 Inv) μ Q)) : loopK (exL Try.prog E_laws_FnSeasons (cl (cl (cr (cl (cr (cr (cr (cr (cr (cr (cr (cr (bodyC Try.f8))))))))))))) 28334198897217871284962 16 [(0, 2786)]) (laws_FnSeasons_P1 a1 a2 a3 more_a more_e more_n r10 r4 r5 r6 r7 r9 z1_5 sum t74) H Q :=
  ⟨laws_FnSeasons_I1 a1 a2 a3 more_a more_e more_n r10 r4 r5 r6 r7 r9 z1_5 Inv, ν, ⟨sum, t74, rfl, h0⟩, fun μ tm H h => by obtain ⟨sum, t74, rfl, hI⟩ := h; exact hs μ sum t74  H hI⟩
theorem laws_FnSeasons_n1 {a1 : Option Addr} {a2 : Option Addr} {a3 : Option Addr} {more_a : Option Addr} {more_e : Nat} {more_n : Nat} {r10 : Nat} {r4 : Nat} {r5 : Nat} {r6 : Nat} {r7 : Nat} {r9 : Nat} {z1_5 : Int} {Q : Post} {Inv : Nat → Nat → Int → AHeap → Prop} {μ : Nat} (μ' : Nat) {sum : Nat} {t74 : Int}  {H : AHeap} (hm : μ' < μ) (hI : Inv μ' sum t74 H) : loopQ (laws_FnSeasons_I1 a1 a2 a3 more_a more_e more_n r10 r4 r5 r6 r7 r9 z1_5 Inv) μ Q .normal (laws_FnSeasons_P1 a1 a2 a3 more_a more_e more_n r10 r4 r5 r6 r7 r9 z1_5 sum t74) H := ⟨μ', hm, sum, t74, rfl, hI⟩
theorem laws_FnSeasons_x1_0 (a1 : Option Addr) (a2 : Option Addr) (a3 : Option Addr) (more_a : Option Addr) (more_e : Nat) (more_n : Nat) (r10 : Nat) (r4 : Nat) (r5 : Nat) (r6 : Nat) (r7 : Nat) (r9 : Nat) (z1_5 : Int) (sum : Nat) (H : AHeap) (K : Value → AHeap → Prop)  {I : Nat → List Value → AHeap → Prop} {μ : Nat} : loopQ I μ (blockQ 0 (seqQ (exL Try.prog E_laws_FnSeasons (cr (cr (cr (cr (cr (cr (cr (cr (cr (bodyC Try.f8)))))))))) 16 16 []) (retK Try.prog Try.f8 K))) (.exit 0) [ud, .slice more_a more_n more_e, ud, ud, ud, .int .i64 z1_5, .slice a1 r4 r5, .slice a2 r6 r7, ud, .slice a3 r9 r10, ud, .float .f64 sum, ud, ud, ud, ud, ud, ud, ud, ud, ud, ud, ud, ud, ud, ud, ud, ud, ud, ud, ud, ud, ud, ud, ud, ud, ud, ud, ud, ud, ud, ud, ud, ud, ud, ud, ud, ud, ud, ud, ud, ud, ud, ud, ud, ud, ud, ud, ud, ud, ud, ud, ud, ud, ud, ud, ud, ud, ud, ud, ud, ud, ud, ud, ud, ud, ud, ud, ud, ud, ud, ud, ud, ud, ud, ud, ud, ud, ud, ud, ud, ud, ud, ud, ud, ud, ud, ud, ud, ud, ud, ud, ud, ud, ud, ud, ud, ud, ud, ud, ud, ud, ud, ud, ud, ud, ud, ud, ud, ud, ud, ud, ud, ud, ud, ud, ud, ud, ud, ud, ud, ud, ud, ud, ud, ud, ud, ud, ud, ud, ud, ud, ud, ud, ud, ud, ud, ud, ud, ud, ud, ud, ud, ud, ud, ud, ud, ud, ud, ud, ud, ud, ud, ud, ud, ud, ud, ud, ud, ud, ud, ud, ud, ud, ud, ud, ud, ud, ud, ud, ud, ud, ud, ud, ud, ud, ud, ud, ud, ud, ud, ud, ud, ud, ud, ud, ud, ud, ud, ud, ud, ud, ud, ud, ud, ud, ud, ud, ud, ud, ud, ud, ud, ud, ud, ud, ud, ud, ud, ud, ud, ud, ud, ud, ud, ud, ud, ud, ud, ud, ud] H =
  (loopK (exL Try.prog E_laws_FnSeasons (cl (cl (cr (cl (cr (cr (cr (cr (cr (cr (cr (cr (cr (bodyC Try.f8)))))))))))))) 232113757366008801543588578 16 [(2, 2594)]) [ud, .slice more_a more_n more_e, ud, ud, ud, .int .i64 z1_5, .slice a1 r4 r5, .slice a2 r6 r7, ud, .slice a3 r9 r10, ud, .float .f64 sum, ud, ud, ud, ud, ud, ud, ud, ud, ud, ud, ud, ud, ud, ud, ud, ud, ud, ud, ud, ud, ud, ud, ud, ud, ud, ud, ud, ud, ud, ud, ud, ud, ud, ud, ud, ud, ud, ud, ud, ud, ud, ud, ud, ud, ud, ud, ud, ud, ud, ud, ud, ud, ud, ud, ud, ud, ud, ud, ud, ud, ud, ud, ud, ud, ud, ud, ud, ud, ud, ud, ud, ud, ud, ud, .int .i64 (r4 : Int), .int .i64 0, ud, ud, ud, ud, ud, ud, ud, ud, ud, ud, ud, ud, ud, ud, ud, ud, ud, ud, ud, ud, ud, ud, ud, ud, ud, ud, ud, ud, ud, ud, ud, ud, ud, ud, ud, ud, ud, ud, ud, ud, ud, ud, ud, ud, ud, ud, ud, ud, ud, ud, ud, ud, ud, ud, ud, ud, ud, ud, ud, ud, ud, ud, ud, ud, ud, ud, ud, ud, ud, ud, ud, ud, ud, ud, ud, ud, ud, ud, ud, ud, ud, ud, ud, ud, ud, ud, ud, ud, ud, ud, ud, ud, ud, ud, ud, ud, ud, ud, ud, ud, ud, ud, ud, ud, ud, ud, ud, ud, ud, ud, ud, ud, ud, ud, ud, ud, ud, ud, ud, ud, ud, ud, ud, ud, ud, ud, ud, ud, ud, ud, ud, ud, ud, ud, ud, ud, ud, ud, ud, ud, ud, ud, ud] H (blockQ 2 (seqQ (exL Try.prog E_laws_FnSeasons (cr (cr (cr (cr (cr (cr (cr (cr (cr (cr (bodyC Try.f8))))))))))) 16 16 []) (retK Try.prog Try.f8 K)))) := by kernel_rfl
abbrev laws_FnSeasons_P2 (a1 : Option Addr) (a2 : Option Addr) (a3 : Option Addr) (more_a : Option Addr) (more_e : Nat) (more_n : Nat) (r10 : Nat) (r4 : Nat) (r5 : Nat) (r6 : Nat) (r7 : Nat) (r9 : Nat) (sum : Nat) (z1_5 : Int) (t87 : Int)  : List Value := [ud, .slice more_a more_n more_e, ud, ud, ud, .int .i64 z1_5, .slice a1 r4 r5, .slice a2 r6 r7, ud, .slice a3 r9 r10, ud, .float .f64 sum, ud, ud, ud, ud, ud, ud, ud, ud, ud, ud, ud, ud, ud, ud, ud, ud, ud, ud, ud, ud, ud, ud, ud, ud, ud, ud, ud, ud, ud, ud, ud, ud, ud, ud, ud, ud, ud, ud, ud, ud, ud, ud, ud, ud, ud, ud, ud, ud, ud, ud, ud, ud, ud, ud, ud, ud, ud, ud, ud, ud, ud, ud, ud, ud, ud, ud, ud, ud, ud, ud, ud, ud, ud, ud, .int .i64 (r4 : Int), .int .i64 t87, ud, ud, ud, ud, ud, ud, ud, ud, ud, ud, ud, ud, ud, ud, ud, ud, ud, ud, ud, ud, ud, ud, ud, ud, ud, ud, ud, ud, ud, ud, ud, ud, ud, ud, ud, ud, ud, ud, ud, ud, ud, ud, ud, ud, ud, ud, ud, ud, ud, ud, ud, ud, ud, ud, ud, ud, ud, ud, ud, ud, ud, ud, ud, ud, ud, ud, ud, ud, ud, ud, ud, ud, ud, ud, ud, ud, ud, ud, ud, ud, ud, ud, ud, ud, ud, ud, ud, ud, ud, ud, ud, ud, ud, ud, ud, ud, ud, ud, ud, ud, ud, ud, ud, ud, ud, ud, ud, ud, ud, ud, ud, ud, ud, ud, ud, ud, ud, ud, ud, ud, ud, ud, ud, ud, ud, ud, ud, ud, ud, ud, ud, ud, ud, ud, ud, ud, ud, ud, ud, ud, ud, ud, ud]
theorem laws_FnSeasons_r2 (a1 : Option Addr) (a2 : Option Addr) (a3 : Option Addr) (more_a : Option Addr) (more_e : Nat) (more_n : Nat) (r10 : Nat) (r4 : Nat) (r5 : Nat) (r6 : Nat) (r7 : Nat) (r9 : Nat) (sum : Nat) (z1_5 : Int) (t87 : Int)  (H : AHeap) (R : Post) : exL Try.prog E_laws_FnSeasons (cl (cl (cr (cl (cr (cr (cr (cr (cr (cr (cr (cr (cr (bodyC Try.f8)))))))))))))) 232113757366008801543588578 16 [(2, 2594)] (laws_FnSeasons_P2 a1 a2 a3 more_a more_e more_n r10 r4 r5 r6 r7 r9 sum z1_5 t87) H R =
  (Br (decide ((t87 : Int) < (r4 : Int))) ((0 : Int) ≤ t87 ∧ t87 < (r9 : Int) ∧ ∃ b2 f2, (a3 : Option Addr) = some ⟨b2, f2, none⟩ ∧ ∃ x2 : Nat,  rdC H b2 (f2 + (t87 : Int).toNat * 1) = some (.float .f32 x2) ∧ z1_5 ≠ (0 : Int) ∧ (0 : Int) ≤ Int.tmod t87 z1_5 ∧ Int.tmod t87 z1_5 < (r6 : Int) ∧ ∃ b3 f3, (a2 : Option Addr) = some ⟨b3, f3, none⟩ ∧ ∃ x3 : Nat,  rdC H b3 (f3 + (Int.tmod t87 z1_5 : Int).toNat * 1) = some (.float .f32 x3) ∧ (0 : Int) ≤ t87 ∧ t87 < (r4 : Int) ∧ ∃ b4 f4, (a1 : Option Addr) = some ⟨b4, f4, none⟩ ∧ ∃ x4 : Nat,  rdC H b4 (f4 + (t87 : Int).toNat * 1) = some (.float .f32 x4) ∧ T_laws_b10Gap (fadd .f64 (fwide x2) (fwide x3)) (fwide x4) H fun (r12 : Nat) (H7 : AHeap) => Br (flt .f64 4562254508917369340 r12) (R .ret [ud, ud, ud, ud, .bool false, ud, ud, ud, ud, ud, ud, ud, ud, ud, ud, ud, ud, ud, ud, ud, ud, ud, ud, ud, ud, ud, ud, ud, ud, ud, ud, ud, ud, ud, ud, ud, ud, ud, ud, ud, ud, ud, ud, ud, ud, ud, ud, ud, ud, ud, ud, ud, ud, ud, ud, ud, ud, ud, ud, ud, ud, ud, ud, ud, ud, ud, ud, ud, ud, ud, ud, ud, ud, ud, ud, ud, ud, ud, ud, ud, ud, ud, ud, ud, ud, ud, ud, ud, ud, ud, ud, ud, ud, ud, ud, ud, ud, ud, ud, ud, ud, ud, ud, ud, ud, ud, ud, ud, ud, ud, ud, ud, ud, ud, ud, ud, ud, ud, ud, ud, ud, ud, ud, ud, ud, ud, ud, ud, ud, ud, ud, ud, ud, ud, ud, ud, ud, ud, ud, ud, ud, ud, ud, ud, ud, ud, ud, ud, ud, ud, ud, ud, ud, ud, ud, ud, ud, ud, ud, ud, ud, ud, ud, ud, ud, ud, ud, ud, ud, ud, ud, ud, ud, ud, ud, ud, ud, ud, ud, ud, ud, ud, ud, ud, ud, ud, ud, ud, ud, ud, ud, ud, ud, ud, ud, ud, ud, ud, ud, ud, ud, ud, ud, ud, ud, ud, ud, ud, ud, ud, ud, ud, ud, ud, ud, ud, ud, ud, ud, ud, ud, ud, ud, ud, ud, ud, ud, ud, ud, ud, ud] H7) (R .normal [ud, .slice more_a more_n more_e, ud, ud, ud, .int .i64 z1_5, .slice a1 r4 r5, .slice a2 r6 r7, ud, .slice a3 r9 r10, ud, .float .f64 sum, ud, ud, ud, ud, ud, ud, ud, ud, ud, ud, ud, ud, ud, ud, ud, ud, ud, ud, ud, ud, ud, ud, ud, ud, ud, ud, ud, ud, ud, ud, ud, ud, ud, ud, ud, ud, ud, ud, ud, ud, ud, ud, ud, ud, ud, ud, ud, ud, ud, ud, ud, ud, ud, ud, ud, ud, ud, ud, ud, ud, ud, ud, ud, ud, ud, ud, ud, ud, ud, ud, ud, ud, ud, ud, .int .i64 (r4 : Int), .int .i64 (IntKind.wrap .i64 (t87 + 1)), ud, ud, ud, ud, ud, ud, ud, ud, ud, ud, ud, ud, ud, ud, ud, ud, ud, ud, ud, ud, ud, ud, ud, ud, ud, ud, ud, ud, ud, ud, ud, ud, ud, ud, ud, ud, ud, ud, ud, ud, ud, ud, ud, ud, ud, ud, ud, ud, ud, ud, ud, ud, ud, ud, ud, ud, ud, ud, ud, ud, ud, ud, ud, ud, ud, ud, ud, ud, ud, ud, ud, ud, ud, ud, ud, ud, ud, ud, ud, ud, ud, ud, ud, ud, ud, ud, ud, ud, ud, ud, ud, ud, ud, ud, ud, ud, ud, ud, ud, ud, ud, ud, ud, ud, ud, ud, ud, ud, ud, ud, ud, ud, ud, ud, ud, ud, ud, ud, ud, ud, ud, ud, ud, ud, ud, ud, ud, ud, ud, ud, ud, ud, ud, ud, ud, ud, ud, ud, ud, ud, ud, ud, ud] H7)) (R (.exit 2) [ud, .slice more_a more_n more_e, ud, ud, ud, .int .i64 z1_5, ud, ud, ud, .slice a3 r9 r10, ud, .float .f64 sum, ud, ud, ud, ud, ud, ud, ud, ud, ud, ud, ud, ud, ud, ud, ud, ud, ud, ud, ud, ud, ud, ud, ud, ud, ud, ud, ud, ud, ud, ud, ud, ud, ud, ud, ud, ud, ud, ud, ud, ud, ud, ud, ud, ud, ud, ud, ud, ud, ud, ud, ud, ud, ud, ud, ud, ud, ud, ud, ud, ud, ud, ud, ud, ud, ud, ud, ud, ud, ud, ud, ud, ud, ud, ud, ud, ud, ud, ud, ud, ud, ud, ud, ud, ud, ud, ud, ud, ud, ud, ud, ud, ud, ud, ud, ud, ud, ud, ud, ud, ud, ud, ud, ud, ud, ud, ud, ud, ud, ud, ud, ud, ud, ud, ud, ud, ud, ud, ud, ud, ud, ud, ud, ud, ud, ud, ud, ud, ud, ud, ud, ud, ud, ud, ud, ud, ud, ud, ud, ud, ud, ud, ud, ud, ud, ud, ud, ud, ud, ud, ud, ud, ud, ud, ud, ud, ud, ud, ud, ud, ud, ud, ud, ud, ud, ud, ud, ud, ud, ud, ud, ud, ud, ud, ud, ud, ud, ud, ud, ud, ud, ud, ud, ud, ud, ud, ud, ud, ud, ud, ud, ud, ud, ud, ud, ud, ud, ud, ud, ud, ud, ud, ud, ud, ud, ud, ud, ud, ud, ud, ud, ud, ud, ud, ud, ud, ud, ud, ud, ud] H)) := by kernel_rfl
def laws_FnSeasons_I2 (a1 : Option Addr) (a2 : Option Addr) (a3 : Option Addr) (more_a : Option Addr) (more_e : Nat) (more_n : Nat) (r10 : Nat) (r4 : Nat) (r5 : Nat) (r6 : Nat) (r7 : Nat) (r9 : Nat) (sum : Nat) (z1_5 : Int) (Inv : Nat → Int → AHeap → Prop) : Nat → List Value → AHeap → Prop := fun μ tm H => ∃ (t87 : Int), tm = (laws_FnSeasons_P2 a1 a2 a3 more_a more_e more_n r10 r4 r5 r6 r7 r9 sum z1_5 t87) ∧ Inv μ t87 H
theorem laws_FnSeasons_L2 (a1 : Option Addr) (a2 : Option Addr) (a3 : Option Addr) (more_a : Option Addr) (more_e : Nat) (more_n : Nat) (r10 : Nat) (r4 : Nat) (r5 : Nat) (r6 : Nat) (r7 : Nat) (r9 : Nat) (sum : Nat) (z1_5 : Int) {Q : Post} (Inv : Nat → Int → AHeap → Prop) (ν : Nat) (t87 : Int)  (H : AHeap) (h0 : Inv ν t87 H)
    (hs : ∀ (μ : Nat) (t87 : Int)  (H : AHeap), Inv μ t87 H → exL Try.prog E_laws_FnSeasons (cl (cl (cr (cl (cr (cr (cr (cr (cr (cr (cr (cr (cr (bodyC Try.f8)))))))))))))) 232113757366008801543588578 16 [(2, 2594)] (laws_FnSeasons_P2 a1 a2 a3 more_a more_e more_n r10 r4 r5 r6 r7 r9 sum z1_5 t87) H (loopQ (laws_FnSeasons_I2 a1 a2 a3 more_a more_e more_n r10 r4 r5 r6 r7 r9 sum z1_5 Inv) μ Q)) : loopK (exL Try.prog E_laws_FnSeasons (cl (cl (cr (cl (cr (cr (cr (cr (cr (cr (cr (cr (cr (bodyC Try.f8)))))))))))))) 232113757366008801543588578 16 [(2, 2594)]) (laws_FnSeasons_P2 a1 a2 a3 more_a more_e more_n r10 r4 r5 r6 r7 r9 sum z1_5 t87) H Q :=
  ⟨laws_FnSeasons_I2 a1 a2 a3 more_a more_e more_n r10 r4 r5 r6 r7 r9 sum z1_5 Inv, ν, ⟨t87, rfl, h0⟩, fun μ tm H h => by obtain ⟨t87, rfl, hI⟩ := h; exact hs μ t87  H hI⟩
theorem laws_FnSeasons_n2 {a1 : Option Addr} {a2 : Option Addr} {a3 : Option Addr} {more_a : Option Addr} {more_e : Nat} {more_n : Nat} {r10 : Nat} {r4 : Nat} {r5 : Nat} {r6 : Nat} {r7 : Nat} {r9 : Nat} {sum : Nat} {z1_5 : Int} {Q : Post} {Inv : Nat → Int → AHeap → Prop} {μ : Nat} (μ' : Nat) {t87 : Int}  {H : AHeap} (hm : μ' < μ) (hI : Inv μ' t87 H) : loopQ (laws_FnSeasons_I2 a1 a2 a3 more_a more_e more_n r10 r4 r5 r6 r7 r9 sum z1_5 Inv) μ Q .normal (laws_FnSeasons_P2 a1 a2 a3 more_a more_e more_n r10 r4 r5 r6 r7 r9 sum z1_5 t87) H := ⟨μ', hm, t87, rfl, hI⟩
theorem laws_FnSeasons_x2_2 (a3 : Option Addr) (more_a : Option Addr) (more_e : Nat) (more_n : Nat) (r10 : Nat) (r9 : Nat) (sum : Nat) (z1_5 : Int) (H : AHeap) (K : Value → AHeap → Prop)  {I : Nat → List Value → AHeap → Prop} {μ : Nat} : loopQ I μ (blockQ 2 (seqQ (exL Try.prog E_laws_FnSeasons (cr (cr (cr (cr (cr (cr (cr (cr (cr (cr (bodyC Try.f8))))))))))) 16 16 []) (retK Try.prog Try.f8 K))) (.exit 2) [ud, .slice more_a more_n more_e, ud, ud, ud, .int .i64 z1_5, ud, ud, ud, .slice a3 r9 r10, ud, .float .f64 sum, ud, ud, ud, ud, ud, ud, ud, ud, ud, ud, ud, ud, ud, ud, ud, ud, ud, ud, ud, ud, ud, ud, ud, ud, ud, ud, ud, ud, ud, ud, ud, ud, ud, ud, ud, ud, ud, ud, ud, ud, ud, ud, ud, ud, ud, ud, ud, ud, ud, ud, ud, ud, ud, ud, ud, ud, ud, ud, ud, ud, ud, ud, ud, ud, ud, ud, ud, ud, ud, ud, ud, ud, ud, ud, ud, ud, ud, ud, ud, ud, ud, ud, ud, ud, ud, ud, ud, ud, ud, ud, ud, ud, ud, ud, ud, ud, ud, ud, ud, ud, ud, ud, ud, ud, ud, ud, ud, ud, ud, ud, ud, ud, ud, ud, ud, ud, ud, ud, ud, ud, ud, ud, ud, ud, ud, ud, ud, ud, ud, ud, ud, ud, ud, ud, ud, ud, ud, ud, ud, ud, ud, ud, ud, ud, ud, ud, ud, ud, ud, ud, ud, ud, ud, ud, ud, ud, ud, ud, ud, ud, ud, ud, ud, ud, ud, ud, ud, ud, ud, ud, ud, ud, ud, ud, ud, ud, ud, ud, ud, ud, ud, ud, ud, ud, ud, ud, ud, ud, ud, ud, ud, ud, ud, ud, ud, ud, ud, ud, ud, ud, ud, ud, ud, ud, ud, ud, ud, ud, ud, ud, ud, ud, ud, ud, ud, ud, ud, ud, ud] H =
  (T_impl_SeasonOf a3 r9 r10 z1_5 H fun (a4 : Option Addr) (r13 : Nat) (r14 : Nat) (r15 : Bool) (H8 : AHeap) => Br (!r15) (K (.bool false) H8) (T_laws_b10Gap sum 0 H8 fun (r16 : Nat) (H9 : AHeap) => Br (flt .f64 4576918229304087675 r16) (K (.bool false) H9) ((0 : Int) ≤ z1_5 ∧ z1_5 = z1_5 ∧ z1_5 < (most : Int) ∧ Al (zerosOf (.float .f32 0) (z1_5).toNat) H9 fun b5 H10 => T_laws_b10Apart a4 r13 r14 (some ⟨b5, 0, none⟩) ((z1_5).toNat) 1 4576918229304087675 H10 fun (r17 : Bool) (H11 : AHeap) => Br r17 (K (.bool false) H11) (T_laws_b10At more_a more_n more_e 2 17 H11 fun (r18 : Int) (H12 : AHeap) => T_laws_b10At more_a more_n more_e 3 17 H12 fun (r19 : Int) (H13 : AHeap) => Al [] H13 fun b6 H14 => Al [] H14 fun b7 H15 => loopK (exL Try.prog E_laws_FnSeasons (cl (cl (cr (cl (cr (cr (cr (cr (cr (cr (cr (cr (cr (cr (cr (cr (cr (cr (cr (cr (bodyC Try.f8))))))))))))))))))))) 2031618 16 [(4, 983042)]) [ud, .slice more_a more_n more_e, ud, ud, ud, ud, ud, ud, ud, ud, ud, ud, ud, ud, ud, ud, .float .f32 (fdiv .f32 (FloatKind.nearest .f32 (IntKind.wrap .i64 (r18 - 8))) 1082130432), .float .f32 (fdiv .f32 (FloatKind.nearest .f32 (IntKind.wrap .i64 (r19 - 8))) 1082130432), .slice (some ⟨b6, 0, none⟩) 0 1, .slice (some ⟨b7, 0, none⟩) 0 1, .int .i64 0, ud, ud, ud, ud, ud, ud, ud, ud, ud, ud, ud, ud, ud, ud, ud, ud, ud, ud, ud, ud, ud, ud, ud, ud, ud, ud, ud, ud, ud, ud, ud, ud, ud, ud, ud, ud, ud, ud, ud, ud, ud, ud, ud, ud, ud, ud, ud, ud, ud, ud, ud, ud, ud, ud, ud, ud, ud, ud, ud, ud, ud, ud, ud, ud, ud, ud, ud, ud, ud, ud, ud, ud, ud, ud, ud, ud, ud, ud, ud, ud, ud, ud, ud, ud, ud, ud, ud, ud, ud, ud, ud, ud, ud, ud, ud, ud, ud, ud, ud, ud, ud, ud, ud, ud, ud, ud, ud, ud, ud, ud, ud, ud, ud, ud, ud, ud, ud, ud, ud, ud, ud, ud, ud, ud, ud, ud, ud, ud, ud, ud, ud, ud, ud, ud, ud, ud, ud, ud, ud, ud, ud, ud, ud, ud, ud, ud, ud, ud, ud, ud, ud, ud, ud, ud, ud, ud, ud, ud, ud, ud, ud, ud, ud, ud, ud, ud, ud, ud, ud, ud, ud, ud, ud, ud, ud, ud, ud, ud, ud, ud, ud, ud, ud, ud, ud, ud, ud, ud, ud, ud, ud, ud, ud, ud, ud, ud, ud, ud, ud, ud, ud, ud, ud, ud, ud, ud, ud, ud, ud, ud] H15 (blockQ 4 (seqQ (exL Try.prog E_laws_FnSeasons (cr (cr (cr (cr (cr (cr (cr (cr (cr (cr (cr (cr (cr (cr (cr (cr (cr (bodyC Try.f8)))))))))))))))))) 16 16 []) (retK Try.prog Try.f8 K))))))) := by kernel_rfl
theorem laws_FnSeasons_x2_ret (t4 : Bool) (H : AHeap) (K : Value → AHeap → Prop)  {I : Nat → List Value → AHeap → Prop} {μ : Nat} : loopQ I μ (blockQ 2 (seqQ (exL Try.prog E_laws_FnSeasons (cr (cr (cr (cr (cr (cr (cr (cr (cr (cr (bodyC Try.f8))))))))))) 16 16 []) (retK Try.prog Try.f8 K))) .ret [ud, ud, ud, ud, .bool t4, ud, ud, ud, ud, ud, ud, ud, ud, ud, ud, ud, ud, ud, ud, ud, ud, ud, ud, ud, ud, ud, ud, ud, ud, ud, ud, ud, ud, ud, ud, ud, ud, ud, ud, ud, ud, ud, ud, ud, ud, ud, ud, ud, ud, ud, ud, ud, ud, ud, ud, ud, ud, ud, ud, ud, ud, ud, ud, ud, ud, ud, ud, ud, ud, ud, ud, ud, ud, ud, ud, ud, ud, ud, ud, ud, ud, ud, ud, ud, ud, ud, ud, ud, ud, ud, ud, ud, ud, ud, ud, ud, ud, ud, ud, ud, ud, ud, ud, ud, ud, ud, ud, ud, ud, ud, ud, ud, ud, ud, ud, ud, ud, ud, ud, ud, ud, ud, ud, ud, ud, ud, ud, ud, ud, ud, ud, ud, ud, ud, ud, ud, ud, ud, ud, ud, ud, ud, ud, ud, ud, ud, ud, ud, ud, ud, ud, ud, ud, ud, ud, ud, ud, ud, ud, ud, ud, ud, ud, ud, ud, ud, ud, ud, ud, ud, ud, ud, ud, ud, ud, ud, ud, ud, ud, ud, ud, ud, ud, ud, ud, ud, ud, ud, ud, ud, ud, ud, ud, ud, ud, ud, ud, ud, ud, ud, ud, ud, ud, ud, ud, ud, ud, ud, ud, ud, ud, ud, ud, ud, ud, ud, ud, ud, ud, ud, ud, ud, ud, ud, ud, ud, ud, ud, ud, ud, ud] H =
  (K (.bool t4) H) := by kernel_rfl
abbrev laws_FnSeasons_P3 (more_a : Option Addr) (more_e : Nat) (more_n : Nat) (r18 : Int) (r19 : Int) (line_a : Option Addr) (line_n : Nat) (line_e : Nat) (times_a : Option Addr) (times_n : Nat) (times_e : Nat) (k : Int)  : List Value := [ud, .slice more_a more_n more_e, ud, ud, ud, ud, ud, ud, ud, ud, ud, ud, ud, ud, ud, ud, .float .f32 (fdiv .f32 (FloatKind.nearest .f32 (IntKind.wrap .i64 (r18 - 8))) 1082130432), .float .f32 (fdiv .f32 (FloatKind.nearest .f32 (IntKind.wrap .i64 (r19 - 8))) 1082130432), .slice line_a line_n line_e, .slice times_a times_n times_e, .int .i64 k, ud, ud, ud, ud, ud, ud, ud, ud, ud, ud, ud, ud, ud, ud, ud, ud, ud, ud, ud, ud, ud, ud, ud, ud, ud, ud, ud, ud, ud, ud, ud, ud, ud, ud, ud, ud, ud, ud, ud, ud, ud, ud, ud, ud, ud, ud, ud, ud, ud, ud, ud, ud, ud, ud, ud, ud, ud, ud, ud, ud, ud, ud, ud, ud, ud, ud, ud, ud, ud, ud, ud, ud, ud, ud, ud, ud, ud, ud, ud, ud, ud, ud, ud, ud, ud, ud, ud, ud, ud, ud, ud, ud, ud, ud, ud, ud, ud, ud, ud, ud, ud, ud, ud, ud, ud, ud, ud, ud, ud, ud, ud, ud, ud, ud, ud, ud, ud, ud, ud, ud, ud, ud, ud, ud, ud, ud, ud, ud, ud, ud, ud, ud, ud, ud, ud, ud, ud, ud, ud, ud, ud, ud, ud, ud, ud, ud, ud, ud, ud, ud, ud, ud, ud, ud, ud, ud, ud, ud, ud, ud, ud, ud, ud, ud, ud, ud, ud, ud, ud, ud, ud, ud, ud, ud, ud, ud, ud, ud, ud, ud, ud, ud, ud, ud, ud, ud, ud, ud, ud, ud, ud, ud, ud, ud, ud, ud, ud, ud, ud, ud, ud, ud, ud, ud, ud, ud, ud, ud, ud, ud]
theorem laws_FnSeasons_r3 (more_a : Option Addr) (more_e : Nat) (more_n : Nat) (r18 : Int) (r19 : Int) (line_a : Option Addr) (line_n : Nat) (line_e : Nat) (times_a : Option Addr) (times_n : Nat) (times_e : Nat) (k : Int)  (H : AHeap) (R : Post) : exL Try.prog E_laws_FnSeasons (cl (cl (cr (cl (cr (cr (cr (cr (cr (cr (cr (cr (cr (cr (cr (cr (cr (cr (cr (cr (bodyC Try.f8))))))))))))))))))))) 2031618 16 [(4, 983042)] (laws_FnSeasons_P3 more_a more_e more_n r18 r19 line_a line_n line_e times_a times_n times_e k) H R =
  (Br (decide ((k : Int) < 7)) (Al [.float .f32 (fadd .f32 (fmul .f32 (fdiv .f32 (FloatKind.nearest .f32 (IntKind.wrap .i64 (r18 - 8))) 1082130432) (FloatKind.nearest .f32 k)) (fdiv .f32 (FloatKind.nearest .f32 (IntKind.wrap .i64 (r19 - 8))) 1082130432))] H fun b8 H16 => ∃ o1 w1 : List Value, ownB H16 line_a line_n line_e 1 = some o1 ∧ rdS H16 (some ⟨b8, 0, none⟩) (1 * 1) = some w1 ∧ ((line_a : Option Addr) = none → 0 < (1 : Nat)) ∧ (line_n : Nat) + 1 < most ∧ Ap H16 (killB H16 line_a ++ [some ⟨o1 ++ w1, true⟩]) fun b9 H17 => Al [.float .f32 (FloatKind.nearest .f32 k)] H17 fun b10 H18 => ∃ o2 w2 : List Value, ownB H18 times_a times_n times_e 1 = some o2 ∧ rdS H18 (some ⟨b10, 0, none⟩) (1 * 1) = some w2 ∧ ((times_a : Option Addr) = none → 0 < (1 : Nat)) ∧ (times_n : Nat) + 1 < most ∧ Ap H18 (killB H18 times_a ++ [some ⟨o2 ++ w2, true⟩]) fun b11 H19 => R .normal [ud, .slice more_a more_n more_e, ud, ud, ud, ud, ud, ud, ud, ud, ud, ud, ud, ud, ud, ud, .float .f32 (fdiv .f32 (FloatKind.nearest .f32 (IntKind.wrap .i64 (r18 - 8))) 1082130432), .float .f32 (fdiv .f32 (FloatKind.nearest .f32 (IntKind.wrap .i64 (r19 - 8))) 1082130432), .slice (some ⟨b9, 0, none⟩) (line_n + 1) 1, .slice (some ⟨b11, 0, none⟩) (times_n + 1) 1, .int .i64 (IntKind.wrap .i64 (k + 1)), ud, ud, ud, ud, ud, ud, ud, ud, ud, ud, ud, ud, ud, ud, ud, ud, ud, ud, ud, ud, ud, ud, ud, ud, ud, ud, ud, ud, ud, ud, ud, ud, ud, ud, ud, ud, ud, ud, ud, ud, ud, ud, ud, ud, ud, ud, ud, ud, ud, ud, ud, ud, ud, ud, ud, ud, ud, ud, ud, ud, ud, ud, ud, ud, ud, ud, ud, ud, ud, ud, ud, ud, ud, ud, ud, ud, ud, ud, ud, ud, ud, ud, ud, ud, ud, ud, ud, ud, ud, ud, ud, ud, ud, ud, ud, ud, ud, ud, ud, ud, ud, ud, ud, ud, ud, ud, ud, ud, ud, ud, ud, ud, ud, ud, ud, ud, ud, ud, ud, ud, ud, ud, ud, ud, ud, ud, ud, ud, ud, ud, ud, ud, ud, ud, ud, ud, ud, ud, ud, ud, ud, ud, ud, ud, ud, ud, ud, ud, ud, ud, ud, ud, ud, ud, ud, ud, ud, ud, ud, ud, ud, ud, ud, ud, ud, ud, ud, ud, ud, ud, ud, ud, ud, ud, ud, ud, ud, ud, ud, ud, ud, ud, ud, ud, ud, ud, ud, ud, ud, ud, ud, ud, ud, ud, ud, ud, ud, ud, ud, ud, ud, ud, ud, ud, ud, ud, ud, ud, ud, ud] H19) (R (.exit 4) [ud, .slice more_a more_n more_e, ud, ud, ud, ud, ud, ud, ud, ud, ud, ud, ud, ud, ud, ud, .float .f32 (fdiv .f32 (FloatKind.nearest .f32 (IntKind.wrap .i64 (r18 - 8))) 1082130432), .float .f32 (fdiv .f32 (FloatKind.nearest .f32 (IntKind.wrap .i64 (r19 - 8))) 1082130432), .slice line_a line_n line_e, .slice times_a times_n times_e, ud, ud, ud, ud, ud, ud, ud, ud, ud, ud, ud, ud, ud, ud, ud, ud, ud, ud, ud, ud, ud, ud, ud, ud, ud, ud, ud, ud, ud, ud, ud, ud, ud, ud, ud, ud, ud, ud, ud, ud, ud, ud, ud, ud, ud, ud, ud, ud, ud, ud, ud, ud, ud, ud, ud, ud, ud, ud, ud, ud, ud, ud, ud, ud, ud, ud, ud, ud, ud, ud, ud, ud, ud, ud, ud, ud, ud, ud, ud, ud, ud, ud, ud, ud, ud, ud, ud, ud, ud, ud, ud, ud, ud, ud, ud, ud, ud, ud, ud, ud, ud, ud, ud, ud, ud, ud, ud, ud, ud, ud, ud, ud, ud, ud, ud, ud, ud, ud, ud, ud, ud, ud, ud, ud, ud, ud, ud, ud, ud, ud, ud, ud, ud, ud, ud, ud, ud, ud, ud, ud, ud, ud, ud, ud, ud, ud, ud, ud, ud, ud, ud, ud, ud, ud, ud, ud, ud, ud, ud, ud, ud, ud, ud, ud, ud, ud, ud, ud, ud, ud, ud, ud, ud, ud, ud, ud, ud, ud, ud, ud, ud, ud, ud, ud, ud, ud, ud, ud, ud, ud, ud, ud, ud, ud, ud, ud, ud, ud, ud, ud, ud, ud, ud, ud, ud, ud, ud, ud, ud, ud, ud] H)) := by kernel_rfl
def laws_FnSeasons_I3 (more_a : Option Addr) (more_e : Nat) (more_n : Nat) (r18 : Int) (r19 : Int) (Inv : Nat → (Option Addr) → Nat → Nat → (Option Addr) → Nat → Nat → Int → AHeap → Prop) : Nat → List Value → AHeap → Prop := fun μ tm H => ∃ (line_a : Option Addr), ∃ (line_n : Nat), ∃ (line_e : Nat), ∃ (times_a : Option Addr), ∃ (times_n : Nat), ∃ (times_e : Nat), ∃ (k : Int), tm = (laws_FnSeasons_P3 more_a more_e more_n r18 r19 line_a line_n line_e times_a times_n times_e k) ∧ Inv μ line_a line_n line_e times_a times_n times_e k H
theorem laws_FnSeasons_L3 (more_a : Option Addr) (more_e : Nat) (more_n : Nat) (r18 : Int) (r19 : Int) {Q : Post} (Inv : Nat → (Option Addr) → Nat → Nat → (Option Addr) → Nat → Nat → Int → AHeap → Prop) (ν : Nat) (line_a : Option Addr) (line_n : Nat) (line_e : Nat) (times_a : Option Addr) (times_n : Nat) (times_e : Nat) (k : Int)  (H : AHeap) (h0 : Inv ν line_a line_n line_e times_a times_n times_e k H)
    (hs : ∀ (μ : Nat) (line_a : Option Addr) (line_n : Nat) (line_e : Nat) (times_a : Option Addr) (times_n : Nat) (times_e : Nat) (k : Int)  (H : AHeap), Inv μ line_a line_n line_e times_a times_n times_e k H → exL Try.prog E_laws_FnSeasons (cl (cl (cr (cl (cr (cr (cr (cr (cr (cr (cr (cr (cr (cr (cr (cr (cr (cr (cr (cr (bodyC Try.f8))))))))))))))))))))) 2031618 16 [(4, 983042)] (laws_FnSeasons_P3 more_a more_e more_n r18 r19 line_a line_n line_e times_a times_n times_e k) H (loopQ (laws_FnSeasons_I3 more_a more_e more_n r18 r19 Inv) μ Q)) : loopK (exL Try.prog E_laws_FnSeasons (cl (cl (cr (cl (cr (cr (cr (cr (cr (cr (cr (cr (cr (cr (cr (cr (cr (cr (cr (cr (bodyC Try.f8))))))))))))))))))))) 2031618 16 [(4, 983042)]) (laws_FnSeasons_P3 more_a more_e more_n r18 r19 line_a line_n line_e times_a times_n times_e k) H Q :=
  ⟨laws_FnSeasons_I3 more_a more_e more_n r18 r19 Inv, ν, ⟨line_a, line_n, line_e, times_a, times_n, times_e, k, rfl, h0⟩, fun μ tm H h => by obtain ⟨line_a, line_n, line_e, times_a, times_n, times_e, k, rfl, hI⟩ := h; exact hs μ line_a line_n line_e times_a times_n times_e k  H hI⟩
theorem laws_FnSeasons_n3 {more_a : Option Addr} {more_e : Nat} {more_n : Nat} {r18 : Int} {r19 : Int} {Q : Post} {Inv : Nat → (Option Addr) → Nat → Nat → (Option Addr) → Nat → Nat → Int → AHeap → Prop} {μ : Nat} (μ' : Nat) {line_a : Option Addr} {line_n : Nat} {line_e : Nat} {times_a : Option Addr} {times_n : Nat} {times_e : Nat} {k : Int}  {H : AHeap} (hm : μ' < μ) (hI : Inv μ' line_a line_n line_e times_a times_n times_e k H) : loopQ (laws_FnSeasons_I3 more_a more_e more_n r18 r19 Inv) μ Q .normal (laws_FnSeasons_P3 more_a more_e more_n r18 r19 line_a line_n line_e times_a times_n times_e k) H := ⟨μ', hm, line_a, line_n, line_e, times_a, times_n, times_e, k, rfl, hI⟩
theorem laws_FnSeasons_x3_4 (more_a : Option Addr) (more_e : Nat) (more_n : Nat) (r18 : Int) (r19 : Int) (line_a : Option Addr) (line_n : Nat) (line_e : Nat) (times_a : Option Addr) (times_n : Nat) (times_e : Nat) (H : AHeap) (K : Value → AHeap → Prop)  {I : Nat → List Value → AHeap → Prop} {μ : Nat} : loopQ I μ (blockQ 4 (seqQ (exL Try.prog E_laws_FnSeasons (cr (cr (cr (cr (cr (cr (cr (cr (cr (cr (cr (cr (cr (cr (cr (cr (cr (bodyC Try.f8)))))))))))))))))) 16 16 []) (retK Try.prog Try.f8 K))) (.exit 4) [ud, .slice more_a more_n more_e, ud, ud, ud, ud, ud, ud, ud, ud, ud, ud, ud, ud, ud, ud, .float .f32 (fdiv .f32 (FloatKind.nearest .f32 (IntKind.wrap .i64 (r18 - 8))) 1082130432), .float .f32 (fdiv .f32 (FloatKind.nearest .f32 (IntKind.wrap .i64 (r19 - 8))) 1082130432), .slice line_a line_n line_e, .slice times_a times_n times_e, ud, ud, ud, ud, ud, ud, ud, ud, ud, ud, ud, ud, ud, ud, ud, ud, ud, ud, ud, ud, ud, ud, ud, ud, ud, ud, ud, ud, ud, ud, ud, ud, ud, ud, ud, ud, ud, ud, ud, ud, ud, ud, ud, ud, ud, ud, ud, ud, ud, ud, ud, ud, ud, ud, ud, ud, ud, ud, ud, ud, ud, ud, ud, ud, ud, ud, ud, ud, ud, ud, ud, ud, ud, ud, ud, ud, ud, ud, ud, ud, ud, ud, ud, ud, ud, ud, ud, ud, ud, ud, ud, ud, ud, ud, ud, ud, ud, ud, ud, ud, ud, ud, ud, ud, ud, ud, ud, ud, ud, ud, ud, ud, ud, ud, ud, ud, ud, ud, ud, ud, ud, ud, ud, ud, ud, ud, ud, ud, ud, ud, ud, ud, ud, ud, ud, ud, ud, ud, ud, ud, ud, ud, ud, ud, ud, ud, ud, ud, ud, ud, ud, ud, ud, ud, ud, ud, ud, ud, ud, ud, ud, ud, ud, ud, ud, ud, ud, ud, ud, ud, ud, ud, ud, ud, ud, ud, ud, ud, ud, ud, ud, ud, ud, ud, ud, ud, ud, ud, ud, ud, ud, ud, ud, ud, ud, ud, ud, ud, ud, ud, ud, ud, ud, ud, ud, ud, ud, ud, ud, ud, ud] H =
  (T_impl_TrendOf line_a line_n line_e H fun (r20 : Nat) (r21 : Nat) (r22 : Bool) (H20 : AHeap) => T_laws_b10At more_a more_n more_e 4 13 H20 fun (r23 : Int) (H21 : AHeap) => T_laws_b10At more_a more_n more_e 5 4 H21 fun (r24 : Int) (H22 : AHeap) => T_impl_KernelMean times_a times_n times_e line_a line_n line_e (fdiv .f32 (FloatKind.nearest .f32 r23) 1073741824) (fdiv .f32 (FloatKind.nearest .f32 (IntKind.wrap .i64 (1 + r24))) 1073741824) H22 fun (r25 : Nat) (r26 : Bool) (H23 : AHeap) => (0 : Int) ≤ 0 ∧ 0 < (line_n : Int) ∧ ∃ b12 f5, (line_a : Option Addr) = some ⟨b12, f5, none⟩ ∧ ∃ x5 : Nat,  rdC H23 b12 (f5 + (0 : Int).toNat * 1) = some (.float .f32 x5) ∧ (0 : Int) ≤ 6 ∧ 6 < (line_n : Int) ∧ ∃ b13 f6, (line_a : Option Addr) = some ⟨b13, f6, none⟩ ∧ ∃ x6 : Nat,  rdC H23 b13 (f6 + (6 : Int).toNat * 1) = some (.float .f32 x6) ∧ (0 : Int) ≤ 0 ∧ 0 < (line_n : Int) ∧ ∃ b14 f7, (line_a : Option Addr) = some ⟨b14, f7, none⟩ ∧ ∃ x7 : Nat,  rdC H23 b14 (f7 + (0 : Int).toNat * 1) = some (.float .f32 x7) ∧ (0 : Int) ≤ 6 ∧ 6 < (line_n : Int) ∧ ∃ b15 f8, (line_a : Option Addr) = some ⟨b15, f8, none⟩ ∧ ∃ x8 : Nat,  rdC H23 b15 (f8 + (6 : Int).toNat * 1) = some (.float .f32 x8) ∧ Br r22 (Br r26 (T_laws_b10Gap (fwide r20) (fwide (fdiv .f32 (FloatKind.nearest .f32 (IntKind.wrap .i64 (r18 - 8))) 1082130432)) H23 fun (r27 : Nat) (H24 : AHeap) => Br (flt .f64 r27 4562254508917369340) (T_laws_b10Gap (fwide r21) (fwide (fdiv .f32 (FloatKind.nearest .f32 (IntKind.wrap .i64 (r19 - 8))) 1082130432)) H24 fun (r28 : Nat) (H25 : AHeap) => Br (flt .f64 r28 4562254508917369340) (Br (fle .f64 (fsub .f64 (fwide (fmin .f32 x5 x6)) 4562254508917369340) (fwide r25)) (K (.bool (fle .f64 (fwide r25) (fadd .f64 (fwide (fmax .f32 x7 x8)) 4562254508917369340))) H25) (K (.bool false) H25)) (K (.bool false) H25)) (K (.bool false) H24)) (K (.bool false) H23)) (K (.bool false) H23)) := by kernel_rfl
theorem E_laws_FnSeasons_ok : ∀ g, FnOk Try.prog g (E_laws_FnSeasons g) := FnOk.envOf (by
  intro x hx
  simp only [List.mem_cons, List.not_mem_nil, or_false] at hx
  rcases hx with rfl | rfl | rfl | rfl | rfl | rfl | rfl | rfl | rfl
  · exact laws_b10Long_ok
  · exact laws_b10At_ok
  · exact spec_B10Signal_ok
  · exact impl_SeasonOf_ok
  · exact impl_WithoutSeason_ok
  · exact laws_b10Gap_ok
  · exact laws_b10Apart_ok
  · exact impl_TrendOf_ok
  · exact impl_KernelMean_ok)
theorem ω8 {P : Prop} (h : P := by first | assumption | omega | (simp; omega)) : P := h
set_option maxHeartbeats 1000000 in
theorem laws_FnSeasons_main (code_a : Option Addr) (code_n : Nat) (code_e : Nat) (more_a : Option Addr) (more_n : Nat) (more_e : Nat) (H : AHeap) (K : Value → AHeap → Prop) (h : T_laws_FnSeasons code_a code_n code_e more_a more_n more_e H fun (r1 : Bool) (H' : AHeap) => K (.bool r1) H') : bodyL Try.prog E_laws_FnSeasons Try.f8 [.slice code_a code_n code_e, .slice more_a more_n more_e] H K := by
  rw [laws_FnSeasons_vc]
  obtain ⟨l_code, l_more, h_0, h_1, hk⟩ := h
  have i_code := h_0
  obtain rfl := i_code.eqn
  have i_more := h_1
  obtain rfl := i_more.eqn
  have hl := laws_FnSeasons_true l_code l_more 
  have e : p_laws_FnSeasons l_code l_more = _ := rfl
  have e := e.trans (p_laws_FnSeasons_eq l_code l_more)
  have e := hl.symm.trans e
  have g0 := Grow.refl H
  have sn := seas_n l_more
  refine T_laws_b10Long_i ⟨_, _, (i_code.grow g0), (i_more.grow g0), ?_⟩
  refine Br.intro (fun c_1 => ?_) (fun c_1 => ?_)
  · have e := e.trans (cond_t c_1)
    first | exact hk _ | (exfalso; cases e; done) | (rw [← e]; exact hk _)
  · have e := e.trans (cond_f c_1)
    have c_1' := laws_b10Long_f c_1
    refine T_laws_b10At_i ⟨_, (i_more.grow g0), ω0, ω8, ω8, ?_⟩
    have z_2 := laws_b10At_rng l_more (0 : Int) (5 : Int) ω2 ω2
    refine T_laws_b10At_i ⟨_, (i_more.grow g0), ω0, ω8, ω8, ?_⟩
    have z_3 := laws_b10At_rng l_more (1 : Int) (4 : Int) ω2 ω2
    refine T_spec_B10Signal_i ⟨_, (i_code.grow g0), ω0, ω8, fun a_4 n_5 e_6 H_1 g_9 r_7 => ?_⟩
    have z_8 := spec_B10Signal_len l_code (IntKind.wrap .i64 ((IntKind.wrap .i64 (1 + ((p_laws_b10At l_more (0 : Int) (5 : Int))))) * (IntKind.wrap .i64 (1 + ((p_laws_b10At l_more (1 : Int) (4 : Int)))))))
    have l_10 := g_9.1
    have g_11 := g0.trans g_9
    have l_12 := g_11.1
    obtain rfl := r_7.isL.eqn
    have u_13 := r_7.up
    have u_14 := r_7.lo
    refine T_impl_SeasonOf_i ⟨_, r_7.isL, ω0, fun a_16 n_17 e_18 H_2 g_21 r_19 => ?_⟩
    have z_20 := impl_SeasonOf_len ((p_spec_B10Signal l_code (IntKind.wrap .i64 ((IntKind.wrap .i64 (1 + ((p_laws_b10At l_more (0 : Int) (5 : Int))))) * (IntKind.wrap .i64 (1 + ((p_laws_b10At l_more (1 : Int) (4 : Int))))))))) (IntKind.wrap .i64 (1 + ((p_laws_b10At l_more (0 : Int) (5 : Int)))))
    have l_22 := g_21.1
    have g_23 := g_11.trans g_21
    have l_24 := g_23.1
    have r_25 := r_7.grow g_21
    obtain rfl := r_19.isL.eqn
    have u_26 := r_19.up
    have u_27 := r_19.lo
    refine T_impl_WithoutSeason_i ⟨_, r_25.isL, ω0, fun a_29 n_30 e_31 H_3 g_34 r_32 => ?_⟩
    have z_33 := impl_WithoutSeason_len ((p_spec_B10Signal l_code (IntKind.wrap .i64 ((IntKind.wrap .i64 (1 + ((p_laws_b10At l_more (0 : Int) (5 : Int))))) * (IntKind.wrap .i64 (1 + ((p_laws_b10At l_more (1 : Int) (4 : Int))))))))) (IntKind.wrap .i64 (1 + ((p_laws_b10At l_more (0 : Int) (5 : Int)))))
    have l_35 := g_34.1
    have g_36 := g_23.trans g_34
    have l_37 := g_36.1
    have r_38 := r_25.grow g_34
    have r_39 := r_19.grow g_34
    obtain rfl := r_32.isL.eqn
    have u_40 := r_32.up
    have u_41 := r_32.lo
    refine Br.intro (fun c_43 => ?_) (fun c_43 => ?_)
    · have e := e.trans (cond_t c_43)
      have c_43n := nf_of_t c_43
      first | exact hk _ | (exfalso; cases e; done) | (rw [← e]; exact hk _)
    · have e := e.trans (cond_f c_43)
      have c_43n := nt_of_f c_43
      have c_43n' := impl_SeasonOf_t c_43n
      refine Br.intro (fun c_44 => ?_) (fun c_44 => ?_)
      · have e := e.trans (cond_t c_44)
        have c_44n := nf_of_t c_44
        first | exact hk _ | (exfalso; cases e; done) | (rw [← e]; exact hk _)
      · have e := e.trans (cond_f c_44)
        have c_44n := nt_of_f c_44
        refine Br.intro (fun c_45 => ?_) (fun c_45 => ?_)
        · have e := e.trans (cond_t c_45)
          have c_45' := ine_t c_45
          first | exact hk _ | (exfalso; cases e; done) | (rw [← e]; exact hk _)
        · have e := e.trans (cond_f c_45)
          have c_45' := ine_f c_45
          refine Br.intro (fun c_46 => ?_) (fun c_46 => ?_)
          · have e := e.trans (cond_t c_46)
            have c_46' := ine_t c_46
            first | exact hk _ | (exfalso; cases e; done) | (rw [← e]; exact hk _)
          · have e := e.trans (cond_f c_46)
            have c_46' := ine_f c_46
            refine laws_FnSeasons_L1 _ _ _ _ _ _ _ _ _ _ _ _ _ (fun (μ : Nat) (sum : Nat) (t74 : Int) (H_4 : AHeap) => OwnS fF H_4 H.length a_4 (((p_spec_B10Signal l_code (IntKind.wrap .i64 ((IntKind.wrap .i64 (1 + ((p_laws_b10At l_more (0 : Int) (5 : Int))))) * (IntKind.wrap .i64 (1 + ((p_laws_b10At l_more (1 : Int) (4 : Int))))))))).length) e_6 ((p_spec_B10Signal l_code (IntKind.wrap .i64 ((IntKind.wrap .i64 (1 + ((p_laws_b10At l_more (0 : Int) (5 : Int))))) * (IntKind.wrap .i64 (1 + ((p_laws_b10At l_more (1 : Int) (4 : Int))))))))) ∧ OwnS fF H_4 H_1.length a_16 (((p_impl_SeasonOf ((p_spec_B10Signal l_code (IntKind.wrap .i64 ((IntKind.wrap .i64 (1 + ((p_laws_b10At l_more (0 : Int) (5 : Int))))) * (IntKind.wrap .i64 (1 + ((p_laws_b10At l_more (1 : Int) (4 : Int))))))))) (IntKind.wrap .i64 (1 + ((p_laws_b10At l_more (0 : Int) (5 : Int)))))).1).length) e_18 ((p_impl_SeasonOf ((p_spec_B10Signal l_code (IntKind.wrap .i64 ((IntKind.wrap .i64 (1 + ((p_laws_b10At l_more (0 : Int) (5 : Int))))) * (IntKind.wrap .i64 (1 + ((p_laws_b10At l_more (1 : Int) (4 : Int))))))))) (IntKind.wrap .i64 (1 + ((p_laws_b10At l_more (0 : Int) (5 : Int)))))).1) ∧ OwnS fF H_4 H_2.length a_29 (((p_impl_WithoutSeason ((p_spec_B10Signal l_code (IntKind.wrap .i64 ((IntKind.wrap .i64 (1 + ((p_laws_b10At l_more (0 : Int) (5 : Int))))) * (IntKind.wrap .i64 (1 + ((p_laws_b10At l_more (1 : Int) (4 : Int))))))))) (IntKind.wrap .i64 (1 + ((p_laws_b10At l_more (0 : Int) (5 : Int)))))).1).length) e_31 ((p_impl_WithoutSeason ((p_spec_B10Signal l_code (IntKind.wrap .i64 ((IntKind.wrap .i64 (1 + ((p_laws_b10At l_more (0 : Int) (5 : Int))))) * (IntKind.wrap .i64 (1 + ((p_laws_b10At l_more (1 : Int) (4 : Int))))))))) (IntKind.wrap .i64 (1 + ((p_laws_b10At l_more (0 : Int) (5 : Int)))))).1) ∧ H_1.length ≤ H_4.length ∧ H_2.length ≤ H_4.length ∧ H_3.length ≤ H_4.length ∧ Grow H H_4 ∧ (0 : Int) ≤ t74 ∧ t74 ≤ (((p_impl_SeasonOf ((p_spec_B10Signal l_code (IntKind.wrap .i64 ((IntKind.wrap .i64 (1 + ((p_laws_b10At l_more (0 : Int) (5 : Int))))) * (IntKind.wrap .i64 (1 + ((p_laws_b10At l_more (1 : Int) (4 : Int))))))))) (IntKind.wrap .i64 (1 + ((p_laws_b10At l_more (0 : Int) (5 : Int)))))).1).length : Int) ∧ (((p_impl_SeasonOf ((p_spec_B10Signal l_code (IntKind.wrap .i64 ((IntKind.wrap .i64 (1 + ((p_laws_b10At l_more (0 : Int) (5 : Int))))) * (IntKind.wrap .i64 (1 + ((p_laws_b10At l_more (1 : Int) (4 : Int))))))))) (IntKind.wrap .i64 (1 + ((p_laws_b10At l_more (0 : Int) (5 : Int)))))).1).length : Int) - t74 ≤ (μ : Int) ∧ true = p_laws_FnSeasons_l1 l_code l_more (μ + 1) sum t74) (Int.toNat ((((p_impl_SeasonOf ((p_spec_B10Signal l_code (IntKind.wrap .i64 ((IntKind.wrap .i64 (1 + ((p_laws_b10At l_more (0 : Int) (5 : Int))))) * (IntKind.wrap .i64 (1 + ((p_laws_b10At l_more (1 : Int) (4 : Int))))))))) (IntKind.wrap .i64 (1 + ((p_laws_b10At l_more (0 : Int) (5 : Int)))))).1).length : Int) - (0 : Int))) _ _ H_3 ?_ ?_
            · exact ⟨r_38, r_39, r_32, ω2, ω2, ω2, g_36, ω5, ω5, ω2, e⟩
            · intro μ sum t74  H_4 hI
              obtain ⟨r_47, r_48, r_49, n_50, n_51, n_52, g_53, v_54, v_55, hμ, e⟩ := hI
              rw [laws_FnSeasons_r1]
              have e := e.trans (p_laws_FnSeasons_l1_s l_code l_more μ sum t74)
              have l_56 := g_53.1
              refine Br.intro (fun c_57 => ?_) (fun c_57 => ?_)
              · have e := e.trans (cond_t c_57)
                have c_57' := of_decide_eq_true c_57
                obtain ⟨b_58, f_59, q_60⟩ := (r_48.isL).pos ω0
                refine ⟨by omega, by omega, b_58, f_59, q_60, ?_⟩
                refine ⟨(((p_impl_SeasonOf ((p_spec_B10Signal l_code (IntKind.wrap .i64 ((IntKind.wrap .i64 (1 + ((p_laws_b10At l_more (0 : Int) (5 : Int))))) * (IntKind.wrap .i64 (1 + ((p_laws_b10At l_more (1 : Int) (4 : Int))))))))) (IntKind.wrap .i64 (1 + ((p_laws_b10At l_more (0 : Int) (5 : Int)))))).1).getD (t74 : Int).toNat 0), (r_48.isL).rd (Grow.refl _) q_60 ω2 _, ?_⟩
                rw [show IntKind.wrap .i64 (t74 + 1) = (t74 + 1) from wrap64 ω2 ω2]
                refine laws_FnSeasons_n1 (μ - 1) ω9 ⟨r_47, r_48, r_49, ω2, ω2, ω2, g_53, ω1, ω1, ω9, (by rw [show μ - 1 + 1 = μ from by first | omega]; exact e)⟩
              · have e := e.trans (cond_f c_57)
                have c_57' := of_decide_eq_false c_57
                rw [laws_FnSeasons_x1_0]
                refine laws_FnSeasons_L2 _ _ _ _ _ _ _ _ _ _ _ _ _ _ (fun (μ2 : Nat) (t87 : Int) (H_5 : AHeap) => ∃ (t4 : Bool), OwnS fF H_5 H.length a_4 (((p_spec_B10Signal l_code (IntKind.wrap .i64 ((IntKind.wrap .i64 (1 + ((p_laws_b10At l_more (0 : Int) (5 : Int))))) * (IntKind.wrap .i64 (1 + ((p_laws_b10At l_more (1 : Int) (4 : Int))))))))).length) e_6 ((p_spec_B10Signal l_code (IntKind.wrap .i64 ((IntKind.wrap .i64 (1 + ((p_laws_b10At l_more (0 : Int) (5 : Int))))) * (IntKind.wrap .i64 (1 + ((p_laws_b10At l_more (1 : Int) (4 : Int))))))))) ∧ OwnS fF H_5 H_1.length a_16 (((p_impl_SeasonOf ((p_spec_B10Signal l_code (IntKind.wrap .i64 ((IntKind.wrap .i64 (1 + ((p_laws_b10At l_more (0 : Int) (5 : Int))))) * (IntKind.wrap .i64 (1 + ((p_laws_b10At l_more (1 : Int) (4 : Int))))))))) (IntKind.wrap .i64 (1 + ((p_laws_b10At l_more (0 : Int) (5 : Int)))))).1).length) e_18 ((p_impl_SeasonOf ((p_spec_B10Signal l_code (IntKind.wrap .i64 ((IntKind.wrap .i64 (1 + ((p_laws_b10At l_more (0 : Int) (5 : Int))))) * (IntKind.wrap .i64 (1 + ((p_laws_b10At l_more (1 : Int) (4 : Int))))))))) (IntKind.wrap .i64 (1 + ((p_laws_b10At l_more (0 : Int) (5 : Int)))))).1) ∧ OwnS fF H_5 H_2.length a_29 (((p_impl_WithoutSeason ((p_spec_B10Signal l_code (IntKind.wrap .i64 ((IntKind.wrap .i64 (1 + ((p_laws_b10At l_more (0 : Int) (5 : Int))))) * (IntKind.wrap .i64 (1 + ((p_laws_b10At l_more (1 : Int) (4 : Int))))))))) (IntKind.wrap .i64 (1 + ((p_laws_b10At l_more (0 : Int) (5 : Int)))))).1).length) e_31 ((p_impl_WithoutSeason ((p_spec_B10Signal l_code (IntKind.wrap .i64 ((IntKind.wrap .i64 (1 + ((p_laws_b10At l_more (0 : Int) (5 : Int))))) * (IntKind.wrap .i64 (1 + ((p_laws_b10At l_more (1 : Int) (4 : Int))))))))) (IntKind.wrap .i64 (1 + ((p_laws_b10At l_more (0 : Int) (5 : Int)))))).1) ∧ H_1.length ≤ H_5.length ∧ H_2.length ≤ H_5.length ∧ H_3.length ≤ H_5.length ∧ Grow H H_5 ∧ (0 : Int) ≤ t87 ∧ t87 ≤ (((p_spec_B10Signal l_code (IntKind.wrap .i64 ((IntKind.wrap .i64 (1 + ((p_laws_b10At l_more (0 : Int) (5 : Int))))) * (IntKind.wrap .i64 (1 + ((p_laws_b10At l_more (1 : Int) (4 : Int))))))))).length : Int) ∧ (((p_spec_B10Signal l_code (IntKind.wrap .i64 ((IntKind.wrap .i64 (1 + ((p_laws_b10At l_more (0 : Int) (5 : Int))))) * (IntKind.wrap .i64 (1 + ((p_laws_b10At l_more (1 : Int) (4 : Int))))))))).length : Int) - t87 ≤ (μ2 : Int) ∧ true = p_laws_FnSeasons_l2 l_code l_more sum t74 (fun (t4 : Bool) (t87 : Int) => (bif !((p_impl_SeasonOf ((p_impl_WithoutSeason ((p_spec_B10Signal l_code (IntKind.wrap .i64 ((IntKind.wrap .i64 (1 + ((p_laws_b10At l_more (0 : Int) (5 : Int))))) * (IntKind.wrap .i64 (1 + ((p_laws_b10At l_more (1 : Int) (4 : Int))))))))) (IntKind.wrap .i64 (1 + ((p_laws_b10At l_more (0 : Int) (5 : Int)))))).1) (IntKind.wrap .i64 (1 + ((p_laws_b10At l_more (0 : Int) (5 : Int)))))).2) then false else (bif flt .f64 4576918229304087675 (p_laws_b10Gap sum 0) then false else (bif (p_laws_b10Apart ((p_impl_SeasonOf ((p_impl_WithoutSeason ((p_spec_B10Signal l_code (IntKind.wrap .i64 ((IntKind.wrap .i64 (1 + ((p_laws_b10At l_more (0 : Int) (5 : Int))))) * (IntKind.wrap .i64 (1 + ((p_laws_b10At l_more (1 : Int) (4 : Int))))))))) (IntKind.wrap .i64 (1 + ((p_laws_b10At l_more (0 : Int) (5 : Int)))))).1) (IntKind.wrap .i64 (1 + ((p_laws_b10At l_more (0 : Int) (5 : Int)))))).1) (List.replicate ((IntKind.wrap .i64 (1 + ((p_laws_b10At l_more (0 : Int) (5 : Int))))).toNat) 0) 4576918229304087675) then false else (p_laws_FnSeasons_l3 l_code l_more sum t74 t4 t87 (fun (l_line : List Nat) (l_times : List Nat) (k : Int) => (bif (p_impl_TrendOf l_line).2.2 then (bif (p_impl_KernelMean l_times l_line (fdiv .f32 (FloatKind.nearest .f32 ((p_laws_b10At l_more (4 : Int) (13 : Int)))) 1073741824) (fdiv .f32 (FloatKind.nearest .f32 (IntKind.wrap .i64 (1 + ((p_laws_b10At l_more (5 : Int) (4 : Int)))))) 1073741824)).2 then (bif flt .f64 ((p_laws_b10Gap (fwide ((p_impl_TrendOf l_line).1)) (fwide (fdiv .f32 (FloatKind.nearest .f32 (IntKind.wrap .i64 (((p_laws_b10At l_more (2 : Int) (17 : Int))) - 8))) 1082130432)))) 4562254508917369340 then (bif flt .f64 ((p_laws_b10Gap (fwide ((p_impl_TrendOf l_line).2.1)) (fwide (fdiv .f32 (FloatKind.nearest .f32 (IntKind.wrap .i64 (((p_laws_b10At l_more (3 : Int) (17 : Int))) - 8))) 1082130432)))) 4562254508917369340 then (bif fle .f64 (fsub .f64 (fwide (fmin .f32 (((l_line).getD (0 : Int).toNat 0)) (((l_line).getD (6 : Int).toNat 0)))) 4562254508917369340) (fwide ((p_impl_KernelMean l_times l_line (fdiv .f32 (FloatKind.nearest .f32 ((p_laws_b10At l_more (4 : Int) (13 : Int)))) 1073741824) (fdiv .f32 (FloatKind.nearest .f32 (IntKind.wrap .i64 (1 + ((p_laws_b10At l_more (5 : Int) (4 : Int)))))) 1073741824)).1)) then fle .f64 (fwide ((p_impl_KernelMean l_times l_line (fdiv .f32 (FloatKind.nearest .f32 ((p_laws_b10At l_more (4 : Int) (13 : Int)))) 1073741824) (fdiv .f32 (FloatKind.nearest .f32 (IntKind.wrap .i64 (1 + ((p_laws_b10At l_more (5 : Int) (4 : Int)))))) 1073741824)).1)) (fadd .f64 (fwide (fmax .f32 (((l_line).getD (0 : Int).toNat 0)) (((l_line).getD (6 : Int).toNat 0)))) 4562254508917369340) else false) else false) else false) else false) else false)) (Int.toNat (7 - (0 : Int)) + 1) ([] : List Nat) ([] : List Nat) (0 : Int)))))) (μ2 + 1) t4 t87) (Int.toNat ((((p_spec_B10Signal l_code (IntKind.wrap .i64 ((IntKind.wrap .i64 (1 + ((p_laws_b10At l_more (0 : Int) (5 : Int))))) * (IntKind.wrap .i64 (1 + ((p_laws_b10At l_more (1 : Int) (4 : Int))))))))).length : Int) - (0 : Int))) _ H_4 ?_ ?_
                · exact ⟨_, r_47, r_48, r_49, ω2, ω2, ω2, g_53, ω5, ω5, ω2, e⟩
                · intro μ2 t87  H_5 hI
                  obtain ⟨t4, r_61, r_62, r_63, n_64, n_65, n_66, g_67, v_68, v_69, hμ, e⟩ := hI
                  rw [laws_FnSeasons_r2]
                  have e := e.trans (p_laws_FnSeasons_l2_s l_code l_more sum t74 (fun (t4 : Bool) (t87 : Int) => (bif !((p_impl_SeasonOf ((p_impl_WithoutSeason ((p_spec_B10Signal l_code (IntKind.wrap .i64 ((IntKind.wrap .i64 (1 + ((p_laws_b10At l_more (0 : Int) (5 : Int))))) * (IntKind.wrap .i64 (1 + ((p_laws_b10At l_more (1 : Int) (4 : Int))))))))) (IntKind.wrap .i64 (1 + ((p_laws_b10At l_more (0 : Int) (5 : Int)))))).1) (IntKind.wrap .i64 (1 + ((p_laws_b10At l_more (0 : Int) (5 : Int)))))).2) then false else (bif flt .f64 4576918229304087675 (p_laws_b10Gap sum 0) then false else (bif (p_laws_b10Apart ((p_impl_SeasonOf ((p_impl_WithoutSeason ((p_spec_B10Signal l_code (IntKind.wrap .i64 ((IntKind.wrap .i64 (1 + ((p_laws_b10At l_more (0 : Int) (5 : Int))))) * (IntKind.wrap .i64 (1 + ((p_laws_b10At l_more (1 : Int) (4 : Int))))))))) (IntKind.wrap .i64 (1 + ((p_laws_b10At l_more (0 : Int) (5 : Int)))))).1) (IntKind.wrap .i64 (1 + ((p_laws_b10At l_more (0 : Int) (5 : Int)))))).1) (List.replicate ((IntKind.wrap .i64 (1 + ((p_laws_b10At l_more (0 : Int) (5 : Int))))).toNat) 0) 4576918229304087675) then false else (p_laws_FnSeasons_l3 l_code l_more sum t74 t4 t87 (fun (l_line : List Nat) (l_times : List Nat) (k : Int) => (bif (p_impl_TrendOf l_line).2.2 then (bif (p_impl_KernelMean l_times l_line (fdiv .f32 (FloatKind.nearest .f32 ((p_laws_b10At l_more (4 : Int) (13 : Int)))) 1073741824) (fdiv .f32 (FloatKind.nearest .f32 (IntKind.wrap .i64 (1 + ((p_laws_b10At l_more (5 : Int) (4 : Int)))))) 1073741824)).2 then (bif flt .f64 ((p_laws_b10Gap (fwide ((p_impl_TrendOf l_line).1)) (fwide (fdiv .f32 (FloatKind.nearest .f32 (IntKind.wrap .i64 (((p_laws_b10At l_more (2 : Int) (17 : Int))) - 8))) 1082130432)))) 4562254508917369340 then (bif flt .f64 ((p_laws_b10Gap (fwide ((p_impl_TrendOf l_line).2.1)) (fwide (fdiv .f32 (FloatKind.nearest .f32 (IntKind.wrap .i64 (((p_laws_b10At l_more (3 : Int) (17 : Int))) - 8))) 1082130432)))) 4562254508917369340 then (bif fle .f64 (fsub .f64 (fwide (fmin .f32 (((l_line).getD (0 : Int).toNat 0)) (((l_line).getD (6 : Int).toNat 0)))) 4562254508917369340) (fwide ((p_impl_KernelMean l_times l_line (fdiv .f32 (FloatKind.nearest .f32 ((p_laws_b10At l_more (4 : Int) (13 : Int)))) 1073741824) (fdiv .f32 (FloatKind.nearest .f32 (IntKind.wrap .i64 (1 + ((p_laws_b10At l_more (5 : Int) (4 : Int)))))) 1073741824)).1)) then fle .f64 (fwide ((p_impl_KernelMean l_times l_line (fdiv .f32 (FloatKind.nearest .f32 ((p_laws_b10At l_more (4 : Int) (13 : Int)))) 1073741824) (fdiv .f32 (FloatKind.nearest .f32 (IntKind.wrap .i64 (1 + ((p_laws_b10At l_more (5 : Int) (4 : Int)))))) 1073741824)).1)) (fadd .f64 (fwide (fmax .f32 (((l_line).getD (0 : Int).toNat 0)) (((l_line).getD (6 : Int).toNat 0)))) 4562254508917369340) else false) else false) else false) else false) else false)) (Int.toNat (7 - (0 : Int)) + 1) ([] : List Nat) ([] : List Nat) (0 : Int)))))) μ2 t4 t87)
                  have l_70 := g_67.1
                  refine Br.intro (fun c_71 => ?_) (fun c_71 => ?_)
                  · have e := e.trans (cond_t c_71)
                    have c_71' := of_decide_eq_true c_71
                    obtain ⟨b_72, f_73, q_74⟩ := (r_63.isL).pos ω0
                    refine ⟨by omega, by omega, b_72, f_73, q_74, ?_⟩
                    refine ⟨(((p_impl_WithoutSeason ((p_spec_B10Signal l_code (IntKind.wrap .i64 ((IntKind.wrap .i64 (1 + ((p_laws_b10At l_more (0 : Int) (5 : Int))))) * (IntKind.wrap .i64 (1 + ((p_laws_b10At l_more (1 : Int) (4 : Int))))))))) (IntKind.wrap .i64 (1 + ((p_laws_b10At l_more (0 : Int) (5 : Int)))))).1).getD (t87 : Int).toNat 0), (r_63.isL).rd (Grow.refl _) q_74 ω2 _, ?_⟩
                    refine ⟨ω11, ?_⟩
                    have z_75 := tmod_rng t87 (IntKind.wrap .i64 (1 + ((p_laws_b10At l_more (0 : Int) (5 : Int)))))
                    have z_76 := tmod_nn t87 (IntKind.wrap .i64 (1 + ((p_laws_b10At l_more (0 : Int) (5 : Int)))))
                    obtain ⟨b_77, f_78, q_79⟩ := (r_62.isL).pos ω0
                    refine ⟨by omega, by omega, b_77, f_78, q_79, ?_⟩
                    refine ⟨(((p_impl_SeasonOf ((p_spec_B10Signal l_code (IntKind.wrap .i64 ((IntKind.wrap .i64 (1 + ((p_laws_b10At l_more (0 : Int) (5 : Int))))) * (IntKind.wrap .i64 (1 + ((p_laws_b10At l_more (1 : Int) (4 : Int))))))))) (IntKind.wrap .i64 (1 + ((p_laws_b10At l_more (0 : Int) (5 : Int)))))).1).getD (Int.tmod t87 (IntKind.wrap .i64 (1 + ((p_laws_b10At l_more (0 : Int) (5 : Int))))) : Int).toNat 0), (r_62.isL).rd (Grow.refl _) q_79 ω2 _, ?_⟩
                    obtain ⟨b_80, f_81, q_82⟩ := (r_61.isL).pos ω0
                    refine ⟨by omega, by omega, b_80, f_81, q_82, ?_⟩
                    refine ⟨(((p_spec_B10Signal l_code (IntKind.wrap .i64 ((IntKind.wrap .i64 (1 + ((p_laws_b10At l_more (0 : Int) (5 : Int))))) * (IntKind.wrap .i64 (1 + ((p_laws_b10At l_more (1 : Int) (4 : Int))))))))).getD (t87 : Int).toNat 0), (r_61.isL).rd (Grow.refl _) q_82 ω2 _, ?_⟩
                    refine T_laws_b10Gap_i ?_
                    refine Br.intro (fun c_83 => ?_) (fun c_83 => ?_)
                    · have e := e.trans (cond_t c_83)
                      rw [laws_FnSeasons_x2_ret]
                      first | exact hk _ | (exfalso; cases e; done) | (rw [← e]; exact hk _)
                    · have e := e.trans (cond_f c_83)
                      rw [show IntKind.wrap .i64 (t87 + 1) = (t87 + 1) from wrap64 ω2 ω2]
                      refine laws_FnSeasons_n2 (μ2 - 1) ω9 ⟨_, r_61, r_62, r_63, ω2, ω2, ω2, g_67, ω1, ω1, ω9, (by rw [show μ2 - 1 + 1 = μ2 from by first | omega]; exact e)⟩
                  · have e := e.trans (cond_f c_71)
                    have c_71' := of_decide_eq_false c_71
                    rw [laws_FnSeasons_x2_2]
                    refine T_impl_SeasonOf_i ⟨_, r_63.isL, ω0, fun a_84 n_85 e_86 H_6 g_89 r_87 => ?_⟩
                    have z_88 := impl_SeasonOf_len ((p_impl_WithoutSeason ((p_spec_B10Signal l_code (IntKind.wrap .i64 ((IntKind.wrap .i64 (1 + ((p_laws_b10At l_more (0 : Int) (5 : Int))))) * (IntKind.wrap .i64 (1 + ((p_laws_b10At l_more (1 : Int) (4 : Int))))))))) (IntKind.wrap .i64 (1 + ((p_laws_b10At l_more (0 : Int) (5 : Int)))))).1) (IntKind.wrap .i64 (1 + ((p_laws_b10At l_more (0 : Int) (5 : Int)))))
                    have l_90 := g_89.1
                    have g_91 := g_67.trans g_89
                    have l_92 := g_91.1
                    have r_93 := r_61.grow g_89
                    have r_94 := r_62.grow g_89
                    have r_95 := r_63.grow g_89
                    obtain rfl := r_87.isL.eqn
                    have u_96 := r_87.up
                    have u_97 := r_87.lo
                    refine Br.intro (fun c_99 => ?_) (fun c_99 => ?_)
                    · have e := e.trans (cond_t c_99)
                      have c_99n := nf_of_t c_99
                      first | exact hk _ | (exfalso; cases e; done) | (rw [← e]; exact hk _)
                    · have e := e.trans (cond_f c_99)
                      have c_99n := nt_of_f c_99
                      have c_99n' := impl_SeasonOf_t c_99n
                      refine T_laws_b10Gap_i ?_
                      refine Br.intro (fun c_100 => ?_) (fun c_100 => ?_)
                      · have e := e.trans (cond_t c_100)
                        first | exact hk _ | (exfalso; cases e; done) | (rw [← e]; exact hk _)
                      · have e := e.trans (cond_f c_100)
                        refine ⟨by omega, rfl, ω12, ?_⟩
                        refine Al.intro (fun b_101 H_7 hb_102 hl_103 g_104 o_105 => ?_)
                        rw [zeros_map fF 0 _ rfl] at o_105
                        have l_107 := g_104.1
                        have g_108 := g_91.trans g_104
                        have l_109 := g_108.1
                        have r_110 := r_93.grow g_104
                        have r_111 := r_94.grow g_104
                        have r_112 := r_95.grow g_104
                        have r_113 := r_87.grow g_104
                        have w_309 := o_105.lt
                        refine T_laws_b10Apart_i ⟨_, _, r_113.isL, (o_105.isL (by first | (simp only [List.length_replicate]; done) | omega | (simp; omega))), ω0, ω0, ?_⟩
                        refine Br.intro (fun c_114 => ?_) (fun c_114 => ?_)
                        · have e := e.trans (cond_t c_114)
                          first | exact hk _ | (exfalso; cases e; done) | (rw [← e]; exact hk _)
                        · have e := e.trans (cond_f c_114)
                          refine T_laws_b10At_i ⟨_, (i_more.grow g_108), ω0, ω8, ω8, ?_⟩
                          have z_115 := laws_b10At_rng l_more (2 : Int) (17 : Int) ω2 ω2
                          refine T_laws_b10At_i ⟨_, (i_more.grow g_108), ω0, ω8, ω8, ?_⟩
                          have z_116 := laws_b10At_rng l_more (3 : Int) (17 : Int) ω2 ω2
                          refine Al.intro (fun b_117 H_8 hb_118 hl_119 g_120 o_121 => ?_)
                          have o_121 : Own H_8 b_117 ((([] : List Nat)).map fF) := o_121
                          have l_123 := g_120.1
                          have g_124 := g_108.trans g_120
                          have l_125 := g_124.1
                          have o_126 := o_105.grow g_120
                          have w_127 := o_126.lt
                          have r_128 := r_110.grow g_120
                          have r_129 := r_111.grow g_120
                          have r_130 := r_112.grow g_120
                          have r_131 := r_113.grow g_120
                          have w_308 := o_121.lt
                          refine Al.intro (fun b_132 H_9 hb_133 hl_134 g_135 o_136 => ?_)
                          have o_136 : Own H_9 b_132 ((([] : List Nat)).map fF) := o_136
                          have l_138 := g_135.1
                          have g_139 := g_124.trans g_135
                          have l_140 := g_139.1
                          have o_141 := o_126.grow g_135
                          have w_142 := o_141.lt
                          have o_143 := o_121.grow g_135
                          have w_144 := o_143.lt
                          have r_145 := r_128.grow g_135
                          have r_146 := r_129.grow g_135
                          have r_147 := r_130.grow g_135
                          have r_148 := r_131.grow g_135
                          have w_307 := o_136.lt
                          refine laws_FnSeasons_L3 _ _ _ _ _ (fun (μ3 : Nat) (line_a : Option Addr) (line_n : Nat) (line_e : Nat) (times_a : Option Addr) (times_n : Nat) (times_e : Nat) (k : Int) (H_10 : AHeap) => ∃ (l_line : List Nat), ∃ (b_149 : Nat), ∃ (l_times : List Nat), ∃ (b_151 : Nat), line_a = some ⟨b_149, 0, none⟩ ∧ line_n = l_line.length ∧ line_e = 1 ∧ Own H_10 b_149 (l_line.map fF) ∧ times_a = some ⟨b_151, 0, none⟩ ∧ times_n = l_times.length ∧ times_e = 1 ∧ Own H_10 b_151 (l_times.map fF) ∧ Own H_10 b_101 ((List.replicate ((IntKind.wrap .i64 (1 + ((p_laws_b10At l_more (0 : Int) (5 : Int))))).toNat) 0).map fF) ∧ OwnS fF H_10 H.length a_4 (((p_spec_B10Signal l_code (IntKind.wrap .i64 ((IntKind.wrap .i64 (1 + ((p_laws_b10At l_more (0 : Int) (5 : Int))))) * (IntKind.wrap .i64 (1 + ((p_laws_b10At l_more (1 : Int) (4 : Int))))))))).length) e_6 ((p_spec_B10Signal l_code (IntKind.wrap .i64 ((IntKind.wrap .i64 (1 + ((p_laws_b10At l_more (0 : Int) (5 : Int))))) * (IntKind.wrap .i64 (1 + ((p_laws_b10At l_more (1 : Int) (4 : Int))))))))) ∧ OwnS fF H_10 H_1.length a_16 (((p_impl_SeasonOf ((p_spec_B10Signal l_code (IntKind.wrap .i64 ((IntKind.wrap .i64 (1 + ((p_laws_b10At l_more (0 : Int) (5 : Int))))) * (IntKind.wrap .i64 (1 + ((p_laws_b10At l_more (1 : Int) (4 : Int))))))))) (IntKind.wrap .i64 (1 + ((p_laws_b10At l_more (0 : Int) (5 : Int)))))).1).length) e_18 ((p_impl_SeasonOf ((p_spec_B10Signal l_code (IntKind.wrap .i64 ((IntKind.wrap .i64 (1 + ((p_laws_b10At l_more (0 : Int) (5 : Int))))) * (IntKind.wrap .i64 (1 + ((p_laws_b10At l_more (1 : Int) (4 : Int))))))))) (IntKind.wrap .i64 (1 + ((p_laws_b10At l_more (0 : Int) (5 : Int)))))).1) ∧ OwnS fF H_10 H_2.length a_29 (((p_impl_WithoutSeason ((p_spec_B10Signal l_code (IntKind.wrap .i64 ((IntKind.wrap .i64 (1 + ((p_laws_b10At l_more (0 : Int) (5 : Int))))) * (IntKind.wrap .i64 (1 + ((p_laws_b10At l_more (1 : Int) (4 : Int))))))))) (IntKind.wrap .i64 (1 + ((p_laws_b10At l_more (0 : Int) (5 : Int)))))).1).length) e_31 ((p_impl_WithoutSeason ((p_spec_B10Signal l_code (IntKind.wrap .i64 ((IntKind.wrap .i64 (1 + ((p_laws_b10At l_more (0 : Int) (5 : Int))))) * (IntKind.wrap .i64 (1 + ((p_laws_b10At l_more (1 : Int) (4 : Int))))))))) (IntKind.wrap .i64 (1 + ((p_laws_b10At l_more (0 : Int) (5 : Int)))))).1) ∧ OwnS fF H_10 H_5.length a_84 (((p_impl_SeasonOf ((p_impl_WithoutSeason ((p_spec_B10Signal l_code (IntKind.wrap .i64 ((IntKind.wrap .i64 (1 + ((p_laws_b10At l_more (0 : Int) (5 : Int))))) * (IntKind.wrap .i64 (1 + ((p_laws_b10At l_more (1 : Int) (4 : Int))))))))) (IntKind.wrap .i64 (1 + ((p_laws_b10At l_more (0 : Int) (5 : Int)))))).1) (IntKind.wrap .i64 (1 + ((p_laws_b10At l_more (0 : Int) (5 : Int)))))).1).length) e_86 ((p_impl_SeasonOf ((p_impl_WithoutSeason ((p_spec_B10Signal l_code (IntKind.wrap .i64 ((IntKind.wrap .i64 (1 + ((p_laws_b10At l_more (0 : Int) (5 : Int))))) * (IntKind.wrap .i64 (1 + ((p_laws_b10At l_more (1 : Int) (4 : Int))))))))) (IntKind.wrap .i64 (1 + ((p_laws_b10At l_more (0 : Int) (5 : Int)))))).1) (IntKind.wrap .i64 (1 + ((p_laws_b10At l_more (0 : Int) (5 : Int)))))).1) ∧ (b_149 ≠ b_101) ∧ (b_151 ≠ b_101) ∧ (b_151 ≠ b_149) ∧ H_1.length ≤ H_10.length ∧ (b_149 < H.length ∨ H_1.length ≤ b_149) ∧ (b_151 < H.length ∨ H_1.length ≤ b_151) ∧ H_2.length ≤ H_10.length ∧ (b_149 < H_1.length ∨ H_2.length ≤ b_149) ∧ (b_151 < H_1.length ∨ H_2.length ≤ b_151) ∧ H_3.length ≤ H_10.length ∧ (b_149 < H_2.length ∨ H_3.length ≤ b_149) ∧ (b_151 < H_2.length ∨ H_3.length ≤ b_151) ∧ H_6.length ≤ H_10.length ∧ (b_149 < H_5.length ∨ H_6.length ≤ b_149) ∧ (b_151 < H_5.length ∨ H_6.length ≤ b_151) ∧ Grow H H_10 ∧ H.length ≤ b_149 ∧ H.length ≤ b_151 ∧ (0 : Int) ≤ k ∧ ((k ≤ 7 ∨ k ≤ (0 : Int))) ∧ (l_line.length : Int) ≤ k - (0 : Int) + 0 ∧ (l_times.length : Int) ≤ k - (0 : Int) + 0 ∧ (l_line.length : Int) = k ∧  (l_times.length : Int) = k ∧  k ≤ 7 ∧ 7 - k ≤ (μ3 : Int) ∧ true = p_laws_FnSeasons_l3 l_code l_more sum t74 t4 t87 (fun (l_line : List Nat) (l_times : List Nat) (k : Int) => (bif (p_impl_TrendOf l_line).2.2 then (bif (p_impl_KernelMean l_times l_line (fdiv .f32 (FloatKind.nearest .f32 ((p_laws_b10At l_more (4 : Int) (13 : Int)))) 1073741824) (fdiv .f32 (FloatKind.nearest .f32 (IntKind.wrap .i64 (1 + ((p_laws_b10At l_more (5 : Int) (4 : Int)))))) 1073741824)).2 then (bif flt .f64 ((p_laws_b10Gap (fwide ((p_impl_TrendOf l_line).1)) (fwide (fdiv .f32 (FloatKind.nearest .f32 (IntKind.wrap .i64 (((p_laws_b10At l_more (2 : Int) (17 : Int))) - 8))) 1082130432)))) 4562254508917369340 then (bif flt .f64 ((p_laws_b10Gap (fwide ((p_impl_TrendOf l_line).2.1)) (fwide (fdiv .f32 (FloatKind.nearest .f32 (IntKind.wrap .i64 (((p_laws_b10At l_more (3 : Int) (17 : Int))) - 8))) 1082130432)))) 4562254508917369340 then (bif fle .f64 (fsub .f64 (fwide (fmin .f32 (((l_line).getD (0 : Int).toNat 0)) (((l_line).getD (6 : Int).toNat 0)))) 4562254508917369340) (fwide ((p_impl_KernelMean l_times l_line (fdiv .f32 (FloatKind.nearest .f32 ((p_laws_b10At l_more (4 : Int) (13 : Int)))) 1073741824) (fdiv .f32 (FloatKind.nearest .f32 (IntKind.wrap .i64 (1 + ((p_laws_b10At l_more (5 : Int) (4 : Int)))))) 1073741824)).1)) then fle .f64 (fwide ((p_impl_KernelMean l_times l_line (fdiv .f32 (FloatKind.nearest .f32 ((p_laws_b10At l_more (4 : Int) (13 : Int)))) 1073741824) (fdiv .f32 (FloatKind.nearest .f32 (IntKind.wrap .i64 (1 + ((p_laws_b10At l_more (5 : Int) (4 : Int)))))) 1073741824)).1)) (fadd .f64 (fwide (fmax .f32 (((l_line).getD (0 : Int).toNat 0)) (((l_line).getD (6 : Int).toNat 0)))) 4562254508917369340) else false) else false) else false) else false) else false)) (μ3 + 1) l_line l_times k) (Int.toNat (7 - (0 : Int))) _ _ _ _ _ _ _ H_9 ?_ ?_
                          · exact ⟨_, _, _, _, rfl, ω3, rfl, o_143, rfl, ω3, rfl, o_136, o_141, r_145, r_146, r_147, r_148, ω2, ω2, ω2, ω2, ω2, ω2, ω2, ω2, ω2, ω2, ω2, ω2, ω2, ω2, ω2, g_139, ω2, ω2, ω5, ω5, ω5, ω5, ω5, ω5, ω5, ω2, e⟩
                          · intro μ3 line_a line_n line_e times_a times_n times_e k  H_10 hI
                            obtain ⟨l_line, b_149, l_times, b_151, rfl, rfl, rfl, o_150, rfl, rfl, rfl, o_152, o_153, r_154, r_155, r_156, r_157, n_158, n_159, n_160, n_161, n_162, n_163, n_164, n_165, n_166, n_167, n_168, n_169, n_170, n_171, n_172, g_173, l_174, l_175, v_176, v_177, v_178, v_179, v_180, v_181, v_182, hμ, e⟩ := hI
                            rw [laws_FnSeasons_r3]
                            have e := e.trans (p_laws_FnSeasons_l3_s l_code l_more sum t74 t4 t87 (fun (l_line : List Nat) (l_times : List Nat) (k : Int) => (bif (p_impl_TrendOf l_line).2.2 then (bif (p_impl_KernelMean l_times l_line (fdiv .f32 (FloatKind.nearest .f32 ((p_laws_b10At l_more (4 : Int) (13 : Int)))) 1073741824) (fdiv .f32 (FloatKind.nearest .f32 (IntKind.wrap .i64 (1 + ((p_laws_b10At l_more (5 : Int) (4 : Int)))))) 1073741824)).2 then (bif flt .f64 ((p_laws_b10Gap (fwide ((p_impl_TrendOf l_line).1)) (fwide (fdiv .f32 (FloatKind.nearest .f32 (IntKind.wrap .i64 (((p_laws_b10At l_more (2 : Int) (17 : Int))) - 8))) 1082130432)))) 4562254508917369340 then (bif flt .f64 ((p_laws_b10Gap (fwide ((p_impl_TrendOf l_line).2.1)) (fwide (fdiv .f32 (FloatKind.nearest .f32 (IntKind.wrap .i64 (((p_laws_b10At l_more (3 : Int) (17 : Int))) - 8))) 1082130432)))) 4562254508917369340 then (bif fle .f64 (fsub .f64 (fwide (fmin .f32 (((l_line).getD (0 : Int).toNat 0)) (((l_line).getD (6 : Int).toNat 0)))) 4562254508917369340) (fwide ((p_impl_KernelMean l_times l_line (fdiv .f32 (FloatKind.nearest .f32 ((p_laws_b10At l_more (4 : Int) (13 : Int)))) 1073741824) (fdiv .f32 (FloatKind.nearest .f32 (IntKind.wrap .i64 (1 + ((p_laws_b10At l_more (5 : Int) (4 : Int)))))) 1073741824)).1)) then fle .f64 (fwide ((p_impl_KernelMean l_times l_line (fdiv .f32 (FloatKind.nearest .f32 ((p_laws_b10At l_more (4 : Int) (13 : Int)))) 1073741824) (fdiv .f32 (FloatKind.nearest .f32 (IntKind.wrap .i64 (1 + ((p_laws_b10At l_more (5 : Int) (4 : Int)))))) 1073741824)).1)) (fadd .f64 (fwide (fmax .f32 (((l_line).getD (0 : Int).toNat 0)) (((l_line).getD (6 : Int).toNat 0)))) 4562254508917369340) else false) else false) else false) else false) else false)) μ3 l_line l_times k)
                            have w_183 := o_153.lt
                            have w_184 := o_150.lt
                            have w_185 := o_152.lt
                            have l_186 := g_173.1
                            refine Br.intro (fun c_187 => ?_) (fun c_187 => ?_)
                            · have e := e.trans (cond_t c_187)
                              have c_187' := of_decide_eq_true c_187
                              refine Al.intro (fun b_188 H_11 hb_189 hl_190 g_191 o_192 => ?_)
                              have o_192 : Own H_11 b_188 (([(fadd .f32 (fmul .f32 (fdiv .f32 (FloatKind.nearest .f32 (IntKind.wrap .i64 (((p_laws_b10At l_more (2 : Int) (17 : Int))) - 8))) 1082130432) (FloatKind.nearest .f32 k)) (fdiv .f32 (FloatKind.nearest .f32 (IntKind.wrap .i64 (((p_laws_b10At l_more (3 : Int) (17 : Int))) - 8))) 1082130432))]).map fF) := o_192
                              have l_194 := g_191.1
                              have g_195 := g_173.trans g_191
                              have l_196 := g_195.1
                              have o_197 := o_153.grow g_191
                              have w_198 := o_197.lt
                              have o_199 := o_150.grow g_191
                              have w_200 := o_199.lt
                              have o_201 := o_152.grow g_191
                              have w_202 := o_201.lt
                              have r_203 := r_154.grow g_191
                              have r_204 := r_155.grow g_191
                              have r_205 := r_156.grow g_191
                              have r_206 := r_157.grow g_191
                              have w_271 := o_192.lt
                              refine ⟨_, _, o_199.ownB ω4 rfl, (isl_rdS (o_192.isL ω3)), (fun h => by cases h), ω12, ?_⟩
                              refine Ap.app o_199 rfl rfl (fun b_211 H_12 q_269 hl_207 o_208 k_209 => ?_)
                              have o_208 := map_snoc o_208
                              have l_212 := k_209.1
                              have g_213 := g_195.keep (b := b_149) ω2 k_209
                              have l_214 := g_213.1
                              have o_215 := o_197.keep ω2 k_209
                              have w_216 := o_215.lt
                              have o_217 := o_201.keep ω2 k_209
                              have w_218 := o_217.lt
                              have o_219 := o_192.keep ω2 k_209
                              have w_220 := o_219.lt
                              have r_221 := r_203.keep u_13 ω2 k_209
                              have r_222 := r_204.keep u_26 ω2 k_209
                              have r_223 := r_205.keep u_40 ω2 k_209
                              have r_224 := r_206.keep u_96 ω2 k_209
                              have w_270 := o_208.lt
                              refine Al.intro (fun b_225 H_13 hb_226 hl_227 g_228 o_229 => ?_)
                              have o_229 : Own H_13 b_225 (([(FloatKind.nearest .f32 k)]).map fF) := o_229
                              have l_231 := g_228.1
                              have g_232 := g_213.trans g_228
                              have l_233 := g_232.1
                              have o_234 := o_215.grow g_228
                              have w_235 := o_234.lt
                              have o_236 := o_217.grow g_228
                              have w_237 := o_236.lt
                              have o_238 := o_219.grow g_228
                              have w_239 := o_238.lt
                              have o_240 := o_208.grow g_228
                              have w_241 := o_240.lt
                              have r_242 := r_221.grow g_228
                              have r_243 := r_222.grow g_228
                              have r_244 := r_223.grow g_228
                              have r_245 := r_224.grow g_228
                              have w_268 := o_229.lt
                              refine ⟨_, _, o_236.ownB ω4 rfl, (isl_rdS (o_229.isL ω3)), (fun h => by cases h), ω12, ?_⟩
                              refine Ap.app o_236 rfl rfl (fun b_250 H_14 q_266 hl_246 o_247 k_248 => ?_)
                              have o_247 := map_snoc o_247
                              have l_251 := k_248.1
                              have g_252 := g_232.keep (b := b_151) ω2 k_248
                              have l_253 := g_252.1
                              have o_254 := o_234.keep ω2 k_248
                              have w_255 := o_254.lt
                              have o_256 := o_238.keep ω2 k_248
                              have w_257 := o_256.lt
                              have o_258 := o_240.keep ω2 k_248
                              have w_259 := o_258.lt
                              have o_260 := o_229.keep ω2 k_248
                              have w_261 := o_260.lt
                              have r_262 := r_242.keep u_13 ω2 k_248
                              have r_263 := r_243.keep u_26 ω2 k_248
                              have r_264 := r_244.keep u_40 ω2 k_248
                              have r_265 := r_245.keep u_96 ω2 k_248
                              have w_267 := o_247.lt
                              rw [show IntKind.wrap .i64 (k + 1) = (k + 1) from wrap64 ω2 ω2]
                              refine laws_FnSeasons_n3 (μ3 - 1) ω9 ⟨_, _, _, _, rfl, ω6, rfl, o_258, rfl, ω6, rfl, o_247, o_254, r_262, r_263, r_264, r_265, ω2, ω2, ω2, ω2, ω2, ω2, ω2, ω2, ω2, ω2, ω2, ω2, ω2, ω2, ω2, g_252, ω2, ω2, ω1, ω1, ω1, ω1, ω1, ω1, ω1, ω9, (by rw [show μ3 - 1 + 1 = μ3 from by first | omega]; exact e)⟩
                            · have e := e.trans (cond_f c_187)
                              have c_187' := of_decide_eq_false c_187
                              rw [laws_FnSeasons_x3_4]
                              refine T_impl_TrendOf_i ⟨_, (o_150.isL ω3), ω0, fun  H_15 g_272  => ?_⟩
                              have l_273 := g_272.1
                              have g_274 := g_173.trans g_272
                              have l_275 := g_274.1
                              have o_276 := o_153.grow g_272
                              have w_277 := o_276.lt
                              have o_278 := o_150.grow g_272
                              have w_279 := o_278.lt
                              have o_280 := o_152.grow g_272
                              have w_281 := o_280.lt
                              have r_282 := r_154.grow g_272
                              have r_283 := r_155.grow g_272
                              have r_284 := r_156.grow g_272
                              have r_285 := r_157.grow g_272
                              refine T_laws_b10At_i ⟨_, (i_more.grow g_274), ω0, ω8, ω8, ?_⟩
                              have z_286 := laws_b10At_rng l_more (4 : Int) (13 : Int) ω2 ω2
                              refine T_laws_b10At_i ⟨_, (i_more.grow g_274), ω0, ω8, ω8, ?_⟩
                              have z_287 := laws_b10At_rng l_more (5 : Int) (4 : Int) ω2 ω2
                              refine T_impl_KernelMean_i ⟨_, _, (o_280.isL ω3), (o_278.isL ω3), ω0, ω0, fun  H_16 g_288  => ?_⟩
                              have l_289 := g_288.1
                              have g_290 := g_274.trans g_288
                              have l_291 := g_290.1
                              have o_292 := o_276.grow g_288
                              have w_293 := o_292.lt
                              have o_294 := o_278.grow g_288
                              have w_295 := o_294.lt
                              have o_296 := o_280.grow g_288
                              have w_297 := o_296.lt
                              have r_298 := r_282.grow g_288
                              have r_299 := r_283.grow g_288
                              have r_300 := r_284.grow g_288
                              have r_301 := r_285.grow g_288
                              refine ⟨by omega, ω2, _, _, rfl, ?_⟩
                              refine ⟨((l_line).getD (0 : Int).toNat 0), o_294.rd ω0 _, ?_⟩
                              refine ⟨by omega, ω2, _, _, rfl, ?_⟩
                              refine ⟨((l_line).getD (6 : Int).toNat 0), o_294.rd ω0 _, ?_⟩
                              refine ⟨by omega, ω2, _, _, rfl, ?_⟩
                              refine ⟨((l_line).getD (0 : Int).toNat 0), o_294.rd ω0 _, ?_⟩
                              refine ⟨by omega, ω2, _, _, rfl, ?_⟩
                              refine ⟨((l_line).getD (6 : Int).toNat 0), o_294.rd ω0 _, ?_⟩
                              refine Br.intro (fun c_302 => ?_) (fun c_302 => ?_)
                              · have e := e.trans (cond_t c_302)
                                refine Br.intro (fun c_303 => ?_) (fun c_303 => ?_)
                                · have e := e.trans (cond_t c_303)
                                  refine T_laws_b10Gap_i ?_
                                  refine Br.intro (fun c_304 => ?_) (fun c_304 => ?_)
                                  · have e := e.trans (cond_t c_304)
                                    refine T_laws_b10Gap_i ?_
                                    refine Br.intro (fun c_305 => ?_) (fun c_305 => ?_)
                                    · have e := e.trans (cond_t c_305)
                                      refine Br.intro (fun c_306 => ?_) (fun c_306 => ?_)
                                      · have e := e.trans (cond_t c_306)
                                        first | exact hk _ | (exfalso; cases e; done) | (rw [← e]; exact hk _)
                                      · have e := e.trans (cond_f c_306)
                                        first | exact hk _ | (exfalso; cases e; done) | (rw [← e]; exact hk _)
                                    · have e := e.trans (cond_f c_305)
                                      first | exact hk _ | (exfalso; cases e; done) | (rw [← e]; exact hk _)
                                  · have e := e.trans (cond_f c_304)
                                    first | exact hk _ | (exfalso; cases e; done) | (rw [← e]; exact hk _)
                                · have e := e.trans (cond_f c_303)
                                  first | exact hk _ | (exfalso; cases e; done) | (rw [← e]; exact hk _)
                              · have e := e.trans (cond_f c_302)
                                first | exact hk _ | (exfalso; cases e; done) | (rw [← e]; exact hk _)
theorem laws_FnSeasons_ok : FnOk Try.prog 8 S_laws_FnSeasons := by
  refine FnOk.body mix_ok E_laws_FnSeasons_ok Try.func8 rfl (by kernel_rfl) (by kernel_rfl) ?_ ?_ ?_ ?_ ?_
  · intro args H K K' h hk
    simp only [S_laws_FnSeasons] at *
    unfold F_laws_FnSeasons at *
    split at hk
    · obtain ⟨l_code, l_more, h_0, h_1, k⟩ := hk
      exact ⟨l_code, l_more, h_0, h_1, (fun H' => h _ _ (k H'))⟩
    · exact hk.elim
  · intro hq; cases hq
  · intro args H K hk
    simp only [S_laws_FnSeasons] at *
    unfold F_laws_FnSeasons at *
    split at hk
    · obtain ⟨l_code, l_more, h_0, h_1, k⟩ := hk
      exact ⟨_, _, k []⟩
    · exact hk.elim
  · intro hq; cases hq
  · have mm := @laws_FnSeasons_main
    have ml := fun (args : List Value) (H : AHeap) (K : Value → AHeap → Prop) => bodyL_body (P := Try.prog) (env := E_laws_FnSeasons ) (fn := Try.f8) (args := args) (H := H) (K := K) E_laws_FnSeasons_ok 
    revert mm ml
    generalize bodyK Try.prog E_laws_FnSeasons Try.f8 = Q
    generalize bodyL Try.prog E_laws_FnSeasons Try.f8 = QL
    intro mm ml args H K hk
    simp only [S_laws_FnSeasons] at *
    unfold F_laws_FnSeasons at *
    split at hk
    · exact ml _ H K (mm _ _ _ _ _ _ H K hk)
    · exact hk.elim
end Go.Proofs.Ytbnplefohfamnaa.Ai
