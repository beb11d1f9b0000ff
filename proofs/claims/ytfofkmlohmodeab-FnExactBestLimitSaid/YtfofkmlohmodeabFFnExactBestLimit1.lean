/- What functions of the program come to on the abstract machine, and that they do so; printed by a program of mine around proofs of mine. -/
import Derived.Test.YtfofkmlohmodeabFFnExactBestLimit0
set_option linter.unusedVariables false
set_option linter.unusedSimpArgs false
set_option maxRecDepth 100000
namespace Go.Proofs.Ytfofkmlohmodeab.Ai
open Go
attribute [local irreducible] bodyK
def p_laws_FnExactBestLimit (l_aList : List Nat) (aNoise : Nat) : Bool := (bif decide ((1048576 : Int) < (l_aList.length : Int)) then true else (bif !((p_laws_sameFloat (fwide ((p_impl_BestLimit l_aList aNoise).1)) (fwide ((p_spec_BestLimit l_aList aNoise).1)))) then false else (bif !((p_laws_sameFloat (fwide ((p_impl_BestLimit l_aList aNoise).2.1)) (fwide ((p_spec_BestLimit l_aList aNoise).2.1)))) then false else (bif !(((p_impl_BestLimit l_aList aNoise).2.2) == ((p_spec_BestLimit l_aList aNoise).2.2)) then false else (bif !(p_laws_eqFloat32S l_aList l_aList) then false else true)))))
theorem p_laws_FnExactBestLimit_eq (l_aList : List Nat) (aNoise : Nat) : p_laws_FnExactBestLimit l_aList aNoise = (bif decide ((1048576 : Int) < (l_aList.length : Int)) then true else (bif !((p_laws_sameFloat (fwide ((p_impl_BestLimit l_aList aNoise).1)) (fwide ((p_spec_BestLimit l_aList aNoise).1)))) then false else (bif !((p_laws_sameFloat (fwide ((p_impl_BestLimit l_aList aNoise).2.1)) (fwide ((p_spec_BestLimit l_aList aNoise).2.1)))) then false else (bif !(((p_impl_BestLimit l_aList aNoise).2.2) == ((p_spec_BestLimit l_aList aNoise).2.2)) then false else (bif !(p_laws_eqFloat32S l_aList l_aList) then false else true))))) := rfl
def T_laws_FnExactBestLimit (aList_a : Option Addr) (aList_n : Nat) (aList_e : Nat) (aNoise : Nat) (H : AHeap) (K : Bool → AHeap → Prop) : Prop := ∃ l_aList : List Nat, IsL fF H aList_a aList_n l_aList ∧ (∀ y ∈ l_aList, W32 y) ∧ l_aList.length ≤ 9223372036854775807 ∧ W32 aNoise ∧ ∀ H' : AHeap, K true H'
theorem spec_fin (x : Nat) : p_spec_l01Finite x = fin .f32 x := fin_asked x
theorem impl_fin (x : Nat) : p_impl_IsFinite x = fin .f32 x := fin_asked x
theorem w32_wd {x : Nat} (h : W32 x) : Wd .f32 x := ⟨h.1, h.2⟩
theorem wd_w32 {x : Nat} (h : Wd .f32 x) : W32 x := ⟨h.1, h.2⟩
theorem l02Finite_go (l : List Nat) : ∀ (μ : Nat) (t : Bool) (i : Nat), l.length - i < μ → p_spec_l02Finite_l1 l μ t (i : Int) = (l.drop i).all (fin .f32) := by
  intro μ
  induction μ with
  | zero => intro t i h; omega
  | succ μ ih =>
    intro t i hm
    rw [p_spec_l02Finite_l1_s]
    by_cases h : i < l.length
    · rw [decide_eq_true (show (i : Int) < (l.length : Int) by omega), cond_true, Int.toNat_natCast, spec_fin]
      rw [List.drop_eq_getElem_cons h, List.all_cons, List.getD_eq_getElem?_getD, List.getElem?_eq_getElem h, Option.getD_some]
      have := ih t (i + 1) (by omega)
      cases fin .f32 l[i]
      · rfl
      · simp only [Bool.not_true, cond_false, Bool.true_and]; exact this
    · rw [decide_eq_false (show ¬ (i : Int) < (l.length : Int) by omega), cond_false, List.drop_eq_nil_of_le (by omega)]; rfl
theorem l02Finite_all (l : List Nat) : p_spec_l02Finite l = l.all (fin .f32) := by
  rw [p_spec_l02Finite_eq]
  have := l02Finite_go l (Int.toNat ((l.length : Int) - (0 : Int)) + 1) false 0 (by omega)
  simpa using this
theorem areFinite_in (ls : List (List Nat)) (t2 : Bool) (t9 : Int) (k : Bool → Int → Bool) : ∀ (μ : Nat) (t : Bool) (i : Nat), i ≤ (ls.getD t9.toNat []).length → (ls.getD t9.toNat []).length - i < μ →
    p_impl_areFinite_l2 ls t2 t9 k μ t (i : Int) = bif ((ls.getD t9.toNat []).drop i).all (fin .f32) then k t ((ls.getD t9.toNat []).length : Int) else false := by
  intro μ
  generalize hl : ls.getD t9.toNat [] = l
  induction μ with
  | zero => intro t i _ h; omega
  | succ μ ih =>
    intro t i hi hm
    rw [p_impl_areFinite_l2_s, hl]
    by_cases h : i < l.length
    · rw [decide_eq_true (show (i : Int) < (l.length : Int) by omega), cond_true, Int.toNat_natCast, impl_fin]
      rw [List.drop_eq_getElem_cons h, List.all_cons, List.getD_eq_getElem?_getD, List.getElem?_eq_getElem h, Option.getD_some]
      have := ih t (i + 1) (by omega) (by omega)
      cases fin .f32 l[i]
      · rfl
      · simp only [Bool.not_true, cond_false, Bool.true_and]; exact this
    · rw [decide_eq_false (show ¬ (i : Int) < (l.length : Int) by omega), cond_false, List.drop_eq_nil_of_le (by omega), show i = l.length by omega]; rfl
theorem areFinite_go (ls : List (List Nat)) : ∀ (μ : Nat) (t : Bool) (i : Nat), ls.length - i < μ → p_impl_areFinite_l1 ls μ t (i : Int) = (ls.drop i).all (fun l => l.all (fin .f32)) := by
  intro μ
  induction μ with
  | zero => intro t i h; omega
  | succ μ ih =>
    intro t i hm
    rw [p_impl_areFinite_l1_s]
    by_cases h : i < ls.length
    · rw [decide_eq_true (show (i : Int) < (ls.length : Int) by omega), cond_true]
      have := areFinite_in ls t (i : Int) (fun t2 t15 => p_impl_areFinite_l1 ls μ t2 ((i : Int) + 1)) (Int.toNat ((((ls).getD ((i : Int) : Int).toNat []).length : Int) - (0 : Int)) + 1) t 0 (Nat.zero_le _) (by omega)
      refine Eq.trans this ?_
      rw [Int.toNat_natCast, List.drop_zero, List.drop_eq_getElem_cons h, List.all_cons, List.getD_eq_getElem?_getD, List.getElem?_eq_getElem h, Option.getD_some]
      have := ih t (i + 1) (by omega)
      cases ls[i].all (fin .f32)
      · rfl
      · simp only [cond_true, Bool.true_and]; exact this
    · rw [decide_eq_false (show ¬ (i : Int) < (ls.length : Int) by omega), cond_false, List.drop_eq_nil_of_le (by omega)]; rfl
theorem areFinite_all (ls : List (List Nat)) : p_impl_areFinite ls = ls.all (fun l => l.all (fin .f32)) := by
  rw [p_impl_areFinite_eq]
  have := areFinite_go ls (Int.toNat ((ls.length : Int) - (0 : Int)) + 1) false 0 (by omega)
  simpa using this
theorem finite_same (l : List Nat) : p_impl_areFinite [l] = p_spec_l02Finite l := by rw [areFinite_all, l02Finite_all]; simp
theorem long_same (l : List Nat) : p_impl_isLong l = p_spec_l03Long l := by
  rw [p_impl_isLong_eq, p_spec_l03Long_eq, finite_same]
  unfold p_impl_within
  cases decide ((1 : Int) ≤ (l.length : Int)) <;> cases decide (((l.length : Int) : Int) ≤ 128) <;> rfl
theorem long_t {l : List Nat} (h : p_spec_l03Long l = true) : 1 ≤ l.length ∧ l.length ≤ 128 ∧ l.all (fin .f32) = true := by
  rw [p_spec_l03Long_eq, l02Finite_all] at h
  by_cases h1 : (1 : Int) ≤ (l.length : Int)
  · rw [decide_eq_true h1, cond_true] at h
    by_cases h2 : (l.length : Int) ≤ 128
    · rw [decide_eq_true h2, cond_true] at h; exact ⟨by omega, by omega, h⟩
    · rw [decide_eq_false h2] at h; cases h
  · rw [decide_eq_false h1] at h; cases h
theorem fin_getD {l : List Nat} (h : l.all (fin .f32) = true) (i : Nat) : fin .f32 (l.getD i 0) = true := by
  rw [List.getD_eq_getElem?_getD]
  cases hx : l[i]? with
  | none => exact fin_zero _
  | some y => exact List.all_eq_true.1 h y (List.mem_of_getElem? hx)
theorem w32_zero : W32 0 := ⟨by decide, by decide +kernel⟩
theorem w32_getD {l : List Nat} (h : ∀ y ∈ l, W32 y) (i : Nat) : W32 (l.getD i 0) := by
  rw [List.getD_eq_getElem?_getD]
  cases hx : l[i]? with
  | none => exact w32_zero
  | some y => exact h y (List.mem_of_getElem? hx)
theorem size_same {x : Nat} (h : W32 x) : p_impl_size x = p_spec_l03Size x := size_two (w32_wd h)
theorem few_two : ∀ n : Nat, n < 130 → fmul .f32 1073741824 (FloatKind.nearest .f32 (n : Int)) = FloatKind.nearest .f32 (2 * (n : Int)) := by decide +kernel
theorem few_left {m n : Nat} (hm : m < 129) (hn : n ≤ m) : fsub .f32 (FloatKind.nearest .f32 (m : Int)) (fmul .f32 1073741824 (FloatKind.nearest .f32 (n : Int))) = FloatKind.nearest .f32 ((m : Int) - 2 * (n : Int)) := by
  rw [few_two n (by omega)]
  by_cases h : m = 2 * n
  · rw [h, show (2 * (n : Int)) = ((2 * n : Nat) : Int) by omega, int_sub_self (2 * n) (by omega), Int.sub_self]; decide +kernel
  · have e : (2 : Nat) * FloatKind.f32.format.binade = 16777216 := by decide
    exact int_sub (by rw [e]; omega) (by rw [e]; omega) (by omega)
theorem risk_go {l : List Nat} (noise limit : Nat) (hl : l.length ≤ 128) (hw : ∀ y ∈ l, W32 y) : ∀ (μ n s i : Nat), n ≤ i → i ≤ l.length → l.length - i < μ →
    p_impl_RiskOf_l1 l noise limit μ (FloatKind.nearest .f32 (n : Int)) s (i : Int) = p_impl_finite (p_spec_l05Risk_l1 l noise limit μ (n : Int) s (i : Int)) := by
  intro μ
  induction μ with
  | zero => intro n s i _ _ h; omega
  | succ μ ih =>
    intro n s i hn hi hm
    rw [p_impl_RiskOf_l1_s, p_spec_l05Risk_l1_s]
    by_cases h : i < l.length
    · rw [decide_eq_true (show (i : Int) < (l.length : Int) by omega), cond_true, cond_true, size_same (w32_getD hw _)]
      cases flt .f32 limit (p_spec_l03Size (l.getD (i : Int).toNat 0))
      · rw [Bool.not_false, cond_true, cond_true, add_one n (by omega)]
        exact ih (n + 1) _ (i + 1) (by omega) (by omega) (by omega)
      · rw [Bool.not_true, cond_false, cond_false]
        exact ih n _ (i + 1) (by omega) (by omega) (by omega)
    · rw [decide_eq_false (show ¬ (i : Int) < (l.length : Int) by omega), cond_false, cond_false, few_left (show l.length < 129 by omega) (show n ≤ l.length by omega)]
      have e1 : IntKind.wrap .i64 (2 * (n : Int)) = 2 * (n : Int) := wrap64 (by omega) (by omega)
      have e2 : IntKind.wrap .i64 ((l.length : Int) - 2 * (n : Int)) = (l.length : Int) - 2 * (n : Int) := wrap64 (by omega) (by omega)
      rw [e1, e2]
theorem over_same (x : Nat) : p_impl_isOver x = p_spec_l02Above x := rfl
theorem risk_same {l : List Nat} (noise limit : Nat) (hw : ∀ y ∈ l, W32 y) : p_impl_RiskOf l noise limit =
    (bif !(p_spec_l03Long l) then (0, false) else (bif !(p_spec_l02Above noise) then (0, false) else (bif !(p_impl_isLeast limit) then (0, false) else p_impl_finite (p_spec_l05Risk l noise limit)))) := by
  rw [p_impl_RiskOf_eq, long_same, over_same, p_spec_l05Risk_eq]
  cases h : p_spec_l03Long l
  · rfl
  · obtain ⟨h1, h2, h3⟩ := long_t h
    have := risk_go noise limit h2 hw (Int.toNat ((l.length : Int) - (0 : Int)) + 1) 0 0 0 (Nat.le_refl _) (Nat.zero_le _) (by omega)
    have e : FloatKind.nearest .f32 ((0 : Nat) : Int) = 0 := by decide +kernel
    rw [e] at this
    rw [show ((0 : Nat) : Int) = 0 from rfl] at this
    rw [this]
theorem least_size {x : Nat} (hw : W32 x) (hf : fin .f32 x = true) : p_impl_isLeast (p_spec_l03Size x) = true := by
  rw [← size_same hw]
  unfold p_impl_isLeast p_impl_size
  rw [flt_fin hf (fin_zero _), feq_fin hf (fin_zero _), sv_zero]
  by_cases c : sv .f32 x < 0
  · rw [decide_eq_true c, cond_true, impl_fin, fin_neg hf, cond_true, fle_fin (fin_zero _) (fin_neg hf), sv_neg hf, sv_zero]
    exact decide_eq_true (by omega)
  · rw [decide_eq_false c, cond_false]
    by_cases c2 : sv .f32 x = 0
    · rw [decide_eq_true c2, cond_true]; decide +kernel
    · rw [decide_eq_false c2, cond_false, impl_fin, hf, cond_true, fle_fin (fin_zero _) hf, sv_zero]
      exact decide_eq_true (by omega)
theorem risk_at {l : List Nat} {noise limit : Nat} (hw : ∀ y ∈ l, W32 y) (hl : p_spec_l03Long l = true) (hn : p_spec_l02Above noise = true) (hm : p_impl_isLeast limit = true) : p_impl_RiskOf l noise limit = p_impl_finite (p_spec_l05Risk l noise limit) := by
  rw [risk_same _ _ hw, hl, hn, hm]; rfl
theorem bestLimit_go {l : List Nat} {noise : Nat} (hl : p_spec_l03Long l = true) (hn : p_spec_l02Above noise = true) (hw : ∀ y ∈ l, W32 y) : ∀ (μ i best least : Nat) (t4 t5 : Nat) (t6 : Bool), l.length - i < μ →
    p_impl_BestLimit_l1 l noise μ t4 t5 t6 best least true ((i : Int) + 1) = p_spec_BestLimit_l1 l noise μ t4 t5 t6 best least (i : Int) := by
  intro μ
  obtain ⟨h1, h2, h3⟩ := long_t hl
  induction μ with
  | zero => intro i best least t4 t5 t6 h; omega
  | succ μ ih =>
    intro i best least t4 t5 t6 hm
    rw [p_impl_BestLimit_l1_s, p_spec_BestLimit_l1_s, impl_sizes_len]
    by_cases h : i < l.length
    · rw [decide_eq_true (show (i : Int) < (l.length : Int) by omega), decide_eq_true (show (i : Int) + 1 < 1 + (l.length : Int) by omega), cond_true, cond_true]
      have e1 : ([0] ++ p_impl_sizes l).getD ((i : Int) + 1).toNat 0 = p_spec_l03Size (l.getD (i : Int).toNat 0) := by
        rw [show ((i : Int) + 1).toNat = i + 1 by omega, Int.toNat_natCast, impl_sizes_map, ← size_same (w32_getD hw i), List.getD_eq_getElem?_getD, List.getD_eq_getElem?_getD]
        simp [List.getElem?_eq_getElem h]
      rw [e1, risk_at hw hl hn (least_size (w32_getD hw _) (fin_getD h3 _))]
      unfold p_impl_finite p_impl_IsFinite p_spec_l01Finite
      generalize p_spec_l05Risk l noise (p_spec_l03Size (l.getD (i : Int).toNat 0)) = r
      cases feq .f32 (fsub .f32 r r) 0
      · rfl
      · simp only [Bool.not_true, cond_false, cond_true]
        have := fun b c => ih (i + 1) b c t4 t5 t6 (by omega)
        cases flt .f32 r least
        · exact this _ _
        · exact this _ _
    · rw [decide_eq_false (show ¬ (i : Int) < (l.length : Int) by omega), decide_eq_false (show ¬ (i : Int) + 1 < 1 + (l.length : Int) by omega), cond_false, cond_false]
theorem bestLimit_same {l : List Nat} {noise : Nat} (hw : ∀ y ∈ l, W32 y) : p_impl_BestLimit l noise = p_spec_BestLimit l noise := by
  rw [p_impl_BestLimit_eq, p_spec_BestLimit_eq, impl_sizes_len, p_impl_BestLimit_l1_s, impl_sizes_len, decide_eq_true (show (0 : Int) < 1 + (l.length : Int) by omega), cond_true]
  have e0 : ([0] ++ p_impl_sizes l).getD (0 : Int).toNat 0 = 0 := rfl
  rw [e0]
  cases hl : p_spec_l03Long l
  · rw [risk_same _ _ hw, hl]; rfl
  · cases hn : p_spec_l02Above noise
    · rw [risk_same _ _ hw, hl, hn]; rfl
    · rw [risk_at hw hl hn (by decide +kernel)]
      unfold p_impl_finite p_impl_IsFinite p_spec_l01Finite
      generalize p_spec_l05Risk l noise 0 = r
      cases feq .f32 (fsub .f32 r r) 0
      · rfl
      · simp only [Bool.not_true, Bool.not_false, cond_false, cond_true]
        have := bestLimit_go hl hn hw (Int.toNat (1 + (l.length : Int) - 0)) 0 0 r 0 0 false (by omega)
        have e : (1 + (l.length : Int) - 0).toNat = (Int.toNat ((l.length : Int) - (0 : Int)) + 1) := by omega
        rw [e] at this ⊢
        exact this
theorem laws_FnExactBestLimit_true (l_aList : List Nat) (aNoise : Nat) (q0 : (∀ y ∈ l_aList, W32 y)) (q1 : W32 aNoise) : p_laws_FnExactBestLimit l_aList aNoise = true := by
  rw [p_laws_FnExactBestLimit_eq, bestLimit_same q0, laws_sameFloat_self, laws_sameFloat_self, laws_eqFloat32S_self]
  cases decide ((1048576 : Int) < (l_aList.length : Int)) <;> simp
/-! laws_FnExactBestLimit: function 14 -/
def E_laws_FnExactBestLimit : Env := envOf [(22, S_laws_toFloat32S), (46, S_spec_BestLimit), (47, S_impl_BestLimit), (30, S_laws_sameFloat), (24, S_laws_eqFloat32S)]
def F_laws_FnExactBestLimit : List Value → AHeap → (Value → AHeap → Prop) → Prop
  | [.slice aList_a aList_n aList_e, .float .f32 aNoise], H, K => T_laws_FnExactBestLimit aList_a aList_n aList_e aNoise H fun (r1 : Bool) (H' : AHeap) => K (.bool r1) H'
  | _, _, _ => False
def S_laws_FnExactBestLimit : FSpec := { F := F_laws_FnExactBestLimit, quiet := false, tame := false }
theorem laws_FnExactBestLimit_vc (aList_a : Option Addr) (aList_n : Nat) (aList_e : Nat) (aNoise : Nat) (H : AHeap) (K : Value → AHeap → Prop) : bodyK Try.prog E_laws_FnExactBestLimit Try.f14 [.slice aList_a aList_n aList_e, .float .f32 aNoise] H K =
  (Br (decide ((1048576 : Int) < (aList_n : Int))) (K (.bool true) H) (T_laws_toFloat32S aList_a aList_n aList_e H fun (a1 : Option Addr) (r1 : Nat) (r2 : Nat) (H1 : AHeap) => T_spec_BestLimit a1 r1 r2 aNoise H1 fun (r3 : Nat) (r4 : Nat) (r5 : Bool) (H2 : AHeap) => T_laws_toFloat32S aList_a aList_n aList_e H2 fun (a2 : Option Addr) (r6 : Nat) (r7 : Nat) (H3 : AHeap) => T_impl_BestLimit a2 r6 r7 aNoise H3 fun (r8 : Nat) (r9 : Nat) (r10 : Bool) (H4 : AHeap) => T_laws_sameFloat (fwide r8) (fwide r3) H4 fun (r11 : Bool) (H5 : AHeap) => Br (!r11) (K (.bool false) H5) (T_laws_sameFloat (fwide r9) (fwide r4) H5 fun (r12 : Bool) (H6 : AHeap) => Br (!r12) (K (.bool false) H6) (Br (!(r10 == r5)) (K (.bool false) H6) (T_laws_toFloat32S aList_a aList_n aList_e H6 fun (a3 : Option Addr) (r13 : Nat) (r14 : Nat) (H7 : AHeap) => T_laws_eqFloat32S a2 r6 r7 a3 r13 r14 H7 fun (r15 : Bool) (H8 : AHeap) => Br (!r15) (K (.bool false) H8) (K (.bool true) H8)))))) := by kernel_rfl
theorem E_laws_FnExactBestLimit_ok : ∀ g, FnOk Try.prog g (E_laws_FnExactBestLimit g) := FnOk.envOf (by
  intro x hx
  simp only [List.mem_cons, List.not_mem_nil, or_false] at hx
  rcases hx with rfl | rfl | rfl | rfl | rfl
  · exact laws_toFloat32S_ok
  · exact spec_BestLimit_ok
  · exact impl_BestLimit_ok
  · exact laws_sameFloat_ok
  · exact laws_eqFloat32S_ok)
set_option maxHeartbeats 1000000 in
theorem laws_FnExactBestLimit_main (aList_a : Option Addr) (aList_n : Nat) (aList_e : Nat) (aNoise : Nat) (H : AHeap) (K : Value → AHeap → Prop) (h : T_laws_FnExactBestLimit aList_a aList_n aList_e aNoise H fun (r1 : Bool) (H' : AHeap) => K (.bool r1) H') : bodyK Try.prog E_laws_FnExactBestLimit Try.f14 [.slice aList_a aList_n aList_e, .float .f32 aNoise] H K := by
  rw [laws_FnExactBestLimit_vc]
  obtain ⟨l_aList, h_0, h_1, h_2, h_3, hk⟩ := h
  have i_aList := h_0
  obtain rfl := i_aList.eqn
  have hl := laws_FnExactBestLimit_true l_aList aNoise h_1 h_3
  have e : p_laws_FnExactBestLimit l_aList aNoise = _ := rfl
  have e := e.trans (p_laws_FnExactBestLimit_eq l_aList aNoise)
  have e := hl.symm.trans e
  have g0 := Grow.refl H
  refine Br.intro (fun c_1 => ?_) (fun c_1 => ?_)
  · have e := e.trans (cond_t c_1)
    have c_1' := of_decide_eq_true c_1
    first | exact hk _ | (exfalso; cases e; done) | (rw [← e]; exact hk _)
  · have e := e.trans (cond_f c_1)
    have c_1' := of_decide_eq_false c_1
    refine T_laws_toFloat32S_i ⟨_, (i_aList.grow g0), (by first | omega | (simp only [List.length_set, List.length_replicate, List.length_append, List.length_cons, List.length_nil, List.length_take, List.length_drop, marks_length]; done) | (simp only [List.length_set, List.length_replicate, List.length_append, List.length_cons, List.length_nil, List.length_take, List.length_drop, marks_length]; omega)), fun a_2 n_3 e_4 H_1 g_6 r_5 => ?_⟩
    have l_7 := g_6.1
    have g_8 := g0.trans g_6
    have l_9 := g_8.1
    obtain rfl := r_5.isL.eqn
    have u_10 := r_5.up
    have u_11 := r_5.lo
    refine T_spec_BestLimit_i ⟨_, r_5.isL, (by first | omega | (simp only [List.length_set, List.length_replicate, List.length_append, List.length_cons, List.length_nil, List.length_take, List.length_drop, marks_length]; done) | (simp only [List.length_set, List.length_replicate, List.length_append, List.length_cons, List.length_nil, List.length_take, List.length_drop, marks_length]; omega)), ?_⟩
    refine T_laws_toFloat32S_i ⟨_, (i_aList.grow g_8), (by first | omega | (simp only [List.length_set, List.length_replicate, List.length_append, List.length_cons, List.length_nil, List.length_take, List.length_drop, marks_length]; done) | (simp only [List.length_set, List.length_replicate, List.length_append, List.length_cons, List.length_nil, List.length_take, List.length_drop, marks_length]; omega)), fun a_13 n_14 e_15 H_2 g_17 r_16 => ?_⟩
    have l_18 := g_17.1
    have g_19 := g_8.trans g_17
    have l_20 := g_19.1
    have r_21 := r_5.grow g_17
    obtain rfl := r_16.isL.eqn
    have u_22 := r_16.up
    have u_23 := r_16.lo
    refine T_impl_BestLimit_i ⟨_, r_16.isL, (by first | omega | (simp only [List.length_set, List.length_replicate, List.length_append, List.length_cons, List.length_nil, List.length_take, List.length_drop, marks_length]; done) | (simp only [List.length_set, List.length_replicate, List.length_append, List.length_cons, List.length_nil, List.length_take, List.length_drop, marks_length]; omega)), fun  H_3 g_25  => ?_⟩
    have l_26 := g_25.1
    have g_27 := g_19.trans g_25
    have l_28 := g_27.1
    have r_29 := r_21.grow g_25
    have r_30 := r_16.grow g_25
    refine T_laws_sameFloat_i ?_
    refine Br.intro (fun c_31 => ?_) (fun c_31 => ?_)
    · have e := e.trans (cond_t c_31)
      have c_31n := nf_of_t c_31
      first | exact hk _ | (exfalso; cases e; done) | (rw [← e]; exact hk _)
    · have e := e.trans (cond_f c_31)
      have c_31n := nt_of_f c_31
      refine T_laws_sameFloat_i ?_
      refine Br.intro (fun c_32 => ?_) (fun c_32 => ?_)
      · have e := e.trans (cond_t c_32)
        have c_32n := nf_of_t c_32
        first | exact hk _ | (exfalso; cases e; done) | (rw [← e]; exact hk _)
      · have e := e.trans (cond_f c_32)
        have c_32n := nt_of_f c_32
        refine Br.intro (fun c_33 => ?_) (fun c_33 => ?_)
        · have e := e.trans (cond_t c_33)
          have c_33n := nf_of_t c_33
          first | exact hk _ | (exfalso; cases e; done) | (rw [← e]; exact hk _)
        · have e := e.trans (cond_f c_33)
          have c_33n := nt_of_f c_33
          refine T_laws_toFloat32S_i ⟨_, (i_aList.grow g_27), (by first | omega | (simp only [List.length_set, List.length_replicate, List.length_append, List.length_cons, List.length_nil, List.length_take, List.length_drop, marks_length]; done) | (simp only [List.length_set, List.length_replicate, List.length_append, List.length_cons, List.length_nil, List.length_take, List.length_drop, marks_length]; omega)), fun a_34 n_35 e_36 H_4 g_38 r_37 => ?_⟩
          have l_39 := g_38.1
          have g_40 := g_27.trans g_38
          have l_41 := g_40.1
          have r_42 := r_29.grow g_38
          have r_43 := r_30.grow g_38
          obtain rfl := r_37.isL.eqn
          have u_44 := r_37.up
          have u_45 := r_37.lo
          refine T_laws_eqFloat32S_i ⟨_, _, r_43.isL, r_37.isL, (by first | omega | (simp only [List.length_set, List.length_replicate, List.length_append, List.length_cons, List.length_nil, List.length_take, List.length_drop, marks_length]; done) | (simp only [List.length_set, List.length_replicate, List.length_append, List.length_cons, List.length_nil, List.length_take, List.length_drop, marks_length]; omega)), (by first | omega | (simp only [List.length_set, List.length_replicate, List.length_append, List.length_cons, List.length_nil, List.length_take, List.length_drop, marks_length]; done) | (simp only [List.length_set, List.length_replicate, List.length_append, List.length_cons, List.length_nil, List.length_take, List.length_drop, marks_length]; omega)), ?_⟩
          refine Br.intro (fun c_47 => ?_) (fun c_47 => ?_)
          · have e := e.trans (cond_t c_47)
            have c_47n := nf_of_t c_47
            first | exact hk _ | (exfalso; cases e; done) | (rw [← e]; exact hk _)
          · have e := e.trans (cond_f c_47)
            have c_47n := nt_of_f c_47
            first | exact hk _ | (exfalso; cases e; done) | (rw [← e]; exact hk _)
theorem laws_FnExactBestLimit_ok : FnOk Try.prog 14 S_laws_FnExactBestLimit := by
  refine FnOk.body mix_ok E_laws_FnExactBestLimit_ok Try.func14 rfl (by kernel_rfl) (by kernel_rfl) ?_ ?_ ?_ ?_ ?_
  · intro args H K K' h hk
    simp only [S_laws_FnExactBestLimit] at *
    unfold F_laws_FnExactBestLimit at *
    split at hk
    · obtain ⟨l_aList, h_0, h_1, h_2, h_3, k⟩ := hk
      exact ⟨l_aList, h_0, h_1, h_2, h_3, (fun H' => h _ _ (k H'))⟩
    · exact hk.elim
  · intro hq; cases hq
  · intro args H K hk
    simp only [S_laws_FnExactBestLimit] at *
    unfold F_laws_FnExactBestLimit at *
    split at hk
    · obtain ⟨l_aList, h_0, h_1, h_2, h_3, k⟩ := hk
      exact ⟨_, _, k []⟩
    · exact hk.elim
  · intro hq; cases hq
  · have mm := @laws_FnExactBestLimit_main
    revert mm
    generalize bodyK Try.prog E_laws_FnExactBestLimit Try.f14 = Q
    intro mm args H K hk
    simp only [S_laws_FnExactBestLimit] at *
    unfold F_laws_FnExactBestLimit at *
    split at hk
    · exact mm _ _ _ _ H K hk
    · exact hk.elim
end Go.Proofs.Ytfofkmlohmodeab.Ai
