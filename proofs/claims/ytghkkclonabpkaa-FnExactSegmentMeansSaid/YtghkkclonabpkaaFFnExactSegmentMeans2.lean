/- What functions of the program come to on the abstract machine, and that they do so; printed by a program of mine around proofs of mine. -/
import Derived.Test.YtghkkclonabpkaaFFnExactSegmentMeans1
set_option linter.unusedVariables false
set_option linter.unusedSimpArgs false
set_option maxRecDepth 100000
namespace Go.Proofs.Ytghkkclonabpkaa.Ai
open Go
attribute [local irreducible] bodyK
def p_laws_FnExactSegmentMeans (l_aList : List Nat) (l_aBreaks : List Int) : Bool := ((bif decide ((1048576 : Int) < (l_aList.length : Int)) then true else (bif decide ((1048576 : Int) < (l_aBreaks.length : Int)) then true else (bif !((p_laws_eqFloat32S ((p_impl_SegmentMeans l_aList l_aBreaks).1) ((p_spec_SegmentMeans l_aList l_aBreaks).1))) then false else (bif !(((p_impl_SegmentMeans l_aList l_aBreaks).2) == ((p_spec_SegmentMeans l_aList l_aBreaks).2)) then false else (bif !(p_laws_eqFloat32S l_aList l_aList) then false else (bif !(p_laws_eqInt64S l_aBreaks l_aBreaks) then false else (bif decide (((wk ((wk (1 : Int) l_aList.length)) l_aBreaks.length) : Int) < 0) then false else (bif !((p_laws_eqFloat32S ((p_impl_SegmentMeans l_aList l_aBreaks).1) ((p_spec_SegmentMeans l_aList l_aBreaks).1))) then false else (bif !(((p_impl_SegmentMeans l_aList l_aBreaks).2) == ((p_spec_SegmentMeans l_aList l_aBreaks).2)) then false else (bif decide (((p_laws_heldFloat32S ((marks (FloatKind.nearest .f32) (1 : Int) ((p_impl_SegmentMeans l_aList l_aBreaks).1).length)) (1 : Int)) : Int) < 0) then false else (bif ((p_laws_heldFloat32S ((marks (FloatKind.nearest .f32) (1 : Int) ((p_impl_SegmentMeans l_aList l_aBreaks).1).length)) (1 : Int)) : Int) != (wk (1 : Int) ((p_impl_SegmentMeans l_aList l_aBreaks).1).length) then false else (bif !((p_laws_eqFloat32S ((p_impl_SegmentMeans l_aList l_aBreaks).1) ((p_spec_SegmentMeans l_aList l_aBreaks).1))) then false else (bif !(((p_impl_SegmentMeans l_aList l_aBreaks).2) == ((p_spec_SegmentMeans l_aList l_aBreaks).2)) then false else (bif decide (((p_laws_heldFloat32S ((marks (FloatKind.nearest .f32) (1 : Int) ((p_impl_SegmentMeans l_aList l_aBreaks).1).length)) (1 : Int)) : Int) < 0) then false else (bif ((p_laws_heldFloat32S ((marks (FloatKind.nearest .f32) (1 : Int) ((p_impl_SegmentMeans l_aList l_aBreaks).1).length)) (1 : Int)) : Int) != (wk (1 : Int) ((p_impl_SegmentMeans l_aList l_aBreaks).1).length) then false else true))))))))))))))))
theorem p_laws_FnExactSegmentMeans_eq (l_aList : List Nat) (l_aBreaks : List Int) : p_laws_FnExactSegmentMeans l_aList l_aBreaks = ((bif decide ((1048576 : Int) < (l_aList.length : Int)) then true else (bif decide ((1048576 : Int) < (l_aBreaks.length : Int)) then true else (bif !((p_laws_eqFloat32S ((p_impl_SegmentMeans l_aList l_aBreaks).1) ((p_spec_SegmentMeans l_aList l_aBreaks).1))) then false else (bif !(((p_impl_SegmentMeans l_aList l_aBreaks).2) == ((p_spec_SegmentMeans l_aList l_aBreaks).2)) then false else (bif !(p_laws_eqFloat32S l_aList l_aList) then false else (bif !(p_laws_eqInt64S l_aBreaks l_aBreaks) then false else (bif decide (((wk ((wk (1 : Int) l_aList.length)) l_aBreaks.length) : Int) < 0) then false else (bif !((p_laws_eqFloat32S ((p_impl_SegmentMeans l_aList l_aBreaks).1) ((p_spec_SegmentMeans l_aList l_aBreaks).1))) then false else (bif !(((p_impl_SegmentMeans l_aList l_aBreaks).2) == ((p_spec_SegmentMeans l_aList l_aBreaks).2)) then false else (bif decide (((p_laws_heldFloat32S ((marks (FloatKind.nearest .f32) (1 : Int) ((p_impl_SegmentMeans l_aList l_aBreaks).1).length)) (1 : Int)) : Int) < 0) then false else (bif ((p_laws_heldFloat32S ((marks (FloatKind.nearest .f32) (1 : Int) ((p_impl_SegmentMeans l_aList l_aBreaks).1).length)) (1 : Int)) : Int) != (wk (1 : Int) ((p_impl_SegmentMeans l_aList l_aBreaks).1).length) then false else (bif !((p_laws_eqFloat32S ((p_impl_SegmentMeans l_aList l_aBreaks).1) ((p_spec_SegmentMeans l_aList l_aBreaks).1))) then false else (bif !(((p_impl_SegmentMeans l_aList l_aBreaks).2) == ((p_spec_SegmentMeans l_aList l_aBreaks).2)) then false else (bif decide (((p_laws_heldFloat32S ((marks (FloatKind.nearest .f32) (1 : Int) ((p_impl_SegmentMeans l_aList l_aBreaks).1).length)) (1 : Int)) : Int) < 0) then false else (bif ((p_laws_heldFloat32S ((marks (FloatKind.nearest .f32) (1 : Int) ((p_impl_SegmentMeans l_aList l_aBreaks).1).length)) (1 : Int)) : Int) != (wk (1 : Int) ((p_impl_SegmentMeans l_aList l_aBreaks).1).length) then false else true)))))))))))))))) := rfl
def T_laws_FnExactSegmentMeans (aList_a : Option Addr) (aList_n : Nat) (aList_e : Nat) (aBreaks_a : Option Addr) (aBreaks_n : Nat) (aBreaks_e : Nat) (H : AHeap) (K : Bool → AHeap → Prop) : Prop := ∃ l_aList : List Nat, ∃ l_aBreaks : List Int, IsL fF H aList_a aList_n l_aList ∧ (∀ y ∈ l_aList, W32 y) ∧ l_aList.length ≤ 9223372036854775807 ∧ IsL fI H aBreaks_a aBreaks_n l_aBreaks ∧ (∀ y ∈ l_aBreaks, I64 y) ∧ l_aBreaks.length ≤ 9223372036854775807 ∧ ∀ H' : AHeap, K true H'
theorem spec_fin (x : Nat) : p_spec_l01Finite x = fin .f32 x := fin_asked x
theorem impl_fin (x : Nat) : p_impl_IsFinite x = fin .f32 x := fin_asked x
theorem w32_wd {x : Nat} (h : W32 x) : Wd .f32 x := ⟨h.1, h.2⟩
theorem wd_w32 {x : Nat} (h : Wd .f32 x) : W32 x := ⟨h.1, h.2⟩
theorem l02Finite_go (l : List Nat) : ∀ (μ : Nat) (t : Bool) (i : Nat), l.length - i < μ → p_spec_l02Finite_l1 l μ t (i : Int) = (l.drop i).all (fin .f32) := by
  intro μ
  induction μ with
  | zero => intro t i h; omega
  | succ μ ih =>
    intro t i hm
    rw [p_spec_l02Finite_l1_s]
    by_cases h : i < l.length
    · rw [decide_eq_true (show (i : Int) < (l.length : Int) by omega), cond_true, Int.toNat_natCast, spec_fin]
      rw [List.drop_eq_getElem_cons h, List.all_cons, List.getD_eq_getElem?_getD, List.getElem?_eq_getElem h, Option.getD_some]
      have := ih t (i + 1) (by omega)
      cases fin .f32 l[i]
      · rfl
      · simp only [Bool.not_true, cond_false, Bool.true_and]; exact this
    · rw [decide_eq_false (show ¬ (i : Int) < (l.length : Int) by omega), cond_false, List.drop_eq_nil_of_le (by omega)]; rfl
theorem l02Finite_all (l : List Nat) : p_spec_l02Finite l = l.all (fin .f32) := by
  rw [p_spec_l02Finite_eq]
  have := l02Finite_go l (Int.toNat ((l.length : Int) - (0 : Int)) + 1) false 0 (by omega)
  simpa using this
theorem areFinite_in (ls : List (List Nat)) (t2 : Bool) (t9 : Int) (k : Bool → Int → Bool) : ∀ (μ : Nat) (t : Bool) (i : Nat), i ≤ (ls.getD t9.toNat []).length → (ls.getD t9.toNat []).length - i < μ →
    p_impl_areFinite_l2 ls t2 t9 k μ t (i : Int) = bif ((ls.getD t9.toNat []).drop i).all (fin .f32) then k t ((ls.getD t9.toNat []).length : Int) else false := by
  intro μ
  generalize hl : ls.getD t9.toNat [] = l
  induction μ with
  | zero => intro t i _ h; omega
  | succ μ ih =>
    intro t i hi hm
    rw [p_impl_areFinite_l2_s, hl]
    by_cases h : i < l.length
    · rw [decide_eq_true (show (i : Int) < (l.length : Int) by omega), cond_true, Int.toNat_natCast, impl_fin]
      rw [List.drop_eq_getElem_cons h, List.all_cons, List.getD_eq_getElem?_getD, List.getElem?_eq_getElem h, Option.getD_some]
      have := ih t (i + 1) (by omega) (by omega)
      cases fin .f32 l[i]
      · rfl
      · simp only [Bool.not_true, cond_false, Bool.true_and]; exact this
    · rw [decide_eq_false (show ¬ (i : Int) < (l.length : Int) by omega), cond_false, List.drop_eq_nil_of_le (by omega), show i = l.length by omega]; rfl
theorem areFinite_go (ls : List (List Nat)) : ∀ (μ : Nat) (t : Bool) (i : Nat), ls.length - i < μ → p_impl_areFinite_l1 ls μ t (i : Int) = (ls.drop i).all (fun l => l.all (fin .f32)) := by
  intro μ
  induction μ with
  | zero => intro t i h; omega
  | succ μ ih =>
    intro t i hm
    rw [p_impl_areFinite_l1_s]
    by_cases h : i < ls.length
    · rw [decide_eq_true (show (i : Int) < (ls.length : Int) by omega), cond_true]
      have := areFinite_in ls t (i : Int) (fun t2 t15 => p_impl_areFinite_l1 ls μ t2 ((i : Int) + 1)) (Int.toNat ((((ls).getD ((i : Int) : Int).toNat []).length : Int) - (0 : Int)) + 1) t 0 (Nat.zero_le _) (by omega)
      refine Eq.trans this ?_
      rw [Int.toNat_natCast, List.drop_zero, List.drop_eq_getElem_cons h, List.all_cons, List.getD_eq_getElem?_getD, List.getElem?_eq_getElem h, Option.getD_some]
      have := ih t (i + 1) (by omega)
      cases ls[i].all (fin .f32)
      · rfl
      · simp only [cond_true, Bool.true_and]; exact this
    · rw [decide_eq_false (show ¬ (i : Int) < (ls.length : Int) by omega), cond_false, List.drop_eq_nil_of_le (by omega)]; rfl
theorem areFinite_all (ls : List (List Nat)) : p_impl_areFinite ls = ls.all (fun l => l.all (fin .f32)) := by
  rw [p_impl_areFinite_eq]
  have := areFinite_go ls (Int.toNat ((ls.length : Int) - (0 : Int)) + 1) false 0 (by omega)
  simpa using this
theorem finite_same (l : List Nat) : p_impl_areFinite [l] = p_spec_l02Finite l := by rw [areFinite_all, l02Finite_all]; simp
theorem long_same (l : List Nat) : p_impl_isLong l = p_spec_l03Long l := by
  rw [p_impl_isLong_eq, p_spec_l03Long_eq, finite_same]
  unfold p_impl_within
  cases decide ((1 : Int) ≤ (l.length : Int)) <;> cases decide (((l.length : Int) : Int) ≤ 128) <;> rfl
theorem long_t {l : List Nat} (h : p_spec_l03Long l = true) : 1 ≤ l.length ∧ l.length ≤ 128 ∧ l.all (fin .f32) = true := by
  rw [p_spec_l03Long_eq, l02Finite_all] at h
  by_cases h1 : (1 : Int) ≤ (l.length : Int)
  · rw [decide_eq_true h1, cond_true] at h
    by_cases h2 : (l.length : Int) ≤ 128
    · rw [decide_eq_true h2, cond_true] at h; exact ⟨by omega, by omega, h⟩
    · rw [decide_eq_false h2] at h; cases h
  · rw [decide_eq_false h1] at h; cases h
theorem fin_getD {l : List Nat} (h : l.all (fin .f32) = true) (i : Nat) : fin .f32 (l.getD i 0) = true := by
  rw [List.getD_eq_getElem?_getD]
  cases hx : l[i]? with
  | none => exact fin_zero _
  | some y => exact List.all_eq_true.1 h y (List.mem_of_getElem? hx)
theorem w32_zero : W32 0 := ⟨by decide, by decide +kernel⟩
theorem w32_getD {l : List Nat} (h : ∀ y ∈ l, W32 y) (i : Nat) : W32 (l.getD i 0) := by
  rw [List.getD_eq_getElem?_getD]
  cases hx : l[i]? with
  | none => exact w32_zero
  | some y => exact h y (List.mem_of_getElem? hx)
theorem mean_go (l : List Nat) : ∀ (μ s : Nat) (i : Nat), l.length - i < μ → fdiv .f32 (p_impl_added_l1 l μ s (i : Int)) (FloatKind.nearest .f32 (l.length : Int)) = p_spec_l05Mean_l1 l μ s (i : Int) := by
  intro μ
  induction μ with
  | zero => intro s i h; omega
  | succ μ ih =>
    intro s i hm
    rw [p_impl_added_l1_s, p_spec_l05Mean_l1_s]
    by_cases h : i < l.length
    · rw [decide_eq_true (show (i : Int) < (l.length : Int) by omega), cond_true, cond_true]
      exact ih _ (i + 1) (by omega)
    · rw [decide_eq_false (show ¬ (i : Int) < (l.length : Int) by omega), cond_false, cond_false]
theorem mean_same (l : List Nat) : p_impl_mean l = p_spec_l05Mean l := by
  rw [p_impl_mean_eq, p_spec_l05Mean_eq, p_impl_added_eq]
  exact mean_go l _ 0 0 (by omega)
theorem wk_one {n : Nat} (h : n < 1073741824) : decide (wk 1 n < (0 : Int)) = false := by
  rw [wk_eq n 1 (by omega) (by omega)]; exact decide_eq_false (by omega)
theorem segments_same (l : List Nat) (b : List Int) : p_impl_SegmentMeans l b = p_spec_SegmentMeans l b := by
  rw [impl_seg_val, spec_seg_val, long_same]
  have h1 : p_impl_mean = p_spec_l05Mean := funext mean_same
  have h2 : (fun o => (p_impl_finiteList o).2) = p_spec_l02Finite := by
    funext o
    show (p_impl_finiteList o).2 = _
    rw [p_impl_finiteList_eq, finite_same]
    cases p_spec_l02Finite o <;> rfl
  rw [h1, h2]
theorem laws_FnExactSegmentMeans_true (l_aList : List Nat) (l_aBreaks : List Int) (q0 : (∀ y ∈ l_aList, W32 y)) (q1 : (∀ y ∈ l_aBreaks, I64 y)) : p_laws_FnExactSegmentMeans l_aList l_aBreaks = true := by
  rw [p_laws_FnExactSegmentMeans_eq, segments_same]
  by_cases hL : (1048576 : Int) < (l_aList.length : Int)
  · rw [decide_eq_true hL]; rfl
  · by_cases hB : (1048576 : Int) < (l_aBreaks.length : Int)
    · rw [decide_eq_true hB, decide_eq_false hL]; rfl
    · have hr := spec_SegmentMeans_len l_aList l_aBreaks
      rw [decide_eq_false hL, decide_eq_false hB, cond_false, cond_false]
      simp only [laws_eqFloat32S_self, laws_eqInt64S_self, laws_heldFloat32S_marks, wk_add, wk_one (show l_aList.length + l_aBreaks.length < 1073741824 by omega), Bool.not_true, cond_false, beq_self_eq_true, bne_self_eq_false, wk_one (show l_aList.length < 1073741824 by omega), wk_one (show (p_spec_SegmentMeans l_aList l_aBreaks).1.length < 1073741824 by omega)]
/-! laws_FnExactSegmentMeans: function 5 -/
def E_laws_FnExactSegmentMeans : Env := envOf [(16, S_laws_toFloat32S), (25, S_laws_toInt64S), (24, S_spec_SegmentMeans), (26, S_impl_SegmentMeans), (19, S_laws_eqFloat32S), (27, S_laws_eqInt64S), (22, S_laws_markFloat32S), (28, S_laws_markInt64S), (23, S_laws_heldFloat32S)]
def F_laws_FnExactSegmentMeans : List Value → AHeap → (Value → AHeap → Prop) → Prop
  | [.slice aList_a aList_n aList_e, .slice aBreaks_a aBreaks_n aBreaks_e], H, K => T_laws_FnExactSegmentMeans aList_a aList_n aList_e aBreaks_a aBreaks_n aBreaks_e H fun (r1 : Bool) (H' : AHeap) => K (.bool r1) H'
  | _, _, _ => False
def S_laws_FnExactSegmentMeans : FSpec := { F := F_laws_FnExactSegmentMeans, quiet := false, tame := false }
theorem laws_FnExactSegmentMeans_vc (aList_a : Option Addr) (aList_n : Nat) (aList_e : Nat) (aBreaks_a : Option Addr) (aBreaks_n : Nat) (aBreaks_e : Nat) (H : AHeap) (K : Value → AHeap → Prop) : bodyK Try.prog E_laws_FnExactSegmentMeans Try.f5 [.slice aList_a aList_n aList_e, .slice aBreaks_a aBreaks_n aBreaks_e] H K =
  (Br (decide ((1048576 : Int) < (aList_n : Int))) (K (.bool true) H) (Br (decide ((1048576 : Int) < (aBreaks_n : Int))) (K (.bool true) H) (T_laws_toFloat32S aList_a aList_n aList_e H fun (a1 : Option Addr) (r1 : Nat) (r2 : Nat) (H1 : AHeap) => T_laws_toInt64S aBreaks_a aBreaks_n aBreaks_e H1 fun (a2 : Option Addr) (r3 : Nat) (r4 : Nat) (H2 : AHeap) => T_spec_SegmentMeans a1 r1 r2 a2 r3 r4 H2 fun (a3 : Option Addr) (r5 : Nat) (r6 : Nat) (r7 : Bool) (H3 : AHeap) => T_laws_toFloat32S aList_a aList_n aList_e H3 fun (a4 : Option Addr) (r8 : Nat) (r9 : Nat) (H4 : AHeap) => T_laws_toInt64S aBreaks_a aBreaks_n aBreaks_e H4 fun (a5 : Option Addr) (r10 : Nat) (r11 : Nat) (H5 : AHeap) => T_impl_SegmentMeans a4 r8 r9 a5 r10 r11 H5 fun (a6 : Option Addr) (r12 : Nat) (r13 : Nat) (r14 : Bool) (H6 : AHeap) => T_laws_eqFloat32S a6 r12 r13 a3 r5 r6 H6 fun (r15 : Bool) (H7 : AHeap) => Br (!r15) (K (.bool false) H7) (Br (!(r14 == r7)) (K (.bool false) H7) (T_laws_toFloat32S aList_a aList_n aList_e H7 fun (a7 : Option Addr) (r16 : Nat) (r17 : Nat) (H8 : AHeap) => T_laws_eqFloat32S a4 r8 r9 a7 r16 r17 H8 fun (r18 : Bool) (H9 : AHeap) => Br (!r18) (K (.bool false) H9) (T_laws_toInt64S aBreaks_a aBreaks_n aBreaks_e H9 fun (a8 : Option Addr) (r19 : Nat) (r20 : Nat) (H10 : AHeap) => T_laws_eqInt64S a5 r10 r11 a8 r19 r20 H10 fun (r21 : Bool) (H11 : AHeap) => Br (!r21) (K (.bool false) H11) (T_laws_markFloat32S a4 r8 r9 1 H11 fun (r22 : Int) (H12 : AHeap) => T_laws_markInt64S a5 r10 r11 r22 H12 fun (r23 : Int) (H13 : AHeap) => Br (decide ((r23 : Int) < 0)) (K (.bool false) H13) (T_laws_eqFloat32S a6 r12 r13 a3 r5 r6 H13 fun (r24 : Bool) (H14 : AHeap) => Br (!r24) (K (.bool false) H14) (Br (!(r14 == r7)) (K (.bool false) H14) (T_laws_markFloat32S a6 r12 r13 1 H14 fun (r25 : Int) (H15 : AHeap) => T_laws_heldFloat32S a6 r12 r13 1 H15 fun (r26 : Int) (H16 : AHeap) => Br (decide ((r26 : Int) < 0)) (K (.bool false) H16) (Br ((r26 : Int) != r25) (K (.bool false) H16) (T_laws_toFloat32S aList_a aList_n aList_e H16 fun (a9 : Option Addr) (r27 : Nat) (r28 : Nat) (H17 : AHeap) => T_laws_toInt64S aBreaks_a aBreaks_n aBreaks_e H17 fun (a10 : Option Addr) (r29 : Nat) (r30 : Nat) (H18 : AHeap) => T_impl_SegmentMeans a9 r27 r28 a10 r29 r30 H18 fun (a11 : Option Addr) (r31 : Nat) (r32 : Nat) (r33 : Bool) (H19 : AHeap) => T_laws_eqFloat32S a11 r31 r32 a3 r5 r6 H19 fun (r34 : Bool) (H20 : AHeap) => Br (!r34) (K (.bool false) H20) (Br (!(r33 == r7)) (K (.bool false) H20) (T_laws_heldFloat32S a6 r12 r13 1 H20 fun (r35 : Int) (H21 : AHeap) => Br (decide ((r35 : Int) < 0)) (K (.bool false) H21) (Br ((r35 : Int) != r25) (K (.bool false) H21) (K (.bool true) H21)))))))))))))))) := by kernel_rfl
theorem E_laws_FnExactSegmentMeans_ok : ∀ g, FnOk Try.prog g (E_laws_FnExactSegmentMeans g) := FnOk.envOf (by
  intro x hx
  simp only [List.mem_cons, List.not_mem_nil, or_false] at hx
  rcases hx with rfl | rfl | rfl | rfl | rfl | rfl | rfl | rfl | rfl
  · exact laws_toFloat32S_ok
  · exact laws_toInt64S_ok
  · exact spec_SegmentMeans_ok
  · exact impl_SegmentMeans_ok
  · exact laws_eqFloat32S_ok
  · exact laws_eqInt64S_ok
  · exact laws_markFloat32S_ok
  · exact laws_markInt64S_ok
  · exact laws_heldFloat32S_ok)
set_option maxHeartbeats 1000000 in
theorem laws_FnExactSegmentMeans_main (aList_a : Option Addr) (aList_n : Nat) (aList_e : Nat) (aBreaks_a : Option Addr) (aBreaks_n : Nat) (aBreaks_e : Nat) (H : AHeap) (K : Value → AHeap → Prop) (h : T_laws_FnExactSegmentMeans aList_a aList_n aList_e aBreaks_a aBreaks_n aBreaks_e H fun (r1 : Bool) (H' : AHeap) => K (.bool r1) H') : bodyK Try.prog E_laws_FnExactSegmentMeans Try.f5 [.slice aList_a aList_n aList_e, .slice aBreaks_a aBreaks_n aBreaks_e] H K := by
  rw [laws_FnExactSegmentMeans_vc]
  obtain ⟨l_aList, l_aBreaks, h_0, h_1, h_2, h_3, h_4, h_5, hk⟩ := h
  have i_aList := h_0
  obtain rfl := i_aList.eqn
  have i_aBreaks := h_3
  obtain rfl := i_aBreaks.eqn
  have hl := laws_FnExactSegmentMeans_true l_aList l_aBreaks h_1 h_4
  have e : p_laws_FnExactSegmentMeans l_aList l_aBreaks = _ := rfl
  have e := e.trans (p_laws_FnExactSegmentMeans_eq l_aList l_aBreaks)
  have e := hl.symm.trans e
  have g0 := Grow.refl H
  refine Br.intro (fun c_1 => ?_) (fun c_1 => ?_)
  · have e := e.trans (cond_t c_1)
    have c_1' := of_decide_eq_true c_1
    first | exact hk _ | (exfalso; cases e; done) | (rw [← e]; exact hk _)
  · have e := e.trans (cond_f c_1)
    have c_1' := of_decide_eq_false c_1
    refine Br.intro (fun c_2 => ?_) (fun c_2 => ?_)
    · have e := e.trans (cond_t c_2)
      have c_2' := of_decide_eq_true c_2
      first | exact hk _ | (exfalso; cases e; done) | (rw [← e]; exact hk _)
    · have e := e.trans (cond_f c_2)
      have c_2' := of_decide_eq_false c_2
      refine T_laws_toFloat32S_i ⟨_, (i_aList.grow g0), (by first | omega | (simp only [List.length_set, List.length_replicate, List.length_append, List.length_cons, List.length_nil, List.length_take, List.length_drop, marks_length]; done) | (simp only [List.length_set, List.length_replicate, List.length_append, List.length_cons, List.length_nil, List.length_take, List.length_drop, marks_length]; omega)), fun a_3 n_4 e_5 H_1 g_7 r_6 => ?_⟩
      have l_8 := g_7.1
      have g_9 := g0.trans g_7
      have l_10 := g_9.1
      obtain rfl := r_6.isL.eqn
      have u_11 := r_6.up
      have u_12 := r_6.lo
      refine T_laws_toInt64S_i ⟨_, (i_aBreaks.grow g_9), (by first | omega | (simp only [List.length_set, List.length_replicate, List.length_append, List.length_cons, List.length_nil, List.length_take, List.length_drop, marks_length]; done) | (simp only [List.length_set, List.length_replicate, List.length_append, List.length_cons, List.length_nil, List.length_take, List.length_drop, marks_length]; omega)), fun a_14 n_15 e_16 H_2 g_18 r_17 => ?_⟩
      have l_19 := g_18.1
      have g_20 := g_9.trans g_18
      have l_21 := g_20.1
      have r_22 := r_6.grow g_18
      obtain rfl := r_17.isL.eqn
      have u_23 := r_17.up
      have u_24 := r_17.lo
      refine T_spec_SegmentMeans_i ⟨_, _, r_22.isL, r_17.isL, (by first | omega | (simp only [List.length_set, List.length_replicate, List.length_append, List.length_cons, List.length_nil, List.length_take, List.length_drop, marks_length]; done) | (simp only [List.length_set, List.length_replicate, List.length_append, List.length_cons, List.length_nil, List.length_take, List.length_drop, marks_length]; omega)), (by first | omega | (simp only [List.length_set, List.length_replicate, List.length_append, List.length_cons, List.length_nil, List.length_take, List.length_drop, marks_length]; done) | (simp only [List.length_set, List.length_replicate, List.length_append, List.length_cons, List.length_nil, List.length_take, List.length_drop, marks_length]; omega)), fun a_26 n_27 e_28 H_3 g_31 r_29 => ?_⟩
      have z_30 := spec_SegmentMeans_len l_aList l_aBreaks
      have l_32 := g_31.1
      have g_33 := g_20.trans g_31
      have l_34 := g_33.1
      have r_35 := r_22.grow g_31
      have r_36 := r_17.grow g_31
      obtain rfl := r_29.isL.eqn
      have u_37 := r_29.up
      have u_38 := r_29.lo
      refine T_laws_toFloat32S_i ⟨_, (i_aList.grow g_33), (by first | omega | (simp only [List.length_set, List.length_replicate, List.length_append, List.length_cons, List.length_nil, List.length_take, List.length_drop, marks_length]; done) | (simp only [List.length_set, List.length_replicate, List.length_append, List.length_cons, List.length_nil, List.length_take, List.length_drop, marks_length]; omega)), fun a_40 n_41 e_42 H_4 g_44 r_43 => ?_⟩
      have l_45 := g_44.1
      have g_46 := g_33.trans g_44
      have l_47 := g_46.1
      have r_48 := r_35.grow g_44
      have r_49 := r_36.grow g_44
      have r_50 := r_29.grow g_44
      obtain rfl := r_43.isL.eqn
      have u_51 := r_43.up
      have u_52 := r_43.lo
      refine T_laws_toInt64S_i ⟨_, (i_aBreaks.grow g_46), (by first | omega | (simp only [List.length_set, List.length_replicate, List.length_append, List.length_cons, List.length_nil, List.length_take, List.length_drop, marks_length]; done) | (simp only [List.length_set, List.length_replicate, List.length_append, List.length_cons, List.length_nil, List.length_take, List.length_drop, marks_length]; omega)), fun a_54 n_55 e_56 H_5 g_58 r_57 => ?_⟩
      have l_59 := g_58.1
      have g_60 := g_46.trans g_58
      have l_61 := g_60.1
      have r_62 := r_48.grow g_58
      have r_63 := r_49.grow g_58
      have r_64 := r_50.grow g_58
      have r_65 := r_43.grow g_58
      obtain rfl := r_57.isL.eqn
      have u_66 := r_57.up
      have u_67 := r_57.lo
      refine T_impl_SegmentMeans_i ⟨_, _, r_65.isL, r_57.isL, (by first | omega | (simp only [List.length_set, List.length_replicate, List.length_append, List.length_cons, List.length_nil, List.length_take, List.length_drop, marks_length]; done) | (simp only [List.length_set, List.length_replicate, List.length_append, List.length_cons, List.length_nil, List.length_take, List.length_drop, marks_length]; omega)), (by first | omega | (simp only [List.length_set, List.length_replicate, List.length_append, List.length_cons, List.length_nil, List.length_take, List.length_drop, marks_length]; done) | (simp only [List.length_set, List.length_replicate, List.length_append, List.length_cons, List.length_nil, List.length_take, List.length_drop, marks_length]; omega)), fun a_69 n_70 e_71 H_6 g_74 r_72 => ?_⟩
      have z_73 := impl_SegmentMeans_len l_aList l_aBreaks
      have l_75 := g_74.1
      have g_76 := g_60.trans g_74
      have l_77 := g_76.1
      have r_78 := r_62.grow g_74
      have r_79 := r_63.grow g_74
      have r_80 := r_64.grow g_74
      have r_81 := r_65.grow g_74
      have r_82 := r_57.grow g_74
      obtain rfl := r_72.isL.eqn
      have u_83 := r_72.up
      have u_84 := r_72.lo
      refine T_laws_eqFloat32S_i ⟨_, _, r_72.isL, r_80.isL, (by first | omega | (simp only [List.length_set, List.length_replicate, List.length_append, List.length_cons, List.length_nil, List.length_take, List.length_drop, marks_length]; done) | (simp only [List.length_set, List.length_replicate, List.length_append, List.length_cons, List.length_nil, List.length_take, List.length_drop, marks_length]; omega)), (by first | omega | (simp only [List.length_set, List.length_replicate, List.length_append, List.length_cons, List.length_nil, List.length_take, List.length_drop, marks_length]; done) | (simp only [List.length_set, List.length_replicate, List.length_append, List.length_cons, List.length_nil, List.length_take, List.length_drop, marks_length]; omega)), ?_⟩
      refine Br.intro (fun c_86 => ?_) (fun c_86 => ?_)
      · have e := e.trans (cond_t c_86)
        have c_86n := nf_of_t c_86
        first | exact hk _ | (exfalso; cases e; done) | (rw [← e]; exact hk _)
      · have e := e.trans (cond_f c_86)
        have c_86n := nt_of_f c_86
        refine Br.intro (fun c_87 => ?_) (fun c_87 => ?_)
        · have e := e.trans (cond_t c_87)
          have c_87n := nf_of_t c_87
          first | exact hk _ | (exfalso; cases e; done) | (rw [← e]; exact hk _)
        · have e := e.trans (cond_f c_87)
          have c_87n := nt_of_f c_87
          refine T_laws_toFloat32S_i ⟨_, (i_aList.grow g_76), (by first | omega | (simp only [List.length_set, List.length_replicate, List.length_append, List.length_cons, List.length_nil, List.length_take, List.length_drop, marks_length]; done) | (simp only [List.length_set, List.length_replicate, List.length_append, List.length_cons, List.length_nil, List.length_take, List.length_drop, marks_length]; omega)), fun a_88 n_89 e_90 H_7 g_92 r_91 => ?_⟩
          have l_93 := g_92.1
          have g_94 := g_76.trans g_92
          have l_95 := g_94.1
          have r_96 := r_78.grow g_92
          have r_97 := r_79.grow g_92
          have r_98 := r_80.grow g_92
          have r_99 := r_81.grow g_92
          have r_100 := r_82.grow g_92
          have r_101 := r_72.grow g_92
          obtain rfl := r_91.isL.eqn
          have u_102 := r_91.up
          have u_103 := r_91.lo
          refine T_laws_eqFloat32S_i ⟨_, _, r_99.isL, r_91.isL, (by first | omega | (simp only [List.length_set, List.length_replicate, List.length_append, List.length_cons, List.length_nil, List.length_take, List.length_drop, marks_length]; done) | (simp only [List.length_set, List.length_replicate, List.length_append, List.length_cons, List.length_nil, List.length_take, List.length_drop, marks_length]; omega)), (by first | omega | (simp only [List.length_set, List.length_replicate, List.length_append, List.length_cons, List.length_nil, List.length_take, List.length_drop, marks_length]; done) | (simp only [List.length_set, List.length_replicate, List.length_append, List.length_cons, List.length_nil, List.length_take, List.length_drop, marks_length]; omega)), ?_⟩
          refine Br.intro (fun c_105 => ?_) (fun c_105 => ?_)
          · have e := e.trans (cond_t c_105)
            have c_105n := nf_of_t c_105
            first | exact hk _ | (exfalso; cases e; done) | (rw [← e]; exact hk _)
          · have e := e.trans (cond_f c_105)
            have c_105n := nt_of_f c_105
            refine T_laws_toInt64S_i ⟨_, (i_aBreaks.grow g_94), (by first | omega | (simp only [List.length_set, List.length_replicate, List.length_append, List.length_cons, List.length_nil, List.length_take, List.length_drop, marks_length]; done) | (simp only [List.length_set, List.length_replicate, List.length_append, List.length_cons, List.length_nil, List.length_take, List.length_drop, marks_length]; omega)), fun a_106 n_107 e_108 H_8 g_110 r_109 => ?_⟩
            have l_111 := g_110.1
            have g_112 := g_94.trans g_110
            have l_113 := g_112.1
            have r_114 := r_96.grow g_110
            have r_115 := r_97.grow g_110
            have r_116 := r_98.grow g_110
            have r_117 := r_99.grow g_110
            have r_118 := r_100.grow g_110
            have r_119 := r_101.grow g_110
            have r_120 := r_91.grow g_110
            obtain rfl := r_109.isL.eqn
            have u_121 := r_109.up
            have u_122 := r_109.lo
            refine T_laws_eqInt64S_i ⟨_, _, r_118.isL, r_109.isL, (by first | omega | (simp only [List.length_set, List.length_replicate, List.length_append, List.length_cons, List.length_nil, List.length_take, List.length_drop, marks_length]; done) | (simp only [List.length_set, List.length_replicate, List.length_append, List.length_cons, List.length_nil, List.length_take, List.length_drop, marks_length]; omega)), (by first | omega | (simp only [List.length_set, List.length_replicate, List.length_append, List.length_cons, List.length_nil, List.length_take, List.length_drop, marks_length]; done) | (simp only [List.length_set, List.length_replicate, List.length_append, List.length_cons, List.length_nil, List.length_take, List.length_drop, marks_length]; omega)), ?_⟩
            refine Br.intro (fun c_124 => ?_) (fun c_124 => ?_)
            · have e := e.trans (cond_t c_124)
              have c_124n := nf_of_t c_124
              first | exact hk _ | (exfalso; cases e; done) | (rw [← e]; exact hk _)
            · have e := e.trans (cond_f c_124)
              have c_124n := nt_of_f c_124
              refine T_laws_markFloat32S_i ⟨_, _, r_117, (by first | omega | (simp only [List.length_set, List.length_replicate, List.length_append, List.length_cons, List.length_nil, List.length_take, List.length_drop, marks_length]; done) | (simp only [List.length_set, List.length_replicate, List.length_append, List.length_cons, List.length_nil, List.length_take, List.length_drop, marks_length]; omega)), (fun H_9 k_125 o_126 => ?_)⟩
              have l_127 := k_125.1
              have g_128 := g_112.keepA (fun x hx => by have := u_52 x hx; omega) k_125
              have l_129 := g_128.1
              have r_130 := r_114.keepA (fun x y hx hy => by have := u_52 x hx; have := u_51 x hx; have := u_12 y hy; have := u_11 y hy; omega) k_125
              have r_131 := r_115.keepA (fun x y hx hy => by have := u_52 x hx; have := u_51 x hx; have := u_24 y hy; have := u_23 y hy; omega) k_125
              have r_132 := r_116.keepA (fun x y hx hy => by have := u_52 x hx; have := u_51 x hx; have := u_38 y hy; have := u_37 y hy; omega) k_125
              have r_133 := r_118.keepA (fun x y hx hy => by have := u_52 x hx; have := u_51 x hx; have := u_67 y hy; have := u_66 y hy; omega) k_125
              have r_134 := r_119.keepA (fun x y hx hy => by have := u_52 x hx; have := u_51 x hx; have := u_84 y hy; have := u_83 y hy; omega) k_125
              have r_135 := r_120.keepA (fun x y hx hy => by have := u_52 x hx; have := u_51 x hx; have := u_103 y hy; have := u_102 y hy; omega) k_125
              have r_136 := r_109.keepA (fun x y hx hy => by have := u_52 x hx; have := u_51 x hx; have := u_122 y hy; have := u_121 y hy; omega) k_125
              refine T_laws_markInt64S_i ⟨_, _, r_133, (by first | omega | (simp only [List.length_set, List.length_replicate, List.length_append, List.length_cons, List.length_nil, List.length_take, List.length_drop, marks_length]; done) | (simp only [List.length_set, List.length_replicate, List.length_append, List.length_cons, List.length_nil, List.length_take, List.length_drop, marks_length]; omega)), (fun H_10 k_137 o_138 => ?_)⟩
              have l_139 := k_137.1
              have g_140 := g_128.keepA (fun x hx => by have := u_67 x hx; omega) k_137
              have l_141 := g_140.1
              have r_142 := r_130.keepA (fun x y hx hy => by have := u_67 x hx; have := u_66 x hx; have := u_12 y hy; have := u_11 y hy; omega) k_137
              have r_143 := r_131.keepA (fun x y hx hy => by have := u_67 x hx; have := u_66 x hx; have := u_24 y hy; have := u_23 y hy; omega) k_137
              have r_144 := r_132.keepA (fun x y hx hy => by have := u_67 x hx; have := u_66 x hx; have := u_38 y hy; have := u_37 y hy; omega) k_137
              have r_145 := o_126.keepA (fun x y hx hy => by have := u_67 x hx; have := u_66 x hx; have := u_52 y hy; have := u_51 y hy; omega) k_137
              have r_146 := r_134.keepA (fun x y hx hy => by have := u_67 x hx; have := u_66 x hx; have := u_84 y hy; have := u_83 y hy; omega) k_137
              have r_147 := r_135.keepA (fun x y hx hy => by have := u_67 x hx; have := u_66 x hx; have := u_103 y hy; have := u_102 y hy; omega) k_137
              have r_148 := r_136.keepA (fun x y hx hy => by have := u_67 x hx; have := u_66 x hx; have := u_122 y hy; have := u_121 y hy; omega) k_137
              refine Br.intro (fun c_149 => ?_) (fun c_149 => ?_)
              · have e := e.trans (cond_t c_149)
                have c_149' := of_decide_eq_true c_149
                first | exact hk _ | (exfalso; cases e; done) | (rw [← e]; exact hk _)
              · have e := e.trans (cond_f c_149)
                have c_149' := of_decide_eq_false c_149
                refine T_laws_eqFloat32S_i ⟨_, _, r_146.isL, r_144.isL, (by first | omega | (simp only [List.length_set, List.length_replicate, List.length_append, List.length_cons, List.length_nil, List.length_take, List.length_drop, marks_length]; done) | (simp only [List.length_set, List.length_replicate, List.length_append, List.length_cons, List.length_nil, List.length_take, List.length_drop, marks_length]; omega)), (by first | omega | (simp only [List.length_set, List.length_replicate, List.length_append, List.length_cons, List.length_nil, List.length_take, List.length_drop, marks_length]; done) | (simp only [List.length_set, List.length_replicate, List.length_append, List.length_cons, List.length_nil, List.length_take, List.length_drop, marks_length]; omega)), ?_⟩
                refine Br.intro (fun c_150 => ?_) (fun c_150 => ?_)
                · have e := e.trans (cond_t c_150)
                  have c_150n := nf_of_t c_150
                  first | exact hk _ | (exfalso; cases e; done) | (rw [← e]; exact hk _)
                · have e := e.trans (cond_f c_150)
                  have c_150n := nt_of_f c_150
                  refine Br.intro (fun c_151 => ?_) (fun c_151 => ?_)
                  · have e := e.trans (cond_t c_151)
                    have c_151n := nf_of_t c_151
                    first | exact hk _ | (exfalso; cases e; done) | (rw [← e]; exact hk _)
                  · have e := e.trans (cond_f c_151)
                    have c_151n := nt_of_f c_151
                    refine T_laws_markFloat32S_i ⟨_, _, r_146, (by first | omega | (simp only [List.length_set, List.length_replicate, List.length_append, List.length_cons, List.length_nil, List.length_take, List.length_drop, marks_length]; done) | (simp only [List.length_set, List.length_replicate, List.length_append, List.length_cons, List.length_nil, List.length_take, List.length_drop, marks_length]; omega)), (fun H_11 k_152 o_153 => ?_)⟩
                    have l_154 := k_152.1
                    have g_155 := g_140.keepA (fun x hx => by have := u_84 x hx; omega) k_152
                    have l_156 := g_155.1
                    have r_157 := r_142.keepA (fun x y hx hy => by have := u_84 x hx; have := u_83 x hx; have := u_12 y hy; have := u_11 y hy; omega) k_152
                    have r_158 := r_143.keepA (fun x y hx hy => by have := u_84 x hx; have := u_83 x hx; have := u_24 y hy; have := u_23 y hy; omega) k_152
                    have r_159 := r_144.keepA (fun x y hx hy => by have := u_84 x hx; have := u_83 x hx; have := u_38 y hy; have := u_37 y hy; omega) k_152
                    have r_160 := r_145.keepA (fun x y hx hy => by have := u_84 x hx; have := u_83 x hx; have := u_52 y hy; have := u_51 y hy; omega) k_152
                    have r_161 := o_138.keepA (fun x y hx hy => by have := u_84 x hx; have := u_83 x hx; have := u_67 y hy; have := u_66 y hy; omega) k_152
                    have r_162 := r_147.keepA (fun x y hx hy => by have := u_84 x hx; have := u_83 x hx; have := u_103 y hy; have := u_102 y hy; omega) k_152
                    have r_163 := r_148.keepA (fun x y hx hy => by have := u_84 x hx; have := u_83 x hx; have := u_122 y hy; have := u_121 y hy; omega) k_152
                    refine T_laws_heldFloat32S_i ⟨_, o_153.isL, (by first | omega | (simp only [List.length_set, List.length_replicate, List.length_append, List.length_cons, List.length_nil, List.length_take, List.length_drop, marks_length]; done) | (simp only [List.length_set, List.length_replicate, List.length_append, List.length_cons, List.length_nil, List.length_take, List.length_drop, marks_length]; omega)), ?_⟩
                    refine Br.intro (fun c_164 => ?_) (fun c_164 => ?_)
                    · have e := e.trans (cond_t c_164)
                      have c_164' := of_decide_eq_true c_164
                      first | exact hk _ | (exfalso; cases e; done) | (rw [← e]; exact hk _)
                    · have e := e.trans (cond_f c_164)
                      have c_164' := of_decide_eq_false c_164
                      refine Br.intro (fun c_165 => ?_) (fun c_165 => ?_)
                      · have e := e.trans (cond_t c_165)
                        have c_165' := ine_t c_165
                        first | exact hk _ | (exfalso; cases e; done) | (rw [← e]; exact hk _)
                      · have e := e.trans (cond_f c_165)
                        have c_165' := ine_f c_165
                        refine T_laws_toFloat32S_i ⟨_, (i_aList.grow g_155), (by first | omega | (simp only [List.length_set, List.length_replicate, List.length_append, List.length_cons, List.length_nil, List.length_take, List.length_drop, marks_length]; done) | (simp only [List.length_set, List.length_replicate, List.length_append, List.length_cons, List.length_nil, List.length_take, List.length_drop, marks_length]; omega)), fun a_166 n_167 e_168 H_12 g_170 r_169 => ?_⟩
                        have l_171 := g_170.1
                        have g_172 := g_155.trans g_170
                        have l_173 := g_172.1
                        have r_174 := r_157.grow g_170
                        have r_175 := r_158.grow g_170
                        have r_176 := r_159.grow g_170
                        have r_177 := r_160.grow g_170
                        have r_178 := r_161.grow g_170
                        have r_179 := o_153.grow g_170
                        have r_180 := r_162.grow g_170
                        have r_181 := r_163.grow g_170
                        obtain rfl := r_169.isL.eqn
                        have u_182 := r_169.up
                        have u_183 := r_169.lo
                        refine T_laws_toInt64S_i ⟨_, (i_aBreaks.grow g_172), (by first | omega | (simp only [List.length_set, List.length_replicate, List.length_append, List.length_cons, List.length_nil, List.length_take, List.length_drop, marks_length]; done) | (simp only [List.length_set, List.length_replicate, List.length_append, List.length_cons, List.length_nil, List.length_take, List.length_drop, marks_length]; omega)), fun a_185 n_186 e_187 H_13 g_189 r_188 => ?_⟩
                        have l_190 := g_189.1
                        have g_191 := g_172.trans g_189
                        have l_192 := g_191.1
                        have r_193 := r_174.grow g_189
                        have r_194 := r_175.grow g_189
                        have r_195 := r_176.grow g_189
                        have r_196 := r_177.grow g_189
                        have r_197 := r_178.grow g_189
                        have r_198 := r_179.grow g_189
                        have r_199 := r_180.grow g_189
                        have r_200 := r_181.grow g_189
                        have r_201 := r_169.grow g_189
                        obtain rfl := r_188.isL.eqn
                        have u_202 := r_188.up
                        have u_203 := r_188.lo
                        refine T_impl_SegmentMeans_i ⟨_, _, r_201.isL, r_188.isL, (by first | omega | (simp only [List.length_set, List.length_replicate, List.length_append, List.length_cons, List.length_nil, List.length_take, List.length_drop, marks_length]; done) | (simp only [List.length_set, List.length_replicate, List.length_append, List.length_cons, List.length_nil, List.length_take, List.length_drop, marks_length]; omega)), (by first | omega | (simp only [List.length_set, List.length_replicate, List.length_append, List.length_cons, List.length_nil, List.length_take, List.length_drop, marks_length]; done) | (simp only [List.length_set, List.length_replicate, List.length_append, List.length_cons, List.length_nil, List.length_take, List.length_drop, marks_length]; omega)), fun a_205 n_206 e_207 H_14 g_210 r_208 => ?_⟩
                        have z_209 := impl_SegmentMeans_len l_aList l_aBreaks
                        have l_211 := g_210.1
                        have g_212 := g_191.trans g_210
                        have l_213 := g_212.1
                        have r_214 := r_193.grow g_210
                        have r_215 := r_194.grow g_210
                        have r_216 := r_195.grow g_210
                        have r_217 := r_196.grow g_210
                        have r_218 := r_197.grow g_210
                        have r_219 := r_198.grow g_210
                        have r_220 := r_199.grow g_210
                        have r_221 := r_200.grow g_210
                        have r_222 := r_201.grow g_210
                        have r_223 := r_188.grow g_210
                        obtain rfl := r_208.isL.eqn
                        have u_224 := r_208.up
                        have u_225 := r_208.lo
                        refine T_laws_eqFloat32S_i ⟨_, _, r_208.isL, r_216.isL, (by first | omega | (simp only [List.length_set, List.length_replicate, List.length_append, List.length_cons, List.length_nil, List.length_take, List.length_drop, marks_length]; done) | (simp only [List.length_set, List.length_replicate, List.length_append, List.length_cons, List.length_nil, List.length_take, List.length_drop, marks_length]; omega)), (by first | omega | (simp only [List.length_set, List.length_replicate, List.length_append, List.length_cons, List.length_nil, List.length_take, List.length_drop, marks_length]; done) | (simp only [List.length_set, List.length_replicate, List.length_append, List.length_cons, List.length_nil, List.length_take, List.length_drop, marks_length]; omega)), ?_⟩
                        refine Br.intro (fun c_227 => ?_) (fun c_227 => ?_)
                        · have e := e.trans (cond_t c_227)
                          have c_227n := nf_of_t c_227
                          first | exact hk _ | (exfalso; cases e; done) | (rw [← e]; exact hk _)
                        · have e := e.trans (cond_f c_227)
                          have c_227n := nt_of_f c_227
                          refine Br.intro (fun c_228 => ?_) (fun c_228 => ?_)
                          · have e := e.trans (cond_t c_228)
                            have c_228n := nf_of_t c_228
                            first | exact hk _ | (exfalso; cases e; done) | (rw [← e]; exact hk _)
                          · have e := e.trans (cond_f c_228)
                            have c_228n := nt_of_f c_228
                            refine T_laws_heldFloat32S_i ⟨_, r_219.isL, (by first | omega | (simp only [List.length_set, List.length_replicate, List.length_append, List.length_cons, List.length_nil, List.length_take, List.length_drop, marks_length]; done) | (simp only [List.length_set, List.length_replicate, List.length_append, List.length_cons, List.length_nil, List.length_take, List.length_drop, marks_length]; omega)), ?_⟩
                            refine Br.intro (fun c_229 => ?_) (fun c_229 => ?_)
                            · have e := e.trans (cond_t c_229)
                              have c_229' := of_decide_eq_true c_229
                              first | exact hk _ | (exfalso; cases e; done) | (rw [← e]; exact hk _)
                            · have e := e.trans (cond_f c_229)
                              have c_229' := of_decide_eq_false c_229
                              refine Br.intro (fun c_230 => ?_) (fun c_230 => ?_)
                              · have e := e.trans (cond_t c_230)
                                have c_230' := ine_t c_230
                                first | exact hk _ | (exfalso; cases e; done) | (rw [← e]; exact hk _)
                              · have e := e.trans (cond_f c_230)
                                have c_230' := ine_f c_230
                                first | exact hk _ | (exfalso; cases e; done) | (rw [← e]; exact hk _)
theorem laws_FnExactSegmentMeans_ok : FnOk Try.prog 5 S_laws_FnExactSegmentMeans := by
  refine FnOk.body mix_ok E_laws_FnExactSegmentMeans_ok Try.func5 rfl (by kernel_rfl) (by kernel_rfl) ?_ ?_ ?_ ?_ ?_
  · intro args H K K' h hk
    simp only [S_laws_FnExactSegmentMeans] at *
    unfold F_laws_FnExactSegmentMeans at *
    split at hk
    · obtain ⟨l_aList, l_aBreaks, h_0, h_1, h_2, h_3, h_4, h_5, k⟩ := hk
      exact ⟨l_aList, l_aBreaks, h_0, h_1, h_2, h_3, h_4, h_5, (fun H' => h _ _ (k H'))⟩
    · exact hk.elim
  · intro hq; cases hq
  · intro args H K hk
    simp only [S_laws_FnExactSegmentMeans] at *
    unfold F_laws_FnExactSegmentMeans at *
    split at hk
    · obtain ⟨l_aList, l_aBreaks, h_0, h_1, h_2, h_3, h_4, h_5, k⟩ := hk
      exact ⟨_, _, k []⟩
    · exact hk.elim
  · intro hq; cases hq
  · have mm := @laws_FnExactSegmentMeans_main
    revert mm
    generalize bodyK Try.prog E_laws_FnExactSegmentMeans Try.f5 = Q
    intro mm args H K hk
    simp only [S_laws_FnExactSegmentMeans] at *
    unfold F_laws_FnExactSegmentMeans at *
    split at hk
    · exact mm _ _ _ _ _ _ H K hk
    · exact hk.elim
end Go.Proofs.Ytghkkclonabpkaa.Ai
