/- What functions of the program come to on the abstract machine, and that they do so; printed by a program of mine around proofs of mine. -/
import Derived.Test.YtbnplefohfamnaaFFnExactNoiseOf2
set_option linter.unusedVariables false
set_option linter.unusedSimpArgs false
set_option linter.defProp false
set_option maxRecDepth 100000
namespace Go.Proofs.Ytbnplefohfamnaa.Ai
open Go
attribute [local irreducible] bodyK bodyL

def p_laws_eqBands (l_a_Coarse : List Nat) (l_a_Details : List (List Nat)) (l_b_Coarse : List Nat) (l_b_Details : List (List Nat)) : Bool := (bif !(p_laws_eqFloat32S l_a_Coarse l_b_Coarse) then false else (bif !(p_laws_eqFloat32SS l_a_Details l_b_Details) then false else true))
def p_laws_eqBands_eq := @p_laws_eqBands.eq_1
def T_laws_eqBands (a_Coarse_a : Option Addr) (a_Coarse_n : Nat) (a_Coarse_e : Nat) (a_Details_a : Option Addr) (a_Details_n : Nat) (a_Details_e : Nat) (b_Coarse_a : Option Addr) (b_Coarse_n : Nat) (b_Coarse_e : Nat) (b_Details_a : Option Addr) (b_Details_n : Nat) (b_Details_e : Nat) (H : AHeap) (K : Bool → AHeap → Prop) : Prop := ∃ (l_a_Coarse : List Nat), ∃ (l_a_Details : List (List Nat)), ∃ (l_b_Coarse : List Nat), ∃ (l_b_Details : List (List Nat)), IsL fF H a_Coarse_a a_Coarse_n l_a_Coarse ∧ IsLL fF H a_Details_a a_Details_n l_a_Details ∧ IsL fF H b_Coarse_a b_Coarse_n l_b_Coarse ∧ IsLL fF H b_Details_a b_Details_n l_b_Details ∧ l_a_Coarse.length < 1073741824 ∧ l_a_Details.length < 1073741824 ∧ l_b_Coarse.length < 1073741824 ∧ l_b_Details.length < 1073741824 ∧ (∀ y ∈ l_a_Details, y.length < 1073741824) ∧ (∀ y ∈ l_b_Details, y.length < 1073741824) ∧ ((∀ H' : AHeap, Grow H H' → K (p_laws_eqBands l_a_Coarse l_a_Details l_b_Coarse l_b_Details) H'))
theorem T_laws_eqBands_i {a_Coarse_a : Option Addr} {a_Coarse_n : Nat} {a_Coarse_e : Nat} {a_Details_a : Option Addr} {a_Details_n : Nat} {a_Details_e : Nat} {b_Coarse_a : Option Addr} {b_Coarse_n : Nat} {b_Coarse_e : Nat} {b_Details_a : Option Addr} {b_Details_n : Nat} {b_Details_e : Nat} {H : AHeap} {K : Bool → AHeap → Prop} (h : ∃ (l_a_Coarse : List Nat), ∃ (l_a_Details : List (List Nat)), ∃ (l_b_Coarse : List Nat), ∃ (l_b_Details : List (List Nat)), IsL fF H a_Coarse_a a_Coarse_n l_a_Coarse ∧ IsLL fF H a_Details_a a_Details_n l_a_Details ∧ IsL fF H b_Coarse_a b_Coarse_n l_b_Coarse ∧ IsLL fF H b_Details_a b_Details_n l_b_Details ∧ l_a_Coarse.length < 1073741824 ∧ l_a_Details.length < 1073741824 ∧ l_b_Coarse.length < 1073741824 ∧ l_b_Details.length < 1073741824 ∧ (∀ y ∈ l_a_Details, y.length < 1073741824) ∧ (∀ y ∈ l_b_Details, y.length < 1073741824) ∧ ((∀ H' : AHeap, Grow H H' → K (p_laws_eqBands l_a_Coarse l_a_Details l_b_Coarse l_b_Details) H'))) : T_laws_eqBands a_Coarse_a a_Coarse_n a_Coarse_e a_Details_a a_Details_n a_Details_e b_Coarse_a b_Coarse_n b_Coarse_e b_Details_a b_Details_n b_Details_e H K := h
theorem laws_eqBands_self (a : List Nat) (l : List (List Nat)) : p_laws_eqBands a l a l = true := by
  rw [p_laws_eqBands_eq, laws_eqFloat32S_self, laws_eqFloat32SS_self]; rfl
/-! laws_eqBands: function 32 -/
def E_laws_eqBands : Env := envOf [(24, S_laws_eqFloat32S), (120, S_laws_eqFloat32SS)]
def F_laws_eqBands : List Value → AHeap → (Value → AHeap → Prop) → Prop
  | [.agg ⟨[.slice a_Coarse_a a_Coarse_n a_Coarse_e, .slice a_Details_a a_Details_n a_Details_e]⟩, .agg ⟨[.slice b_Coarse_a b_Coarse_n b_Coarse_e, .slice b_Details_a b_Details_n b_Details_e]⟩], H, K => T_laws_eqBands a_Coarse_a a_Coarse_n a_Coarse_e a_Details_a a_Details_n a_Details_e b_Coarse_a b_Coarse_n b_Coarse_e b_Details_a b_Details_n b_Details_e H fun (r1 : Bool) (H' : AHeap) => K (.bool r1) H'
  | _, _, _ => False
def S_laws_eqBands : FSpec := { F := F_laws_eqBands, quiet := false, tame := true }
theorem laws_eqBands_vc (a_Coarse_a : Option Addr) (a_Coarse_n : Nat) (a_Coarse_e : Nat) (a_Details_a : Option Addr) (a_Details_n : Nat) (a_Details_e : Nat) (b_Coarse_a : Option Addr) (b_Coarse_n : Nat) (b_Coarse_e : Nat) (b_Details_a : Option Addr) (b_Details_n : Nat) (b_Details_e : Nat) (H : AHeap) (K : Value → AHeap → Prop) : bodyL Try.prog E_laws_eqBands Try.f32 [.agg #[.slice a_Coarse_a a_Coarse_n a_Coarse_e, .slice a_Details_a a_Details_n a_Details_e], .agg #[.slice b_Coarse_a b_Coarse_n b_Coarse_e, .slice b_Details_a b_Details_n b_Details_e]] H K =
  (Al [.slice a_Coarse_a a_Coarse_n a_Coarse_e, .slice a_Details_a a_Details_n a_Details_e] H fun b1 H1 => Al [.slice b_Coarse_a b_Coarse_n b_Coarse_e, .slice b_Details_a b_Details_n b_Details_e] H1 fun b2 H2 => ∃ x1_a : Option Addr, ∃ x1_n : Nat, ∃ x1_e : Nat,  rdC H2 b1 0 = some (.slice x1_a x1_n x1_e) ∧ ∃ x2_a : Option Addr, ∃ x2_n : Nat, ∃ x2_e : Nat,  rdC H2 b2 0 = some (.slice x2_a x2_n x2_e) ∧ T_laws_eqFloat32S x1_a x1_n x1_e x2_a x2_n x2_e H2 fun (r1 : Bool) (H3 : AHeap) => Br (!r1) (K (.bool false) H3) (∃ x3_a : Option Addr, ∃ x3_n : Nat, ∃ x3_e : Nat,  rdC H3 b1 1 = some (.slice x3_a x3_n x3_e) ∧ ∃ x4_a : Option Addr, ∃ x4_n : Nat, ∃ x4_e : Nat,  rdC H3 b2 1 = some (.slice x4_a x4_n x4_e) ∧ T_laws_eqFloat32SS x3_a x3_n x3_e x4_a x4_n x4_e H3 fun (r2 : Bool) (H4 : AHeap) => Br (!r2) (K (.bool false) H4) (K (.bool true) H4))) := by kernel_rfl
theorem E_laws_eqBands_ok : ∀ g, FnOk Try.prog g (E_laws_eqBands g) := FnOk.envOf (by
  intro x hx
  simp only [List.mem_cons, List.not_mem_nil, or_false] at hx
  rcases hx with rfl | rfl
  · exact laws_eqFloat32S_ok
  · exact laws_eqFloat32SS_ok)
set_option maxHeartbeats 1000000 in
theorem laws_eqBands_main (a_Coarse_a : Option Addr) (a_Coarse_n : Nat) (a_Coarse_e : Nat) (a_Details_a : Option Addr) (a_Details_n : Nat) (a_Details_e : Nat) (b_Coarse_a : Option Addr) (b_Coarse_n : Nat) (b_Coarse_e : Nat) (b_Details_a : Option Addr) (b_Details_n : Nat) (b_Details_e : Nat) (H : AHeap) (K : Value → AHeap → Prop) (h : T_laws_eqBands a_Coarse_a a_Coarse_n a_Coarse_e a_Details_a a_Details_n a_Details_e b_Coarse_a b_Coarse_n b_Coarse_e b_Details_a b_Details_n b_Details_e H fun (r1 : Bool) (H' : AHeap) => K (.bool r1) H') : bodyL Try.prog E_laws_eqBands Try.f32 [.agg #[.slice a_Coarse_a a_Coarse_n a_Coarse_e, .slice a_Details_a a_Details_n a_Details_e], .agg #[.slice b_Coarse_a b_Coarse_n b_Coarse_e, .slice b_Details_a b_Details_n b_Details_e]] H K := by
  rw [laws_eqBands_vc]
  obtain ⟨l_a_Coarse, l_a_Details, l_b_Coarse, l_b_Details, i_a_Coarse, i_a_Details, i_b_Coarse, i_b_Details, bd_25, bd_26, bd_27, bd_28, bb_l_a_Details, bb_l_b_Details, hk⟩ := h
  obtain rfl := i_a_Coarse.eqn
  obtain rfl := i_a_Details.eqn
  obtain rfl := i_b_Coarse.eqn
  obtain rfl := i_b_Details.eqn
  have e : (p_laws_eqBands l_a_Coarse l_a_Details l_b_Coarse l_b_Details) = _ := rfl
  have e := e.trans (p_laws_eqBands_eq l_a_Coarse l_a_Details l_b_Coarse l_b_Details)
  have g0 := Grow.refl H
  refine Al.intro (fun b_1 H_1 hb_2 hl_3 g_4 o_5 => ?_)
  have l_7 := g_4.1
  have g_8 := g0.trans g_4
  have l_9 := g_8.1
  have w_24 := o_5.lt
  refine Al.intro (fun b_10 H_2 hb_11 hl_12 g_13 o_14 => ?_)
  have l_16 := g_13.1
  have g_17 := g_8.trans g_13
  have l_18 := g_17.1
  have o_19 := o_5.grow g_13
  have w_20 := o_19.lt
  have w_23 := o_14.lt
  refine ⟨a_Coarse_a, l_a_Coarse.length, a_Coarse_e, (o_19.rdC _).trans rfl, ?_⟩
  refine ⟨b_Coarse_a, l_b_Coarse.length, b_Coarse_e, (o_14.rdC _).trans rfl, ?_⟩
  refine T_laws_eqFloat32S_i ⟨_, _, (i_a_Coarse.grow g_17), (i_b_Coarse.grow g_17), o0, o0, ?_⟩
  refine Br.intro (fun c_21 => ?_) (fun c_21 => ?_)
  · have e := e.trans (cond_t c_21)
    have c_21n := nf_of_t c_21
    rw [e] at hk
    exact hk  H_2 g_17 
  · have e := e.trans (cond_f c_21)
    have c_21n := nt_of_f c_21
    refine ⟨a_Details_a, l_a_Details.length, a_Details_e, (o_19.rdC _).trans rfl, ?_⟩
    refine ⟨b_Details_a, l_b_Details.length, b_Details_e, (o_14.rdC _).trans rfl, ?_⟩
    refine T_laws_eqFloat32SS_i ⟨l_a_Details, l_b_Details, (i_a_Details.grow g_17), (i_b_Details.grow g_17), o0, o0, (by first | assumption | exact or_right (by assumption) (by omega) | exact or_right (by assumption : _ ∧ (_ ∨ _)).2 (by omega) | (intro y hy; simp only [List.mem_cons, List.not_mem_nil, or_false] at hy; first | omega | (subst hy; omega) | (rcases hy with rfl | rfl <;> omega) | (rcases hy with rfl | rfl | rfl <;> omega))), (by first | assumption | exact or_right (by assumption) (by omega) | exact or_right (by assumption : _ ∧ (_ ∨ _)).2 (by omega) | (intro y hy; simp only [List.mem_cons, List.not_mem_nil, or_false] at hy; first | omega | (subst hy; omega) | (rcases hy with rfl | rfl <;> omega) | (rcases hy with rfl | rfl | rfl <;> omega))), ?_⟩
    refine Br.intro (fun c_22 => ?_) (fun c_22 => ?_)
    · have e := e.trans (cond_t c_22)
      have c_22n := nf_of_t c_22
      rw [e] at hk
      exact hk  H_2 g_17 
    · have e := e.trans (cond_f c_22)
      have c_22n := nt_of_f c_22
      rw [e] at hk
      exact hk  H_2 g_17 
theorem laws_eqBands_ok : FnOk Try.prog 32 S_laws_eqBands := by
  refine FnOk.body mix_ok E_laws_eqBands_ok Try.func32 rfl (by kernel_rfl) (by kernel_rfl) ?_ ?_ ?_ ?_ ?_
  · intro args H K K' h hk
    simp only [S_laws_eqBands] at *
    unfold F_laws_eqBands at *
    split at hk
    · obtain ⟨l_a_Coarse, l_a_Details, l_b_Coarse, l_b_Details, i_a_Coarse, i_a_Details, i_b_Coarse, i_b_Details, bd_25, bd_26, bd_27, bd_28, bb_l_a_Details, bb_l_b_Details, k⟩ := hk
      exact ⟨l_a_Coarse, l_a_Details, l_b_Coarse, l_b_Details, i_a_Coarse, i_a_Details, i_b_Coarse, i_b_Details, bd_25, bd_26, bd_27, bd_28, bb_l_a_Details, bb_l_b_Details, (fun  H' gg  => h _ _ (k  H' gg ))⟩
    · exact hk.elim
  · intro hq; cases hq
  · intro args H K hk
    simp only [S_laws_eqBands] at *
    unfold F_laws_eqBands at *
    split at hk
    · obtain ⟨l_a_Coarse, l_a_Details, l_b_Coarse, l_b_Details, i_a_Coarse, i_a_Details, i_b_Coarse, i_b_Details, bd_25, bd_26, bd_27, bd_28, bb_l_a_Details, bb_l_b_Details, k⟩ := hk
      exact ⟨_, _, k H (Grow.refl H)⟩
    · exact hk.elim
  · intro _ args H K hk
    simp only [S_laws_eqBands] at *
    unfold F_laws_eqBands at *
    split at hk
    · obtain ⟨l_a_Coarse, l_a_Details, l_b_Coarse, l_b_Details, i_a_Coarse, i_a_Details, i_b_Coarse, i_b_Details, bd_25, bd_26, bd_27, bd_28, bb_l_a_Details, bb_l_b_Details, k⟩ := hk
      exact ⟨l_a_Coarse, l_a_Details, l_b_Coarse, l_b_Details, i_a_Coarse, i_a_Details, i_b_Coarse, i_b_Details, bd_25, bd_26, bd_27, bd_28, bb_l_a_Details, bb_l_b_Details, (fun  H' gg  => ⟨gg, k  H' gg ⟩)⟩
    · exact hk.elim
  · have mm := @laws_eqBands_main
    have ml := fun (args : List Value) (H : AHeap) (K : Value → AHeap → Prop) => bodyL_body (P := Try.prog) (env := E_laws_eqBands ) (fn := Try.f32) (args := args) (H := H) (K := K) E_laws_eqBands_ok 
    revert mm ml
    generalize bodyK Try.prog E_laws_eqBands Try.f32 = Q
    generalize bodyL Try.prog E_laws_eqBands Try.f32 = QL
    intro mm ml args H K hk
    simp only [S_laws_eqBands] at *
    unfold F_laws_eqBands at *
    split at hk
    · exact ml _ H K (mm _ _ _ _ _ _ _ _ _ _ _ _ H K hk)
    · exact hk.elim

def p_laws_FnExactNoiseOf (l_aB_Coarse : List Nat) (l_aB_Details : List (List Nat)) : Bool := ((bif decide (((p_laws_szBands l_aB_Coarse l_aB_Details (1048576 : Int)) : Int) < 0) then true else (bif !((p_laws_sameFloat (fwide ((p_impl_NoiseOf l_aB_Coarse l_aB_Details).1)) (fwide ((p_spec_NoiseOf l_aB_Coarse l_aB_Details).1)))) then false else (bif !(((p_impl_NoiseOf l_aB_Coarse l_aB_Details).2) == ((p_spec_NoiseOf l_aB_Coarse l_aB_Details).2)) then false else (bif !(p_laws_eqBands l_aB_Coarse l_aB_Details l_aB_Coarse l_aB_Details) then false else true)))))
def p_laws_FnExactNoiseOf_eq := @p_laws_FnExactNoiseOf.eq_1
def T_laws_FnExactNoiseOf (aB_Coarse_a : Option Addr) (aB_Coarse_n : Nat) (aB_Coarse_e : Nat) (aB_Details_a : Option Addr) (aB_Details_n : Nat) (aB_Details_e : Nat) (H : AHeap) (K : Bool → AHeap → Prop) : Prop := ∃ l_aB_Coarse : List Nat, ∃ l_aB_Details : List (List Nat), IsL fF H aB_Coarse_a aB_Coarse_n l_aB_Coarse ∧ (∀ y ∈ l_aB_Coarse, W32 y) ∧ l_aB_Coarse.length ≤ 9223372036854775807 ∧ IsLL fF H aB_Details_a aB_Details_n l_aB_Details ∧ (∀ y ∈ l_aB_Details, (∀ z ∈ y, W32 z) ∧ y.length ≤ 9223372036854775807) ∧ l_aB_Details.length ≤ 9223372036854775807 ∧ ∀ H' : AHeap, K true H'
theorem spec_fin (x : Nat) : p_spec_l01Finite x = fin .f32 x := fin_asked x
theorem impl_fin (x : Nat) : p_impl_IsFinite x = fin .f32 x := fin_asked x
theorem w32_wd {x : Nat} (h : W32 x) : Wd .f32 x := ⟨h.1, h.2⟩
theorem l02Finite_go (l : List Nat) : ∀ (μ : Nat) (t : Bool) (i : Nat), l.length - i < μ → p_spec_l02Finite_l1 l μ t (i : Int) = (l.drop i).all (fin .f32) := by
  intro μ
  induction μ with
  | zero => intro t i h; omega
  | succ μ ih =>
    intro t i hm
    rw [p_spec_l02Finite_l1_s]
    by_cases h : i < l.length
    · rw [decide_eq_true (show (i : Int) < (l.length : Int) by omega), cond_true, Int.toNat_natCast, spec_fin]
      rw [List.drop_eq_getElem_cons h, List.all_cons, List.getD_eq_getElem?_getD, List.getElem?_eq_getElem h, Option.getD_some]
      have := ih t (i + 1) o3
      cases fin .f32 l[i]
      · rfl
      · simp only [Bool.not_true, cond_false, Bool.true_and]; exact this
    · rw [decide_eq_false (show ¬ (i : Int) < (l.length : Int) by omega), cond_false, List.drop_eq_nil_of_le o3]; rfl
theorem l02Finite_all (l : List Nat) : p_spec_l02Finite l = l.all (fin .f32) := by
  rw [p_spec_l02Finite_eq]
  have := l02Finite_go l (Int.toNat ((l.length : Int) - (0 : Int)) + 1) false 0 o3
  simpa using this
theorem areFinite_in (ls : List (List Nat)) (t2 : Bool) (t9 : Int) (k : Bool → Int → Bool) : ∀ (μ : Nat) (t : Bool) (i : Nat), i ≤ (ls.getD t9.toNat []).length → (ls.getD t9.toNat []).length - i < μ →
    p_impl_areFinite_l2 ls t2 t9 k μ t (i : Int) = bif ((ls.getD t9.toNat []).drop i).all (fin .f32) then k t ((ls.getD t9.toNat []).length : Int) else false := by
  intro μ
  generalize hl : ls.getD t9.toNat [] = l
  induction μ with
  | zero => intro t i _ h; omega
  | succ μ ih =>
    intro t i hi hm
    rw [p_impl_areFinite_l2_s, hl]
    by_cases h : i < l.length
    · rw [decide_eq_true (show (i : Int) < (l.length : Int) by omega), cond_true, Int.toNat_natCast, impl_fin]
      rw [List.drop_eq_getElem_cons h, List.all_cons, List.getD_eq_getElem?_getD, List.getElem?_eq_getElem h, Option.getD_some]
      have := ih t (i + 1) o3 o3
      cases fin .f32 l[i]
      · rfl
      · simp only [Bool.not_true, cond_false, Bool.true_and]; exact this
    · rw [decide_eq_false (show ¬ (i : Int) < (l.length : Int) by omega), cond_false, List.drop_eq_nil_of_le o3, show i = l.length by omega]; rfl
theorem areFinite_go (ls : List (List Nat)) : ∀ (μ : Nat) (t : Bool) (i : Nat), ls.length - i < μ → p_impl_areFinite_l1 ls μ t (i : Int) = (ls.drop i).all (fun l => l.all (fin .f32)) := by
  intro μ
  induction μ with
  | zero => intro t i h; omega
  | succ μ ih =>
    intro t i hm
    rw [p_impl_areFinite_l1_s]
    by_cases h : i < ls.length
    · rw [decide_eq_true (show (i : Int) < (ls.length : Int) by omega), cond_true]
      have := areFinite_in ls t (i : Int) (fun t2 t15 => p_impl_areFinite_l1 ls μ t2 ((i : Int) + 1)) (Int.toNat ((((ls).getD ((i : Int) : Int).toNat []).length : Int) - (0 : Int)) + 1) t 0 (Nat.zero_le _) o3
      refine Eq.trans this ?_
      rw [Int.toNat_natCast, List.drop_zero, List.drop_eq_getElem_cons h, List.all_cons, List.getD_eq_getElem?_getD, List.getElem?_eq_getElem h, Option.getD_some]
      have := ih t (i + 1) o3
      cases ls[i].all (fin .f32)
      · rfl
      · simp only [cond_true, Bool.true_and]; exact this
    · rw [decide_eq_false (show ¬ (i : Int) < (ls.length : Int) by omega), cond_false, List.drop_eq_nil_of_le o3]; rfl
theorem areFinite_all (ls : List (List Nat)) : p_impl_areFinite ls = ls.all (fun l => l.all (fin .f32)) := by
  rw [p_impl_areFinite_eq]
  have := areFinite_go ls (Int.toNat ((ls.length : Int) - (0 : Int)) + 1) false 0 o3
  simpa using this
theorem bands_go (a : List Nat) (ds : List (List Nat)) : ∀ (μ : Nat) (t t' : Bool) (i : Nat), ds.length - i < μ → p_spec_l03Bands_l1 a ds μ t (i : Int) = ((ds.drop i).all (fun l => l.all (fin .f32)) && p_impl_ValidBands_l1 a ds μ t' (i : Int)) := by
  intro μ
  induction μ with
  | zero => intro t t' i h; omega
  | succ μ ih =>
    intro t t' i hm
    rw [p_spec_l03Bands_l1_s, p_impl_ValidBands_l1_s]
    by_cases h : i < ds.length
    · rw [decide_eq_true (show (i : Int) < (ds.length : Int) by omega), cond_true, cond_true, Int.toNat_natCast, l02Finite_all]
      have hx : ds.getD i [] = ds[i] := by rw [List.getD_eq_getElem?_getD, List.getElem?_eq_getElem h]; rfl
      have e1 := ih t t' (i + 1) o3
      rw [show ((i + 1 : Nat) : Int) = (i : Int) + 1 by omega] at e1
      rw [hx, e1, List.drop_eq_getElem_cons h, List.all_cons]
      generalize p_impl_ValidBands_l1 a ds μ t' ((i : Int) + 1) = R
      generalize (ds.drop (i + 1)).all (fun l => l.all (fin .f32)) = S
      generalize ds.getD ((i : Int) - 1).toNat [] = prev
      generalize hd : ds[i] = d
      by_cases h0 : d.length = 0
      · rw [decide_eq_true (show ((d.length : Int)) < 1 by omega), show ((d.length : Int) == 0) = true by rw [h0]; rfl]
        cases d.all (fin .f32) <;> cases S <;> rfl
      · rw [decide_eq_false (show ¬ ((d.length : Int)) < 1 by omega), show ((d.length : Int) == 0) = false by simpa using h0]
        rw [show ((prev.length : Int) != IntKind.wrap .i64 (2 * (d.length : Int))) = (IntKind.wrap .i64 (2 * (d.length : Int)) != (prev.length : Int)) by unfold bne; rw [Bool.beq_comm]]
        cases d.all (fin .f32) <;> cases S <;> cases decide ((0 : Int) < (i : Int)) <;> cases (IntKind.wrap .i64 (2 * (d.length : Int)) != (prev.length : Int)) <;> cases R <;> rfl
    · rw [decide_eq_false (show ¬ (i : Int) < (ds.length : Int) by omega), cond_false, cond_false, List.drop_eq_nil_of_le o3]; rfl
theorem bands_same (a : List Nat) (ds : List (List Nat)) : p_impl_ValidBands a ds = p_spec_l03Bands a ds := by
  rw [p_impl_ValidBands_eq, p_spec_l03Bands_eq, areFinite_all, areFinite_all, l02Finite_all]
  have e := bands_go a ds (Int.toNat ((ds.length : Int) - (0 : Int)) + 1) false false 0 o3
  rw [show ((0 : Nat) : Int) = 0 from rfl] at e
  rw [e, List.drop_zero]
  have hs : ([a].all fun l => l.all (fin .f32)) = a.all (fin .f32) := by simp
  rw [hs]
  unfold p_impl_within
  by_cases h1 : (ds.length : Int) < 1
  · rw [decide_eq_true h1, decide_eq_false (show ¬ (1 : Int) ≤ (ds.length : Int) by omega)]; rfl
  · rw [decide_eq_false h1, decide_eq_true (show (1 : Int) ≤ (ds.length : Int) by omega), cond_true]
    by_cases h2 : (6 : Int) < (ds.length : Int)
    · rw [decide_eq_true h2, decide_eq_false (show ¬ (ds.length : Int) ≤ 6 by omega)]; rfl
    · rw [decide_eq_false h2, decide_eq_true (show (ds.length : Int) ≤ 6 by omega)]
      generalize p_impl_ValidBands_l1 a ds _ false 0 = R
      cases decide ((64 : Int) < ((ds.getD (0 : Int).toNat []).length : Int)) <;> cases ds.all (fun l => l.all (fin .f32)) <;> cases a.all (fin .f32) <;> cases R <;> rfl
theorem bands_t {a : List Nat} {ds : List (List Nat)} (h : p_impl_ValidBands a ds = true) : 1 ≤ ds.length ∧ ds.length ≤ 6 ∧ ds.all (fun l => l.all (fin .f32)) = true ∧ a.all (fin .f32) = true ∧ (ds.getD 0 []).length ≤ 64 := by
  rw [p_impl_ValidBands_eq, areFinite_all, areFinite_all] at h
  have hs : ([a].all fun l => l.all (fin .f32)) = a.all (fin .f32) := by simp
  rw [hs] at h
  unfold p_impl_within at h
  by_cases h1 : (1 : Int) ≤ (ds.length : Int)
  · by_cases h2 : (ds.length : Int) ≤ 6
    · rw [decide_eq_true h1, decide_eq_true h2] at h
      by_cases h3 : (64 : Int) < ((ds.getD (0 : Int).toNat []).length : Int)
      · rw [decide_eq_true h3] at h; cases h
      · rw [decide_eq_false h3] at h
        have h3 : ¬ (64 : Int) < ((ds.getD 0 []).length : Int) := h3
        cases hd : ds.all (fun l => l.all (fin .f32))
        · rw [hd] at h; cases h
        · cases ha : a.all (fin .f32)
          · rw [hd, ha] at h; cases h
          · exact ⟨by omega, by omega, rfl, rfl, by omega⟩
    · rw [decide_eq_true h1, decide_eq_false h2] at h; cases h
  · rw [decide_eq_false h1] at h; cases h
theorem sorted_same (l : List Nat) (h : ∀ y ∈ l, (FloatKind.f32.format.read y).isNaN = false) : p_slices_SortStableFunc_float32_float32 l = p_spec_l05Sorted l :=
  So.SS.unique (slices_SortStable_ss l) (l05Sorted_ss l h)
theorem median_same (l : List Nat) (h : ∀ y ∈ l, (FloatKind.f32.format.read y).isNaN = false) : p_impl_median l = p_spec_l05Median l := by
  rw [p_impl_median_eq, p_spec_l05Median_eq, impl_copyOf_is, sorted_same l h]
theorem number_same (x : Nat) : p_impl_finite x = p_spec_l02Number x := by
  unfold p_impl_finite p_spec_l02Number
  rw [impl_fin, spec_fin]
theorem size_nn {x : Nat} (h : (FloatKind.f32.format.read x).isNaN = false) : (FloatKind.f32.format.read (p_impl_size x)).isNaN = false := by
  unfold p_impl_size
  cases flt .f32 x 0
  · rw [cond_false]
    cases feq .f32 x 0
    · exact h
    · exact fin_nn (fin_zero .f32)
  · rw [cond_true, read_fneg h]
    cases hr : FloatKind.f32.format.read x <;> first | rfl | (rw [hr] at h; exact h)
theorem rnd_self {x : Nat} (hw : Wd .f32 x) (hf : fin .f32 x = true) (h0 : sv .f32 x ≠ 0) : rnd .f32 (sv .f32 x) = x := by
  obtain ⟨s, m, e, hr⟩ := fin_num hf
  have hp := read_place hr
  have hx := write_read .f32 hw.1 (fin_nn hf)
  rw [hr] at hx
  have hx : FloatKind.f32.format.nearest s m e = x := hx
  have hm : m ≠ 0 := fun h => h0 ((sv_mag hr).2 h)
  have hs : sv .f32 x = Ieee.signed s m (e - FloatKind.f32.format.leastPlace).toNat := by unfold sv; rw [hr]
  have h1 : rnd .f32 (sv .f32 x) = FloatKind.f32.format.nearest (decide (sv .f32 x < 0)) (sv .f32 x).natAbs FloatKind.f32.format.leastPlace := rfl
  rw [h1, hs, signed_neg hm, signed_natAbs, ← nearest_up .f32 s m hp, hx]
theorem sub_zero {x : Nat} (hw : Wd .f32 x) (hf : fin .f32 x = true) (h0 : sv .f32 x ≠ 0) : fsub .f32 x 0 = x := by
  have hz := sv_zero .f32
  rw [fsub_val hf (fin_zero .f32) (by rw [hz]; omega), hz, Int.sub_zero, rnd_self hw hf h0]
theorem size_sub {x : Nat} (hw : Wd .f32 x) (hf : fin .f32 x = true) : p_spec_l03Size (fsub .f32 x 0) = p_impl_size x := by
  by_cases h0 : sv .f32 x = 0
  · rcases zero_of_sv hw.1 hf h0 with rfl | rfl
    · decide +kernel
    · decide +kernel
  · rw [sub_zero hw hf h0]; exact (size_two hw).symm
theorem noise_same (a : List Nat) (ds : List (List Nat)) (hw : ∀ y ∈ ds, ∀ z ∈ y, W32 z) : p_impl_NoiseOf a ds = p_spec_NoiseOf a ds := by
  rw [p_impl_NoiseOf_eq, p_spec_NoiseOf_eq, ← bands_same]
  cases hb : p_impl_ValidBands a ds
  · rfl
  · obtain ⟨b1, b2, b3, b4, b5⟩ := bands_t hb
    rw [Bool.not_true, cond_false, cond_false, p_spec_l05Noise_eq]
    have hmem : ds.getD 0 [] ∈ ds := by
      rw [List.getD_eq_getElem?_getD, List.getElem?_eq_getElem (by omega : 0 < ds.length)]; exact List.getElem_mem _
    have hd := List.all_eq_true.1 b3 _ hmem
    have hz : ds.getD (0 : Int).toNat [] = ds.getD 0 [] := rfl
    rw [hz]
    have hs : p_impl_sizes (ds.getD 0 []) = p_spec_l05Sizes (ds.getD 0 []) 0 := by
      rw [impl_sizes_map, l05Sizes_map]
      exact List.map_congr_left fun x hx => (size_sub (w32_wd (hw _ hmem x hx)) (List.all_eq_true.1 hd x hx)).symm
    rw [median_same _ ?_, hs, number_same]
    intro y hy
    rw [impl_sizes_map] at hy
    obtain ⟨x, hx, rfl⟩ := List.mem_map.1 hy
    exact size_nn (fin_nn (List.all_eq_true.1 hd x hx))
theorem laws_FnExactNoiseOf_true (l_aB_Coarse : List Nat) (l_aB_Details : List (List Nat)) (q0 : (∀ y ∈ l_aB_Coarse, W32 y)) (q1 : l_aB_Coarse.length ≤ 9223372036854775807) (q2 : (∀ y ∈ l_aB_Details, (∀ z ∈ y, W32 z) ∧ y.length ≤ 9223372036854775807)) (q3 : l_aB_Details.length ≤ 9223372036854775807) : p_laws_FnExactNoiseOf l_aB_Coarse l_aB_Details = true := by
  rw [p_laws_FnExactNoiseOf_eq, noise_same _ _ (fun y hy => (q2 y hy).1)]
  simp only [laws_eqBands_self, laws_sameFloat_self, Bool.not_true, cond_false, beq_self_eq_true]
  cases decide (p_laws_szBands l_aB_Coarse l_aB_Details 1048576 < 0) <;> rfl
/-! laws_FnExactNoiseOf: function 5 -/
def E_laws_FnExactNoiseOf : Env := envOf [(27, S_laws_szBands), (29, S_laws_toBands), (28, S_spec_NoiseOf), (30, S_impl_NoiseOf), (31, S_laws_sameFloat), (32, S_laws_eqBands)]
def F_laws_FnExactNoiseOf : List Value → AHeap → (Value → AHeap → Prop) → Prop
  | [.agg ⟨[.slice aB_Coarse_a aB_Coarse_n aB_Coarse_e, .slice aB_Details_a aB_Details_n aB_Details_e]⟩], H, K => T_laws_FnExactNoiseOf aB_Coarse_a aB_Coarse_n aB_Coarse_e aB_Details_a aB_Details_n aB_Details_e H fun (r1 : Bool) (H' : AHeap) => K (.bool r1) H'
  | _, _, _ => False
def S_laws_FnExactNoiseOf : FSpec := { F := F_laws_FnExactNoiseOf, quiet := false, tame := false }
theorem laws_FnExactNoiseOf_vc (aB_Coarse_a : Option Addr) (aB_Coarse_n : Nat) (aB_Coarse_e : Nat) (aB_Details_a : Option Addr) (aB_Details_n : Nat) (aB_Details_e : Nat) (H : AHeap) (K : Value → AHeap → Prop) : bodyL Try.prog E_laws_FnExactNoiseOf Try.f5 [.agg #[.slice aB_Coarse_a aB_Coarse_n aB_Coarse_e, .slice aB_Details_a aB_Details_n aB_Details_e]] H K =
  (Al [.slice aB_Coarse_a aB_Coarse_n aB_Coarse_e, .slice aB_Details_a aB_Details_n aB_Details_e] H fun b1 H1 => ∃ c1_a : Option Addr, ∃ c1_n : Nat, ∃ c1_e : Nat, ∃ c2_a : Option Addr, ∃ c2_n : Nat, ∃ c2_e : Nat,  rdN H1 b1 0 2 = some [.slice c1_a c1_n c1_e, .slice c2_a c2_n c2_e] ∧ T_laws_szBands c1_a c1_n c1_e c2_a c2_n c2_e 1048576 H1 fun (r1 : Int) (H2 : AHeap) => Br (decide ((r1 : Int) < 0)) (K (.bool true) H2) (∃ c3_a : Option Addr, ∃ c3_n : Nat, ∃ c3_e : Nat, ∃ c4_a : Option Addr, ∃ c4_n : Nat, ∃ c4_e : Nat,  rdN H2 b1 0 2 = some [.slice c3_a c3_n c3_e, .slice c4_a c4_n c4_e] ∧ T_laws_toBands c3_a c3_n c3_e c4_a c4_n c4_e H2 fun (a1 : Option Addr) (r2 : Nat) (r3 : Nat) (a2 : Option Addr) (r4 : Nat) (r5 : Nat) (H3 : AHeap) => T_spec_NoiseOf a1 r2 r3 a2 r4 r5 H3 fun (r6 : Nat) (r7 : Bool) (H4 : AHeap) => ∃ c5_a : Option Addr, ∃ c5_n : Nat, ∃ c5_e : Nat, ∃ c6_a : Option Addr, ∃ c6_n : Nat, ∃ c6_e : Nat,  rdN H4 b1 0 2 = some [.slice c5_a c5_n c5_e, .slice c6_a c6_n c6_e] ∧ T_laws_toBands c5_a c5_n c5_e c6_a c6_n c6_e H4 fun (a3 : Option Addr) (r8 : Nat) (r9 : Nat) (a4 : Option Addr) (r10 : Nat) (r11 : Nat) (H5 : AHeap) => Al [.slice none 0 0, .slice none 0 0] H5 fun b2 H6 => isOwn H6 b2 ∧ (∃ l, rdN H6 b2 0 2 = some l) ∧ Lt (setN H6 b2 0 [.slice a3 r8 r9, .slice a4 r10 r11]) fun H7 => ∃ c7_a : Option Addr, ∃ c7_n : Nat, ∃ c7_e : Nat, ∃ c8_a : Option Addr, ∃ c8_n : Nat, ∃ c8_e : Nat,  rdN H7 b2 0 2 = some [.slice c7_a c7_n c7_e, .slice c8_a c8_n c8_e] ∧ T_impl_NoiseOf c7_a c7_n c7_e c8_a c8_n c8_e H7 fun (r12 : Nat) (r13 : Bool) (H8 : AHeap) => T_laws_sameFloat (fwide r12) (fwide r6) H8 fun (r14 : Bool) (H9 : AHeap) => Br (!r14) (K (.bool false) H9) (Br (!(r13 == r7)) (K (.bool false) H9) (∃ c9_a : Option Addr, ∃ c9_n : Nat, ∃ c9_e : Nat, ∃ c10_a : Option Addr, ∃ c10_n : Nat, ∃ c10_e : Nat,  rdN H9 b1 0 2 = some [.slice c9_a c9_n c9_e, .slice c10_a c10_n c10_e] ∧ ∃ c11_a : Option Addr, ∃ c11_n : Nat, ∃ c11_e : Nat, ∃ c12_a : Option Addr, ∃ c12_n : Nat, ∃ c12_e : Nat,  rdN H9 b2 0 2 = some [.slice c11_a c11_n c11_e, .slice c12_a c12_n c12_e] ∧ T_laws_toBands c9_a c9_n c9_e c10_a c10_n c10_e H9 fun (a5 : Option Addr) (r15 : Nat) (r16 : Nat) (a6 : Option Addr) (r17 : Nat) (r18 : Nat) (H10 : AHeap) => T_laws_eqBands c11_a c11_n c11_e c12_a c12_n c12_e a5 r15 r16 a6 r17 r18 H10 fun (r19 : Bool) (H11 : AHeap) => Br (!r19) (K (.bool false) H11) (K (.bool true) H11))))) := by kernel_rfl
theorem E_laws_FnExactNoiseOf_ok : ∀ g, FnOk Try.prog g (E_laws_FnExactNoiseOf g) := FnOk.envOf (by
  intro x hx
  simp only [List.mem_cons, List.not_mem_nil, or_false] at hx
  rcases hx with rfl | rfl | rfl | rfl | rfl | rfl
  · exact laws_szBands_ok
  · exact laws_toBands_ok
  · exact spec_NoiseOf_ok
  · exact impl_NoiseOf_ok
  · exact laws_sameFloat_ok
  · exact laws_eqBands_ok)
set_option maxHeartbeats 1000000 in
theorem laws_FnExactNoiseOf_main (aB_Coarse_a : Option Addr) (aB_Coarse_n : Nat) (aB_Coarse_e : Nat) (aB_Details_a : Option Addr) (aB_Details_n : Nat) (aB_Details_e : Nat) (H : AHeap) (K : Value → AHeap → Prop) (h : T_laws_FnExactNoiseOf aB_Coarse_a aB_Coarse_n aB_Coarse_e aB_Details_a aB_Details_n aB_Details_e H fun (r1 : Bool) (H' : AHeap) => K (.bool r1) H') : bodyL Try.prog E_laws_FnExactNoiseOf Try.f5 [.agg #[.slice aB_Coarse_a aB_Coarse_n aB_Coarse_e, .slice aB_Details_a aB_Details_n aB_Details_e]] H K := by
  rw [laws_FnExactNoiseOf_vc]
  obtain ⟨l_aB_Coarse, l_aB_Details, h_0, h_1, h_2, h_3, h_4, h_5, hk⟩ := h
  have i_aB_Coarse := h_0
  obtain rfl := i_aB_Coarse.eqn
  have i_aB_Details := h_3
  obtain rfl := i_aB_Details.eqn
  have hl := laws_FnExactNoiseOf_true l_aB_Coarse l_aB_Details h_1 h_2 h_4 h_5
  have e : p_laws_FnExactNoiseOf l_aB_Coarse l_aB_Details = _ := rfl
  have e := e.trans (p_laws_FnExactNoiseOf_eq l_aB_Coarse l_aB_Details)
  have e := hl.symm.trans e
  have g0 := Grow.refl H
  refine Al.intro (fun b_1 H_1 hb_2 hl_3 g_4 o_5 => ?_)
  have l_7 := g_4.1
  have g_8 := g0.trans g_4
  have l_9 := g_8.1
  have w_152 := o_5.lt
  refine ⟨aB_Coarse_a, l_aB_Coarse.length, aB_Coarse_e, aB_Details_a, l_aB_Details.length, aB_Details_e, (o_5.rdN (Nat.le_of_ble_eq_true rfl)).trans rfl, ?_⟩
  refine T_laws_szBands_i ⟨_, l_aB_Details, (i_aB_Coarse.grow g_8), (i_aB_Details.grow g_8), o2, fun  H_2 g_11  => ?_⟩
  have z_10 := laws_szBands_b l_aB_Coarse l_aB_Details (1048576 : Int) o3 o3 (by first | assumption | omega) (by first | assumption | omega) (by assumption)
  have l_12 := g_11.1
  have g_13 := g_8.trans g_11
  have l_14 := g_13.1
  have o_15 := o_5.grow g_11
  have w_16 := o_15.lt
  refine Br.intro (fun c_17 => ?_) (fun c_17 => ?_)
  · have e := e.trans (cond_t c_17)
    have c_17' := of_decide_eq_true c_17
    first | exact hk _ | (exfalso; cases e; done) | (rw [← e]; exact hk _)
  · have e := e.trans (cond_f c_17)
    have c_17' := of_decide_eq_false c_17
    refine ⟨aB_Coarse_a, l_aB_Coarse.length, aB_Coarse_e, aB_Details_a, l_aB_Details.length, aB_Details_e, (o_15.rdN (Nat.le_of_ble_eq_true rfl)).trans rfl, ?_⟩
    refine T_laws_toBands_i ⟨_, l_aB_Details, (i_aB_Coarse.grow g_13), (i_aB_Details.grow g_13), o0, o0, (by first | assumption | exact or_right (by assumption) (by omega) | exact or_right (by assumption : _ ∧ (_ ∨ _)).2 (by omega) | (intro y hy; simp only [List.mem_cons, List.not_mem_nil, or_false] at hy; first | omega | (subst hy; omega) | (rcases hy with rfl | rfl <;> omega) | (rcases hy with rfl | rfl | rfl <;> omega))), fun a_18 n_19 e_20 a_22 n_23 e_24 H_3 g_26 r_21 r_25 => ?_⟩
    have l_27 := g_26.1
    have g_28 := g_13.trans g_26
    have l_29 := g_28.1
    have o_30 := o_15.grow g_26
    have w_31 := o_30.lt
    obtain rfl := r_21.isL.eqn
    have u_32 := r_21.up
    have u_33 := r_21.lo
    obtain rfl := r_25.isL.eqn
    have u_35 := r_25.up
    have u_36 := r_25.lo
    refine T_spec_NoiseOf_i ⟨_, l_aB_Details, r_21.isL, r_25.isL, o0, o0, (by first | assumption | exact or_right (by assumption) (by omega) | exact or_right (by assumption : _ ∧ (_ ∨ _)).2 (by omega) | (intro y hy; simp only [List.mem_cons, List.not_mem_nil, or_false] at hy; first | omega | (subst hy; omega) | (rcases hy with rfl | rfl <;> omega) | (rcases hy with rfl | rfl | rfl <;> omega))), fun  H_4 g_38  => ?_⟩
    have l_39 := g_38.1
    have g_40 := g_28.trans g_38
    have l_41 := g_40.1
    have o_42 := o_30.grow g_38
    have w_43 := o_42.lt
    have r_44 := r_21.grow g_38
    have r_45 := r_25.grow g_38
    refine ⟨aB_Coarse_a, l_aB_Coarse.length, aB_Coarse_e, aB_Details_a, l_aB_Details.length, aB_Details_e, (o_42.rdN (Nat.le_of_ble_eq_true rfl)).trans rfl, ?_⟩
    refine T_laws_toBands_i ⟨_, l_aB_Details, (i_aB_Coarse.grow g_40), (i_aB_Details.grow g_40), o0, o0, (by first | assumption | exact or_right (by assumption) (by omega) | exact or_right (by assumption : _ ∧ (_ ∨ _)).2 (by omega) | (intro y hy; simp only [List.mem_cons, List.not_mem_nil, or_false] at hy; first | omega | (subst hy; omega) | (rcases hy with rfl | rfl <;> omega) | (rcases hy with rfl | rfl | rfl <;> omega))), fun a_46 n_47 e_48 a_50 n_51 e_52 H_5 g_54 r_49 r_53 => ?_⟩
    have l_55 := g_54.1
    have g_56 := g_40.trans g_54
    have l_57 := g_56.1
    have o_58 := o_42.grow g_54
    have w_59 := o_58.lt
    have r_60 := r_44.grow g_54
    have r_61 := r_45.grow g_54
    obtain rfl := r_49.isL.eqn
    have u_62 := r_49.up
    have u_63 := r_49.lo
    obtain rfl := r_53.isL.eqn
    have u_65 := r_53.up
    have u_66 := r_53.lo
    refine Al.intro (fun b_68 H_6 hb_69 hl_70 g_71 o_72 => ?_)
    have l_74 := g_71.1
    have g_75 := g_56.trans g_71
    have l_76 := g_75.1
    have o_77 := o_58.grow g_71
    have w_78 := o_77.lt
    have r_79 := r_60.grow g_71
    have r_80 := r_61.grow g_71
    have r_81 := r_49.grow g_71
    have r_82 := r_53.grow g_71
    have w_151 := o_72.lt
    refine Lt.setN (n := 2) o_72 (Nat.le_of_ble_eq_true rfl) rfl (fun H_7 hl_83 o_85 k_84 => ?_)
    have o_85 : Own H_7 b_68 [.slice a_46 ((l_aB_Coarse).length) e_48, .slice a_50 ((l_aB_Details).length) e_52] := o_85
    have l_86 := k_84.1
    have g_87 := g_75.keep (b := b_68) o3 k_84
    have l_88 := g_87.1
    have o_89 := o_77.keep o3 k_84
    have w_90 := o_89.lt
    have r_91 := r_79.keep u_32 o3 k_84
    have r_92 := r_80.keep o3 k_84
    have r_93 := r_81.keep u_62 o3 k_84
    have r_94 := r_82.keep o3 k_84
    have w_150 := o_85.lt
    refine ⟨a_46, (l_aB_Coarse).length, e_48, a_50, (l_aB_Details).length, e_52, (o_85.rdN (Nat.le_of_ble_eq_true rfl)).trans rfl, ?_⟩
    refine T_impl_NoiseOf_i ⟨_, l_aB_Details, r_93.isL, r_94.isL, o0, o0, (by first | assumption | exact or_right (by assumption) (by omega) | exact or_right (by assumption : _ ∧ (_ ∨ _)).2 (by omega) | (intro y hy; simp only [List.mem_cons, List.not_mem_nil, or_false] at hy; first | omega | (subst hy; omega) | (rcases hy with rfl | rfl <;> omega) | (rcases hy with rfl | rfl | rfl <;> omega))), fun  H_8 g_95  => ?_⟩
    have l_96 := g_95.1
    have g_97 := g_87.trans g_95
    have l_98 := g_97.1
    have o_99 := o_89.grow g_95
    have w_100 := o_99.lt
    have o_101 := o_85.grow g_95
    have w_102 := o_101.lt
    have r_103 := r_91.grow g_95
    have r_104 := r_92.grow g_95
    have r_105 := r_93.grow g_95
    have r_106 := r_94.grow g_95
    refine T_laws_sameFloat_i ?_
    refine Br.intro (fun c_107 => ?_) (fun c_107 => ?_)
    · have e := e.trans (cond_t c_107)
      have c_107n := nf_of_t c_107
      first | exact hk _ | (exfalso; cases e; done) | (rw [← e]; exact hk _)
    · have e := e.trans (cond_f c_107)
      have c_107n := nt_of_f c_107
      refine Br.intro (fun c_108 => ?_) (fun c_108 => ?_)
      · have e := e.trans (cond_t c_108)
        have c_108n := nf_of_t c_108
        first | exact hk _ | (exfalso; cases e; done) | (rw [← e]; exact hk _)
      · have e := e.trans (cond_f c_108)
        have c_108n := nt_of_f c_108
        refine ⟨aB_Coarse_a, l_aB_Coarse.length, aB_Coarse_e, aB_Details_a, l_aB_Details.length, aB_Details_e, (o_99.rdN (Nat.le_of_ble_eq_true rfl)).trans rfl, ?_⟩
        refine ⟨a_46, (l_aB_Coarse).length, e_48, a_50, (l_aB_Details).length, e_52, (o_101.rdN (Nat.le_of_ble_eq_true rfl)).trans rfl, ?_⟩
        refine T_laws_toBands_i ⟨_, l_aB_Details, (i_aB_Coarse.grow g_97), (i_aB_Details.grow g_97), o0, o0, (by first | assumption | exact or_right (by assumption) (by omega) | exact or_right (by assumption : _ ∧ (_ ∨ _)).2 (by omega) | (intro y hy; simp only [List.mem_cons, List.not_mem_nil, or_false] at hy; first | omega | (subst hy; omega) | (rcases hy with rfl | rfl <;> omega) | (rcases hy with rfl | rfl | rfl <;> omega))), fun a_109 n_110 e_111 a_113 n_114 e_115 H_9 g_117 r_112 r_116 => ?_⟩
        have l_118 := g_117.1
        have g_119 := g_97.trans g_117
        have l_120 := g_119.1
        have o_121 := o_99.grow g_117
        have w_122 := o_121.lt
        have o_123 := o_101.grow g_117
        have w_124 := o_123.lt
        have r_125 := r_103.grow g_117
        have r_126 := r_104.grow g_117
        have r_127 := r_105.grow g_117
        have r_128 := r_106.grow g_117
        obtain rfl := r_112.isL.eqn
        have u_129 := r_112.up
        have u_130 := r_112.lo
        obtain rfl := r_116.isL.eqn
        have u_132 := r_116.up
        have u_133 := r_116.lo
        refine T_laws_eqBands_i ⟨_, l_aB_Details, _, l_aB_Details, r_127.isL, r_128.isL, r_112.isL, r_116.isL, o0, o0, o0, o0, (by first | assumption | exact or_right (by assumption) (by omega) | exact or_right (by assumption : _ ∧ (_ ∨ _)).2 (by omega) | (intro y hy; simp only [List.mem_cons, List.not_mem_nil, or_false] at hy; first | omega | (subst hy; omega) | (rcases hy with rfl | rfl <;> omega) | (rcases hy with rfl | rfl | rfl <;> omega))), (by first | assumption | exact or_right (by assumption) (by omega) | exact or_right (by assumption : _ ∧ (_ ∨ _)).2 (by omega) | (intro y hy; simp only [List.mem_cons, List.not_mem_nil, or_false] at hy; first | omega | (subst hy; omega) | (rcases hy with rfl | rfl <;> omega) | (rcases hy with rfl | rfl | rfl <;> omega))), fun  H_10 g_135  => ?_⟩
        have l_136 := g_135.1
        have g_137 := g_119.trans g_135
        have l_138 := g_137.1
        have o_139 := o_121.grow g_135
        have w_140 := o_139.lt
        have o_141 := o_123.grow g_135
        have w_142 := o_141.lt
        have r_143 := r_125.grow g_135
        have r_144 := r_126.grow g_135
        have r_145 := r_127.grow g_135
        have r_146 := r_128.grow g_135
        have r_147 := r_112.grow g_135
        have r_148 := r_116.grow g_135
        refine Br.intro (fun c_149 => ?_) (fun c_149 => ?_)
        · have e := e.trans (cond_t c_149)
          have c_149n := nf_of_t c_149
          first | exact hk _ | (exfalso; cases e; done) | (rw [← e]; exact hk _)
        · have e := e.trans (cond_f c_149)
          have c_149n := nt_of_f c_149
          first | exact hk _ | (exfalso; cases e; done) | (rw [← e]; exact hk _)
theorem laws_FnExactNoiseOf_ok : FnOk Try.prog 5 S_laws_FnExactNoiseOf := by
  refine FnOk.body mix_ok E_laws_FnExactNoiseOf_ok Try.func5 rfl (by kernel_rfl) (by kernel_rfl) ?_ ?_ ?_ ?_ ?_
  · intro args H K K' h hk
    simp only [S_laws_FnExactNoiseOf] at *
    unfold F_laws_FnExactNoiseOf at *
    split at hk
    · obtain ⟨l_aB_Coarse, l_aB_Details, h_0, h_1, h_2, h_3, h_4, h_5, k⟩ := hk
      exact ⟨l_aB_Coarse, l_aB_Details, h_0, h_1, h_2, h_3, h_4, h_5, (fun H' => h _ _ (k H'))⟩
    · exact hk.elim
  · intro hq; cases hq
  · intro args H K hk
    simp only [S_laws_FnExactNoiseOf] at *
    unfold F_laws_FnExactNoiseOf at *
    split at hk
    · obtain ⟨l_aB_Coarse, l_aB_Details, h_0, h_1, h_2, h_3, h_4, h_5, k⟩ := hk
      exact ⟨_, _, k []⟩
    · exact hk.elim
  · intro hq; cases hq
  · have mm := @laws_FnExactNoiseOf_main
    have ml := fun (args : List Value) (H : AHeap) (K : Value → AHeap → Prop) => bodyL_body (P := Try.prog) (env := E_laws_FnExactNoiseOf ) (fn := Try.f5) (args := args) (H := H) (K := K) E_laws_FnExactNoiseOf_ok 
    revert mm ml
    generalize bodyK Try.prog E_laws_FnExactNoiseOf Try.f5 = Q
    generalize bodyL Try.prog E_laws_FnExactNoiseOf Try.f5 = QL
    intro mm ml args H K hk
    simp only [S_laws_FnExactNoiseOf] at *
    unfold F_laws_FnExactNoiseOf at *
    split at hk
    · exact ml _ H K (mm _ _ _ _ _ _ H K hk)
    · exact hk.elim
end Go.Proofs.Ytbnplefohfamnaa.Ai
