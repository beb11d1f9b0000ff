/- What functions of the program come to on the abstract machine, and that they do so; printed by a program of mine around proofs of mine. -/
import Derived.Test.YtbnplefohfamnaaFFnExactShrinkBands1
set_option linter.unusedVariables false
set_option linter.unusedSimpArgs false
set_option linter.defProp false
set_option maxRecDepth 100000
namespace Go.Proofs.Ytbnplefohfamnaa.Ai
open Go
attribute [local irreducible] bodyK bodyL

def p_laws_FnExactShrinkBands (l_aB_Coarse : List Nat) (l_aB_Details : List (List Nat)) (l_aLimits : List Nat) (aHard : Bool) : Bool := ((bif decide ((1048576 : Int) < (l_aLimits.length : Int)) then true else (bif decide (((p_laws_szBands l_aB_Coarse l_aB_Details (1048576 : Int)) : Int) < 0) then true else (bif !((p_laws_eqBands ((p_impl_ShrinkBands l_aB_Coarse l_aB_Details l_aLimits aHard).1) ((p_impl_ShrinkBands l_aB_Coarse l_aB_Details l_aLimits aHard).2.1) ((p_spec_ShrinkBands l_aB_Coarse l_aB_Details l_aLimits aHard).1) ((p_spec_ShrinkBands l_aB_Coarse l_aB_Details l_aLimits aHard).2.1))) then false else (bif !(((p_impl_ShrinkBands l_aB_Coarse l_aB_Details l_aLimits aHard).2.2) == ((p_spec_ShrinkBands l_aB_Coarse l_aB_Details l_aLimits aHard).2.2)) then false else (bif !(p_laws_eqBands l_aB_Coarse l_aB_Details l_aB_Coarse l_aB_Details) then false else (bif !(p_laws_eqFloat32S l_aLimits l_aLimits) then false else (bif decide (((wk ((p_laws_markBands l_aB_Coarse l_aB_Details (1 : Int)).1) l_aLimits.length) : Int) < 0) then false else (bif !((p_laws_eqBands ((p_impl_ShrinkBands l_aB_Coarse l_aB_Details l_aLimits aHard).1) ((p_impl_ShrinkBands l_aB_Coarse l_aB_Details l_aLimits aHard).2.1) ((p_spec_ShrinkBands l_aB_Coarse l_aB_Details l_aLimits aHard).1) ((p_spec_ShrinkBands l_aB_Coarse l_aB_Details l_aLimits aHard).2.1))) then false else (bif !(((p_impl_ShrinkBands l_aB_Coarse l_aB_Details l_aLimits aHard).2.2) == ((p_spec_ShrinkBands l_aB_Coarse l_aB_Details l_aLimits aHard).2.2)) then false else (bif decide (((p_laws_heldBands ((p_laws_markBands ((p_impl_ShrinkBands l_aB_Coarse l_aB_Details l_aLimits aHard).1) ((p_impl_ShrinkBands l_aB_Coarse l_aB_Details l_aLimits aHard).2.1) (1 : Int)).2.1) ((p_laws_markBands ((p_impl_ShrinkBands l_aB_Coarse l_aB_Details l_aLimits aHard).1) ((p_impl_ShrinkBands l_aB_Coarse l_aB_Details l_aLimits aHard).2.1) (1 : Int)).2.2) (1 : Int)) : Int) < 0) then false else (bif ((p_laws_heldBands ((p_laws_markBands ((p_impl_ShrinkBands l_aB_Coarse l_aB_Details l_aLimits aHard).1) ((p_impl_ShrinkBands l_aB_Coarse l_aB_Details l_aLimits aHard).2.1) (1 : Int)).2.1) ((p_laws_markBands ((p_impl_ShrinkBands l_aB_Coarse l_aB_Details l_aLimits aHard).1) ((p_impl_ShrinkBands l_aB_Coarse l_aB_Details l_aLimits aHard).2.1) (1 : Int)).2.2) (1 : Int)) : Int) != (p_laws_markBands ((p_impl_ShrinkBands l_aB_Coarse l_aB_Details l_aLimits aHard).1) ((p_impl_ShrinkBands l_aB_Coarse l_aB_Details l_aLimits aHard).2.1) (1 : Int)).1 then false else (bif !((p_laws_eqBands ((p_impl_ShrinkBands l_aB_Coarse l_aB_Details l_aLimits aHard).1) ((p_impl_ShrinkBands l_aB_Coarse l_aB_Details l_aLimits aHard).2.1) ((p_spec_ShrinkBands l_aB_Coarse l_aB_Details l_aLimits aHard).1) ((p_spec_ShrinkBands l_aB_Coarse l_aB_Details l_aLimits aHard).2.1))) then false else (bif !(((p_impl_ShrinkBands l_aB_Coarse l_aB_Details l_aLimits aHard).2.2) == ((p_spec_ShrinkBands l_aB_Coarse l_aB_Details l_aLimits aHard).2.2)) then false else (bif decide (((p_laws_heldBands ((p_laws_markBands ((p_impl_ShrinkBands l_aB_Coarse l_aB_Details l_aLimits aHard).1) ((p_impl_ShrinkBands l_aB_Coarse l_aB_Details l_aLimits aHard).2.1) (1 : Int)).2.1) ((p_laws_markBands ((p_impl_ShrinkBands l_aB_Coarse l_aB_Details l_aLimits aHard).1) ((p_impl_ShrinkBands l_aB_Coarse l_aB_Details l_aLimits aHard).2.1) (1 : Int)).2.2) (1 : Int)) : Int) < 0) then false else (bif ((p_laws_heldBands ((p_laws_markBands ((p_impl_ShrinkBands l_aB_Coarse l_aB_Details l_aLimits aHard).1) ((p_impl_ShrinkBands l_aB_Coarse l_aB_Details l_aLimits aHard).2.1) (1 : Int)).2.1) ((p_laws_markBands ((p_impl_ShrinkBands l_aB_Coarse l_aB_Details l_aLimits aHard).1) ((p_impl_ShrinkBands l_aB_Coarse l_aB_Details l_aLimits aHard).2.1) (1 : Int)).2.2) (1 : Int)) : Int) != (p_laws_markBands ((p_impl_ShrinkBands l_aB_Coarse l_aB_Details l_aLimits aHard).1) ((p_impl_ShrinkBands l_aB_Coarse l_aB_Details l_aLimits aHard).2.1) (1 : Int)).1 then false else true))))))))))))))))
def p_laws_FnExactShrinkBands_eq := @p_laws_FnExactShrinkBands.eq_1
def T_laws_FnExactShrinkBands (aB_Coarse_a : Option Addr) (aB_Coarse_n : Nat) (aB_Coarse_e : Nat) (aB_Details_a : Option Addr) (aB_Details_n : Nat) (aB_Details_e : Nat) (aLimits_a : Option Addr) (aLimits_n : Nat) (aLimits_e : Nat) (aHard : Bool) (H : AHeap) (K : Bool → AHeap → Prop) : Prop := ∃ l_aB_Coarse : List Nat, ∃ l_aB_Details : List (List Nat), ∃ l_aLimits : List Nat, IsL fF H aB_Coarse_a aB_Coarse_n l_aB_Coarse ∧ (∀ y ∈ l_aB_Coarse, W32 y) ∧ l_aB_Coarse.length ≤ 9223372036854775807 ∧ IsLL fF H aB_Details_a aB_Details_n l_aB_Details ∧ (∀ y ∈ l_aB_Details, (∀ z ∈ y, W32 z) ∧ y.length ≤ 9223372036854775807) ∧ l_aB_Details.length ≤ 9223372036854775807 ∧ IsL fF H aLimits_a aLimits_n l_aLimits ∧ (∀ y ∈ l_aLimits, W32 y) ∧ l_aLimits.length ≤ 9223372036854775807 ∧ ∀ H' : AHeap, K true H'
theorem spec_fin (x : Nat) : p_spec_l01Finite x = fin .f32 x := fin_asked x
theorem impl_fin (x : Nat) : p_impl_IsFinite x = fin .f32 x := fin_asked x
theorem w32_wd {x : Nat} (h : W32 x) : Wd .f32 x := ⟨h.1, h.2⟩
theorem l02Finite_go (l : List Nat) : ∀ (μ : Nat) (t : Bool) (i : Nat), l.length - i < μ → p_spec_l02Finite_l1 l μ t (i : Int) = (l.drop i).all (fin .f32) := by
  intro μ
  induction μ with
  | zero => intro t i h; omega
  | succ μ ih =>
    intro t i hm
    rw [p_spec_l02Finite_l1_s]
    by_cases h : i < l.length
    · rw [decide_eq_true (show (i : Int) < (l.length : Int) by omega), cond_true, Int.toNat_natCast, spec_fin]
      rw [List.drop_eq_getElem_cons h, List.all_cons, List.getD_eq_getElem?_getD, List.getElem?_eq_getElem h, Option.getD_some]
      have := ih t (i + 1) ω2
      cases fin .f32 l[i]
      · rfl
      · simp only [Bool.not_true, cond_false, Bool.true_and]; exact this
    · rw [decide_eq_false (show ¬ (i : Int) < (l.length : Int) by omega), cond_false, List.drop_eq_nil_of_le ω2]; rfl
theorem l02Finite_all (l : List Nat) : p_spec_l02Finite l = l.all (fin .f32) := by
  rw [p_spec_l02Finite_eq]
  have := l02Finite_go l (Int.toNat ((l.length : Int) - (0 : Int)) + 1) false 0 ω2
  simpa using this
theorem areFinite_in (ls : List (List Nat)) (t2 : Bool) (t9 : Int) (k : Bool → Int → Bool) : ∀ (μ : Nat) (t : Bool) (i : Nat), i ≤ (ls.getD t9.toNat []).length → (ls.getD t9.toNat []).length - i < μ →
    p_impl_areFinite_l2 ls t2 t9 k μ t (i : Int) = bif ((ls.getD t9.toNat []).drop i).all (fin .f32) then k t ((ls.getD t9.toNat []).length : Int) else false := by
  intro μ
  generalize hl : ls.getD t9.toNat [] = l
  induction μ with
  | zero => intro t i _ h; omega
  | succ μ ih =>
    intro t i hi hm
    rw [p_impl_areFinite_l2_s, hl]
    by_cases h : i < l.length
    · rw [decide_eq_true (show (i : Int) < (l.length : Int) by omega), cond_true, Int.toNat_natCast, impl_fin]
      rw [List.drop_eq_getElem_cons h, List.all_cons, List.getD_eq_getElem?_getD, List.getElem?_eq_getElem h, Option.getD_some]
      have := ih t (i + 1) ω2 ω2
      cases fin .f32 l[i]
      · rfl
      · simp only [Bool.not_true, cond_false, Bool.true_and]; exact this
    · rw [decide_eq_false (show ¬ (i : Int) < (l.length : Int) by omega), cond_false, List.drop_eq_nil_of_le ω2, show i = l.length by omega]; rfl
theorem areFinite_go (ls : List (List Nat)) : ∀ (μ : Nat) (t : Bool) (i : Nat), ls.length - i < μ → p_impl_areFinite_l1 ls μ t (i : Int) = (ls.drop i).all (fun l => l.all (fin .f32)) := by
  intro μ
  induction μ with
  | zero => intro t i h; omega
  | succ μ ih =>
    intro t i hm
    rw [p_impl_areFinite_l1_s]
    by_cases h : i < ls.length
    · rw [decide_eq_true (show (i : Int) < (ls.length : Int) by omega), cond_true]
      have := areFinite_in ls t (i : Int) (fun t2 t15 => p_impl_areFinite_l1 ls μ t2 ((i : Int) + 1)) (Int.toNat ((((ls).getD ((i : Int) : Int).toNat []).length : Int) - (0 : Int)) + 1) t 0 (Nat.zero_le _) ω2
      refine Eq.trans this ?_
      rw [Int.toNat_natCast, List.drop_zero, List.drop_eq_getElem_cons h, List.all_cons, List.getD_eq_getElem?_getD, List.getElem?_eq_getElem h, Option.getD_some]
      have := ih t (i + 1) ω2
      cases ls[i].all (fin .f32)
      · rfl
      · simp only [cond_true, Bool.true_and]; exact this
    · rw [decide_eq_false (show ¬ (i : Int) < (ls.length : Int) by omega), cond_false, List.drop_eq_nil_of_le ω2]; rfl
theorem areFinite_all (ls : List (List Nat)) : p_impl_areFinite ls = ls.all (fun l => l.all (fin .f32)) := by
  rw [p_impl_areFinite_eq]
  have := areFinite_go ls (Int.toNat ((ls.length : Int) - (0 : Int)) + 1) false 0 ω2
  simpa using this
theorem w32_zero : W32 0 := ⟨by decide, by decide +kernel⟩
theorem w32_getD {l : List Nat} (h : ∀ y ∈ l, W32 y) (i : Nat) : W32 (l.getD i 0) := by
  rw [List.getD_eq_getElem?_getD]
  cases hx : l[i]? with
  | none => exact w32_zero
  | some y => exact h y (List.mem_of_getElem? hx)
theorem bands_go (a : List Nat) (ds : List (List Nat)) : ∀ (μ : Nat) (t t' : Bool) (i : Nat), ds.length - i < μ → p_spec_l03Bands_l1 a ds μ t (i : Int) = ((ds.drop i).all (fun l => l.all (fin .f32)) && p_impl_ValidBands_l1 a ds μ t' (i : Int)) := by
  intro μ
  induction μ with
  | zero => intro t t' i h; omega
  | succ μ ih =>
    intro t t' i hm
    rw [p_spec_l03Bands_l1_s, p_impl_ValidBands_l1_s]
    by_cases h : i < ds.length
    · rw [decide_eq_true (show (i : Int) < (ds.length : Int) by omega), cond_true, cond_true, Int.toNat_natCast, l02Finite_all]
      have hx : ds.getD i [] = ds[i] := by rw [List.getD_eq_getElem?_getD, List.getElem?_eq_getElem h]; rfl
      have e1 := ih t t' (i + 1) ω2
      rw [show ((i + 1 : Nat) : Int) = (i : Int) + 1 by omega] at e1
      rw [hx, e1, List.drop_eq_getElem_cons h, List.all_cons]
      generalize p_impl_ValidBands_l1 a ds μ t' ((i : Int) + 1) = R
      generalize (ds.drop (i + 1)).all (fun l => l.all (fin .f32)) = S
      generalize ds.getD ((i : Int) - 1).toNat [] = prev
      generalize hd : ds[i] = d
      by_cases h0 : d.length = 0
      · rw [decide_eq_true (show ((d.length : Int)) < 1 by omega), show ((d.length : Int) == 0) = true by rw [h0]; rfl]
        cases d.all (fin .f32) <;> cases S <;> rfl
      · rw [decide_eq_false (show ¬ ((d.length : Int)) < 1 by omega), show ((d.length : Int) == 0) = false by simpa using h0]
        rw [show ((prev.length : Int) != IntKind.wrap .i64 (2 * (d.length : Int))) = (IntKind.wrap .i64 (2 * (d.length : Int)) != (prev.length : Int)) by unfold bne; rw [Bool.beq_comm]]
        cases d.all (fin .f32) <;> cases S <;> cases decide ((0 : Int) < (i : Int)) <;> cases (IntKind.wrap .i64 (2 * (d.length : Int)) != (prev.length : Int)) <;> cases R <;> rfl
    · rw [decide_eq_false (show ¬ (i : Int) < (ds.length : Int) by omega), cond_false, cond_false, List.drop_eq_nil_of_le ω2]; rfl
theorem bands_same (a : List Nat) (ds : List (List Nat)) : p_impl_ValidBands a ds = p_spec_l03Bands a ds := by
  rw [p_impl_ValidBands_eq, p_spec_l03Bands_eq, areFinite_all, areFinite_all, l02Finite_all]
  have e := bands_go a ds (Int.toNat ((ds.length : Int) - (0 : Int)) + 1) false false 0 ω2
  rw [show ((0 : Nat) : Int) = 0 from rfl] at e
  rw [e, List.drop_zero]
  have hs : ([a].all fun l => l.all (fin .f32)) = a.all (fin .f32) := by simp
  rw [hs]
  unfold p_impl_within
  by_cases h1 : (ds.length : Int) < 1
  · rw [decide_eq_true h1, decide_eq_false (show ¬ (1 : Int) ≤ (ds.length : Int) by omega)]; rfl
  · rw [decide_eq_false h1, decide_eq_true (show (1 : Int) ≤ (ds.length : Int) by omega), cond_true]
    by_cases h2 : (6 : Int) < (ds.length : Int)
    · rw [decide_eq_true h2, decide_eq_false (show ¬ (ds.length : Int) ≤ 6 by omega)]; rfl
    · rw [decide_eq_false h2, decide_eq_true (show (ds.length : Int) ≤ 6 by omega)]
      generalize p_impl_ValidBands_l1 a ds _ false 0 = R
      cases decide ((64 : Int) < ((ds.getD (0 : Int).toNat []).length : Int)) <;> cases ds.all (fun l => l.all (fin .f32)) <;> cases a.all (fin .f32) <;> cases R <;> rfl
theorem bands_t {a : List Nat} {ds : List (List Nat)} (h : p_impl_ValidBands a ds = true) : 1 ≤ ds.length ∧ ds.length ≤ 6 ∧ ds.all (fun l => l.all (fin .f32)) = true ∧ a.all (fin .f32) = true ∧ (ds.getD 0 []).length ≤ 64 := by
  rw [p_impl_ValidBands_eq, areFinite_all, areFinite_all] at h
  have hs : ([a].all fun l => l.all (fin .f32)) = a.all (fin .f32) := by simp
  rw [hs] at h
  unfold p_impl_within at h
  by_cases h1 : (1 : Int) ≤ (ds.length : Int)
  · by_cases h2 : (ds.length : Int) ≤ 6
    · rw [decide_eq_true h1, decide_eq_true h2] at h
      by_cases h3 : (64 : Int) < ((ds.getD (0 : Int).toNat []).length : Int)
      · rw [decide_eq_true h3] at h; cases h
      · rw [decide_eq_false h3] at h
        have h3 : ¬ (64 : Int) < ((ds.getD 0 []).length : Int) := h3
        cases hd : ds.all (fun l => l.all (fin .f32))
        · rw [hd] at h; cases h
        · cases ha : a.all (fin .f32)
          · rw [hd, ha] at h; cases h
          · exact ⟨by omega, by omega, rfl, rfl, by omega⟩
    · rw [decide_eq_true h1, decide_eq_false h2] at h; cases h
  · rw [decide_eq_false h1] at h; cases h
theorem size_same {x : Nat} (h : W32 x) : p_impl_size x = p_spec_l03Size x := size_two (w32_wd h)
theorem least_same (x : Nat) : p_impl_isLeast x = p_spec_l02Least x := rfl
theorem least_t {x : Nat} (h : p_spec_l02Least x = true) : fin .f32 x = true ∧ 0 ≤ sv .f32 x := by
  unfold p_spec_l02Least at h
  rw [spec_fin] at h
  cases hf : fin .f32 x
  · rw [hf] at h; cases h
  · rw [hf, cond_true, fle_fin (fin_zero _) hf, sv_zero] at h
    exact ⟨rfl, of_decide_eq_true h⟩
theorem soft_same {x y : Nat} (hx : W32 x) (hy : W32 y) (fx : fin .f32 x = true) (ly : p_spec_l02Least y = true) (h : flt .f32 y (p_spec_l03Size x) = true) :
    p_impl_softer x y = (bif flt .f32 x 0 then fneg .f32 (fsub .f32 (p_spec_l03Size x) y) else fsub .f32 (p_spec_l03Size x) y) := by
  obtain ⟨fy, py⟩ := least_t ly
  have wx := w32_wd hx
  have wy := w32_wd hy
  rw [← size_same hx] at h ⊢
  unfold p_impl_size at h ⊢
  unfold p_impl_softer
  have e1 : flt .f32 x 0 = decide (sv .f32 x < 0) := by rw [flt_fin fx (fin_zero _), sv_zero]
  have e2 : feq .f32 x 0 = decide (sv .f32 x = 0) := by rw [feq_fin fx (fin_zero _), sv_zero]
  rw [e1, e2] at h ⊢
  by_cases c : sv .f32 x < 0
  · rw [decide_eq_true c, cond_true] at h ⊢
    rw [flt_fin fy (fin_neg fx), sv_neg fx] at h
    have h := of_decide_eq_true h
    have e3 : flt .f32 y x = false := by rw [flt_fin fy fx]; exact decide_eq_false ω2
    have e4 : flt .f32 x (fneg .f32 y) = true := by rw [flt_fin fx (fin_neg fy), sv_neg fy]; exact decide_eq_true ω2
    rw [e3, e4, cond_false, cond_true, cond_true, fsub_neg (fin_nn fy)]
    rw [← fadd_negs (fin_neg fx) (fin_neg fy) (by rw [sv_neg fx, sv_neg fy]; omega), fneg_fneg wx, fneg_fneg wy]
  · rw [decide_eq_false c, cond_false] at h ⊢
    by_cases c2 : sv .f32 x = 0
    · rw [decide_eq_true c2, cond_true, flt_fin fy (fin_zero _), sv_zero] at h
      have h := of_decide_eq_true h
      omega
    · rw [decide_eq_false c2, cond_false] at h ⊢
      rw [h, cond_true, cond_false]
theorem shrunk_same {x y : Nat} (hard : Bool) (hx : W32 x) (hy : W32 y) (fx : fin .f32 x = true) (ly : p_spec_l02Least y = true) : p_impl_shrunk x y hard = p_spec_l05Shrink x y hard := by
  rw [p_impl_shrunk_eq, p_spec_l05Shrink_eq, size_same hx]
  cases h : flt .f32 y (p_spec_l03Size x)
  · rfl
  · cases hard
    · simp only [Bool.not_true, cond_false]
      exact soft_same hx hy fx ly h
    · rfl
theorem shb_go (a : List Nat) (ds : List (List Nat)) (m : List Nat) (h : Bool) (hm : ∀ y ∈ m, W32 y) (hw : ∀ d ∈ ds, ∀ y ∈ d, W32 y) (hd : ds.all (fun l => l.all (fin .f32)) = true) : ∀ (μ : Nat) (b b' : Bool) (i : Int) (o : List (List Nat)), 0 ≤ i → p_impl_ShrinkBands_l1 a ds m h μ b i o = p_spec_ShrinkBands_l1 a ds m h μ b' i o := by
  intro μ
  induction μ with
  | zero => intro b b' i o h0; rfl
  | succ μ ih =>
    intro b b' i o h0
    rw [p_impl_ShrinkBands_l1_s, p_spec_ShrinkBands_l1_s, least_same, impl_copyOf_is, List.nil_append]
    by_cases hi : i < (ds.length : Int)
    · rw [decide_eq_true hi, cond_true, cond_true]
      cases hl : p_spec_l02Least (m.getD i.toNat 0)
      · rfl
      · simp only [Bool.not_true, cond_false]
        have hi : i.toNat < ds.length := by omega
        have hmem : ds.getD i.toNat [] ∈ ds := by
          rw [List.getD_eq_getElem?_getD, List.getElem?_eq_getElem hi]; exact List.getElem_mem _
        have he : p_impl_shrunkList (ds.getD i.toNat []) (m.getD i.toNat 0) h = p_spec_l05List (ds.getD i.toNat []) (m.getD i.toNat 0) h := by
          rw [impl_shrunkList_map, spec_l05List_map]
          exact List.map_congr_left fun x hx => shrunk_same h (hw _ hmem x hx) (w32_getD hm _) (List.all_eq_true.1 (List.all_eq_true.1 hd _ hmem) x hx) hl
        rw [he]; exact ih _ _ _ _ ω2
    · rw [decide_eq_false hi, cond_false, cond_false]
theorem shb_same (a : List Nat) (ds : List (List Nat)) (m : List Nat) (h : Bool) (hm : ∀ y ∈ m, W32 y) (hw : ∀ d ∈ ds, ∀ y ∈ d, W32 y) : p_impl_ShrinkBands a ds m h = p_spec_ShrinkBands a ds m h := by
  rw [p_impl_ShrinkBands_eq, p_spec_ShrinkBands_eq, bands_same]
  cases h1 : p_spec_l03Bands a ds
  · rfl
  · obtain ⟨b1, b2, b3, b4, b5⟩ := bands_t ((bands_same a ds).trans h1)
    rw [shb_go a ds m h hm hw b3 _ false false 0 _ ω2]
theorem laws_FnExactShrinkBands_true (l_aB_Coarse : List Nat) (l_aB_Details : List (List Nat)) (l_aLimits : List Nat) (aHard : Bool) (q0 : (∀ y ∈ l_aB_Coarse, W32 y)) (q1 : l_aB_Coarse.length ≤ 9223372036854775807) (q2 : (∀ y ∈ l_aB_Details, (∀ z ∈ y, W32 z) ∧ y.length ≤ 9223372036854775807)) (q3 : l_aB_Details.length ≤ 9223372036854775807) (q4 : (∀ y ∈ l_aLimits, W32 y)) (q5 : l_aLimits.length ≤ 9223372036854775807) : p_laws_FnExactShrinkBands l_aB_Coarse l_aB_Details l_aLimits aHard = true := by
  have hs := shb_same l_aB_Coarse l_aB_Details l_aLimits aHard q4 (fun d hd => (q2 d hd).1)
  rw [p_laws_FnExactShrinkBands_eq, hs]
  by_cases hL : (1048576 : Int) < (l_aLimits.length : Int)
  · rw [decide_eq_true hL]; rfl
  · rw [decide_eq_false hL, cond_false]
    rcases laws_szBands_f l_aB_Coarse l_aB_Details 1048576 (by decide) (by decide) q1 q3 q2 with h | ⟨g1, g2, g3, g4, g5⟩
    · rw [decide_eq_true h]; rfl
    · have hr := spec_ShrinkBands_len l_aB_Coarse l_aB_Details l_aLimits aHard
      have hy : ∀ y ∈ l_aB_Details, y.length < 1073741824 := fun y hy => by have := g5 y hy; omega
      have hb := spec_ShrinkBands_big l_aB_Coarse l_aB_Details l_aLimits aHard hy
      obtain ⟨e1, e2, e3⟩ := laws_heldBands_marks l_aB_Coarse l_aB_Details ω2 ω2 hy
      obtain ⟨f1, f2, f3⟩ := laws_heldBands_marks (p_spec_ShrinkBands l_aB_Coarse l_aB_Details l_aLimits aHard).1 (p_spec_ShrinkBands l_aB_Coarse l_aB_Details l_aLimits aHard).2.1 ω2 ω2 hb
      have hv := wk_eq l_aLimits.length (wkk (wk 1 l_aB_Coarse.length) l_aB_Details) ω2 ω2
      rw [decide_eq_false (show ¬ p_laws_szBands l_aB_Coarse l_aB_Details 1048576 < 0 by omega), cond_false]
      generalize p_spec_ShrinkBands l_aB_Coarse l_aB_Details l_aLimits aHard = R at *
      simp only [p_laws_markBands, f1, laws_eqFloat32S_self, laws_eqBands_self, Bool.not_true, cond_false, beq_self_eq_true, bne_self_eq_false,
        decide_eq_false (show ¬ wk (wkk (wk 1 l_aB_Coarse.length) l_aB_Details) l_aLimits.length < (0 : Int) by omega), decide_eq_false (show ¬ wkk (wk 1 R.1.length) R.2.1 < (0 : Int) by omega)]
      exact cond_f (decide_eq_false (show ¬ wk (wkk (wk 1 l_aB_Coarse.length) l_aB_Details) l_aLimits.length < (0 : Int) by omega))
/-! laws_FnExactShrinkBands: function 6 -/
def E_laws_FnExactShrinkBands : Env := envOf [(27, S_laws_szBands), (29, S_laws_toBands), (22, S_laws_toFloat32S), (33, S_spec_ShrinkBands), (34, S_impl_ShrinkBands), (32, S_laws_eqBands), (24, S_laws_eqFloat32S), (35, S_laws_markBands), (25, S_laws_markFloat32S), (36, S_laws_heldBands)]
def F_laws_FnExactShrinkBands : List Value → AHeap → (Value → AHeap → Prop) → Prop
  | [.agg ⟨[.slice aB_Coarse_a aB_Coarse_n aB_Coarse_e, .slice aB_Details_a aB_Details_n aB_Details_e]⟩, .slice aLimits_a aLimits_n aLimits_e, .bool aHard], H, K => T_laws_FnExactShrinkBands aB_Coarse_a aB_Coarse_n aB_Coarse_e aB_Details_a aB_Details_n aB_Details_e aLimits_a aLimits_n aLimits_e aHard H fun (r1 : Bool) (H' : AHeap) => K (.bool r1) H'
  | _, _, _ => False
def S_laws_FnExactShrinkBands : FSpec := { F := F_laws_FnExactShrinkBands, quiet := false, tame := false }
theorem laws_FnExactShrinkBands_vc (aB_Coarse_a : Option Addr) (aB_Coarse_n : Nat) (aB_Coarse_e : Nat) (aB_Details_a : Option Addr) (aB_Details_n : Nat) (aB_Details_e : Nat) (aLimits_a : Option Addr) (aLimits_n : Nat) (aLimits_e : Nat) (aHard : Bool) (H : AHeap) (K : Value → AHeap → Prop) : bodyL Try.prog E_laws_FnExactShrinkBands Try.f6 [.agg #[.slice aB_Coarse_a aB_Coarse_n aB_Coarse_e, .slice aB_Details_a aB_Details_n aB_Details_e], .slice aLimits_a aLimits_n aLimits_e, .bool aHard] H K =
  (Al [.slice aB_Coarse_a aB_Coarse_n aB_Coarse_e, .slice aB_Details_a aB_Details_n aB_Details_e] H fun b1 H1 => Br (decide ((1048576 : Int) < (aLimits_n : Int))) (K (.bool true) H1) (∃ c1_a : Option Addr, ∃ c1_n : Nat, ∃ c1_e : Nat, ∃ c2_a : Option Addr, ∃ c2_n : Nat, ∃ c2_e : Nat,  rdN H1 b1 0 2 = some [.slice c1_a c1_n c1_e, .slice c2_a c2_n c2_e] ∧ T_laws_szBands c1_a c1_n c1_e c2_a c2_n c2_e 1048576 H1 fun (r1 : Int) (H2 : AHeap) => Br (decide ((r1 : Int) < 0)) (K (.bool true) H2) (∃ c3_a : Option Addr, ∃ c3_n : Nat, ∃ c3_e : Nat, ∃ c4_a : Option Addr, ∃ c4_n : Nat, ∃ c4_e : Nat,  rdN H2 b1 0 2 = some [.slice c3_a c3_n c3_e, .slice c4_a c4_n c4_e] ∧ T_laws_toBands c3_a c3_n c3_e c4_a c4_n c4_e H2 fun (a1 : Option Addr) (r2 : Nat) (r3 : Nat) (a2 : Option Addr) (r4 : Nat) (r5 : Nat) (H3 : AHeap) => T_laws_toFloat32S aLimits_a aLimits_n aLimits_e H3 fun (a3 : Option Addr) (r6 : Nat) (r7 : Nat) (H4 : AHeap) => T_spec_ShrinkBands a1 r2 r3 a2 r4 r5 a3 r6 r7 aHard H4 fun (a4 : Option Addr) (r8 : Nat) (r9 : Nat) (a5 : Option Addr) (r10 : Nat) (r11 : Nat) (r12 : Bool) (H5 : AHeap) => Al [.slice none 0 0, .slice none 0 0] H5 fun b2 H6 => isOwn H6 b2 ∧ (∃ l, rdN H6 b2 0 2 = some l) ∧ Lt (setN H6 b2 0 [.slice a4 r8 r9, .slice a5 r10 r11]) fun H7 => ∃ c5_a : Option Addr, ∃ c5_n : Nat, ∃ c5_e : Nat, ∃ c6_a : Option Addr, ∃ c6_n : Nat, ∃ c6_e : Nat,  rdN H7 b1 0 2 = some [.slice c5_a c5_n c5_e, .slice c6_a c6_n c6_e] ∧ T_laws_toBands c5_a c5_n c5_e c6_a c6_n c6_e H7 fun (a6 : Option Addr) (r13 : Nat) (r14 : Nat) (a7 : Option Addr) (r15 : Nat) (r16 : Nat) (H8 : AHeap) => Al [.slice none 0 0, .slice none 0 0] H8 fun b3 H9 => isOwn H9 b3 ∧ (∃ l, rdN H9 b3 0 2 = some l) ∧ Lt (setN H9 b3 0 [.slice a6 r13 r14, .slice a7 r15 r16]) fun H10 => T_laws_toFloat32S aLimits_a aLimits_n aLimits_e H10 fun (a8 : Option Addr) (r17 : Nat) (r18 : Nat) (H11 : AHeap) => ∃ c7_a : Option Addr, ∃ c7_n : Nat, ∃ c7_e : Nat, ∃ c8_a : Option Addr, ∃ c8_n : Nat, ∃ c8_e : Nat,  rdN H11 b3 0 2 = some [.slice c7_a c7_n c7_e, .slice c8_a c8_n c8_e] ∧ T_impl_ShrinkBands c7_a c7_n c7_e c8_a c8_n c8_e a8 r17 r18 aHard H11 fun (a9 : Option Addr) (r19 : Nat) (r20 : Nat) (a10 : Option Addr) (r21 : Nat) (r22 : Nat) (r23 : Bool) (H12 : AHeap) => Al [.slice none 0 0, .slice none 0 0] H12 fun b4 H13 => isOwn H13 b4 ∧ (∃ l, rdN H13 b4 0 2 = some l) ∧ Lt (setN H13 b4 0 [.slice a9 r19 r20, .slice a10 r21 r22]) fun H14 => ∃ c9_a : Option Addr, ∃ c9_n : Nat, ∃ c9_e : Nat, ∃ c10_a : Option Addr, ∃ c10_n : Nat, ∃ c10_e : Nat,  rdN H14 b4 0 2 = some [.slice c9_a c9_n c9_e, .slice c10_a c10_n c10_e] ∧ ∃ c11_a : Option Addr, ∃ c11_n : Nat, ∃ c11_e : Nat, ∃ c12_a : Option Addr, ∃ c12_n : Nat, ∃ c12_e : Nat,  rdN H14 b2 0 2 = some [.slice c11_a c11_n c11_e, .slice c12_a c12_n c12_e] ∧ T_laws_eqBands c9_a c9_n c9_e c10_a c10_n c10_e c11_a c11_n c11_e c12_a c12_n c12_e H14 fun (r24 : Bool) (H15 : AHeap) => Br (!r24) (K (.bool false) H15) (Br (!(r23 == r12)) (K (.bool false) H15) (∃ c13_a : Option Addr, ∃ c13_n : Nat, ∃ c13_e : Nat, ∃ c14_a : Option Addr, ∃ c14_n : Nat, ∃ c14_e : Nat,  rdN H15 b1 0 2 = some [.slice c13_a c13_n c13_e, .slice c14_a c14_n c14_e] ∧ ∃ c15_a : Option Addr, ∃ c15_n : Nat, ∃ c15_e : Nat, ∃ c16_a : Option Addr, ∃ c16_n : Nat, ∃ c16_e : Nat,  rdN H15 b3 0 2 = some [.slice c15_a c15_n c15_e, .slice c16_a c16_n c16_e] ∧ T_laws_toBands c13_a c13_n c13_e c14_a c14_n c14_e H15 fun (a11 : Option Addr) (r25 : Nat) (r26 : Nat) (a12 : Option Addr) (r27 : Nat) (r28 : Nat) (H16 : AHeap) => T_laws_eqBands c15_a c15_n c15_e c16_a c16_n c16_e a11 r25 r26 a12 r27 r28 H16 fun (r29 : Bool) (H17 : AHeap) => Br (!r29) (K (.bool false) H17) (T_laws_toFloat32S aLimits_a aLimits_n aLimits_e H17 fun (a13 : Option Addr) (r30 : Nat) (r31 : Nat) (H18 : AHeap) => T_laws_eqFloat32S a8 r17 r18 a13 r30 r31 H18 fun (r32 : Bool) (H19 : AHeap) => Br (!r32) (K (.bool false) H19) (∃ c17_a : Option Addr, ∃ c17_n : Nat, ∃ c17_e : Nat, ∃ c18_a : Option Addr, ∃ c18_n : Nat, ∃ c18_e : Nat,  rdN H19 b3 0 2 = some [.slice c17_a c17_n c17_e, .slice c18_a c18_n c18_e] ∧ T_laws_markBands c17_a c17_n c17_e c18_a c18_n c18_e 1 H19 fun (r33 : Int) (H20 : AHeap) => T_laws_markFloat32S a8 r17 r18 r33 H20 fun (r34 : Int) (H21 : AHeap) => Br (decide ((r34 : Int) < 0)) (K (.bool false) H21) (∃ c19_a : Option Addr, ∃ c19_n : Nat, ∃ c19_e : Nat, ∃ c20_a : Option Addr, ∃ c20_n : Nat, ∃ c20_e : Nat,  rdN H21 b4 0 2 = some [.slice c19_a c19_n c19_e, .slice c20_a c20_n c20_e] ∧ ∃ c21_a : Option Addr, ∃ c21_n : Nat, ∃ c21_e : Nat, ∃ c22_a : Option Addr, ∃ c22_n : Nat, ∃ c22_e : Nat,  rdN H21 b2 0 2 = some [.slice c21_a c21_n c21_e, .slice c22_a c22_n c22_e] ∧ T_laws_eqBands c19_a c19_n c19_e c20_a c20_n c20_e c21_a c21_n c21_e c22_a c22_n c22_e H21 fun (r35 : Bool) (H22 : AHeap) => Br (!r35) (K (.bool false) H22) (Br (!(r23 == r12)) (K (.bool false) H22) (∃ c23_a : Option Addr, ∃ c23_n : Nat, ∃ c23_e : Nat, ∃ c24_a : Option Addr, ∃ c24_n : Nat, ∃ c24_e : Nat,  rdN H22 b4 0 2 = some [.slice c23_a c23_n c23_e, .slice c24_a c24_n c24_e] ∧ T_laws_markBands c23_a c23_n c23_e c24_a c24_n c24_e 1 H22 fun (r36 : Int) (H23 : AHeap) => ∃ c25_a : Option Addr, ∃ c25_n : Nat, ∃ c25_e : Nat, ∃ c26_a : Option Addr, ∃ c26_n : Nat, ∃ c26_e : Nat,  rdN H23 b4 0 2 = some [.slice c25_a c25_n c25_e, .slice c26_a c26_n c26_e] ∧ T_laws_heldBands c25_a c25_n c25_e c26_a c26_n c26_e 1 H23 fun (r37 : Int) (H24 : AHeap) => Br (decide ((r37 : Int) < 0)) (K (.bool false) H24) (Br ((r37 : Int) != r36) (K (.bool false) H24) (∃ c27_a : Option Addr, ∃ c27_n : Nat, ∃ c27_e : Nat, ∃ c28_a : Option Addr, ∃ c28_n : Nat, ∃ c28_e : Nat,  rdN H24 b1 0 2 = some [.slice c27_a c27_n c27_e, .slice c28_a c28_n c28_e] ∧ T_laws_toBands c27_a c27_n c27_e c28_a c28_n c28_e H24 fun (a14 : Option Addr) (r38 : Nat) (r39 : Nat) (a15 : Option Addr) (r40 : Nat) (r41 : Nat) (H25 : AHeap) => T_laws_toFloat32S aLimits_a aLimits_n aLimits_e H25 fun (a16 : Option Addr) (r42 : Nat) (r43 : Nat) (H26 : AHeap) => T_impl_ShrinkBands a14 r38 r39 a15 r40 r41 a16 r42 r43 aHard H26 fun (a17 : Option Addr) (r44 : Nat) (r45 : Nat) (a18 : Option Addr) (r46 : Nat) (r47 : Nat) (r48 : Bool) (H27 : AHeap) => Al [.slice none 0 0, .slice none 0 0] H27 fun b5 H28 => isOwn H28 b5 ∧ (∃ l, rdN H28 b5 0 2 = some l) ∧ Lt (setN H28 b5 0 [.slice a17 r44 r45, .slice a18 r46 r47]) fun H29 => ∃ c29_a : Option Addr, ∃ c29_n : Nat, ∃ c29_e : Nat, ∃ c30_a : Option Addr, ∃ c30_n : Nat, ∃ c30_e : Nat,  rdN H29 b5 0 2 = some [.slice c29_a c29_n c29_e, .slice c30_a c30_n c30_e] ∧ ∃ c31_a : Option Addr, ∃ c31_n : Nat, ∃ c31_e : Nat, ∃ c32_a : Option Addr, ∃ c32_n : Nat, ∃ c32_e : Nat,  rdN H29 b2 0 2 = some [.slice c31_a c31_n c31_e, .slice c32_a c32_n c32_e] ∧ T_laws_eqBands c29_a c29_n c29_e c30_a c30_n c30_e c31_a c31_n c31_e c32_a c32_n c32_e H29 fun (r49 : Bool) (H30 : AHeap) => Br (!r49) (K (.bool false) H30) (Br (!(r48 == r12)) (K (.bool false) H30) (∃ c33_a : Option Addr, ∃ c33_n : Nat, ∃ c33_e : Nat, ∃ c34_a : Option Addr, ∃ c34_n : Nat, ∃ c34_e : Nat,  rdN H30 b4 0 2 = some [.slice c33_a c33_n c33_e, .slice c34_a c34_n c34_e] ∧ T_laws_heldBands c33_a c33_n c33_e c34_a c34_n c34_e 1 H30 fun (r50 : Int) (H31 : AHeap) => Br (decide ((r50 : Int) < 0)) (K (.bool false) H31) (Br ((r50 : Int) != r36) (K (.bool false) H31) (K (.bool true) H31)))))))))))))))) := by kernel_rfl
theorem E_laws_FnExactShrinkBands_ok : ∀ g, FnOk Try.prog g (E_laws_FnExactShrinkBands g) := FnOk.envOf (by
  intro x hx
  simp only [List.mem_cons, List.not_mem_nil, or_false] at hx
  rcases hx with rfl | rfl | rfl | rfl | rfl | rfl | rfl | rfl | rfl | rfl
  · exact laws_szBands_ok
  · exact laws_toBands_ok
  · exact laws_toFloat32S_ok
  · exact spec_ShrinkBands_ok
  · exact impl_ShrinkBands_ok
  · exact laws_eqBands_ok
  · exact laws_eqFloat32S_ok
  · exact laws_markBands_ok
  · exact laws_markFloat32S_ok
  · exact laws_heldBands_ok)
theorem ω9 {P : Prop} (h : P := by first | assumption | exact or_right (by assumption : _ ∧ (_ ∨ _)).2 (by omega)) : P := h
theorem ω11 {P : Prop} (h : P := by first | assumption | exact or_right (by assumption) (by omega) | exact or_right (by assumption : _ ∧ (_ ∨ _)).2 (by omega)) : P := h
set_option maxHeartbeats 1000000 in
theorem laws_FnExactShrinkBands_main (aB_Coarse_a : Option Addr) (aB_Coarse_n : Nat) (aB_Coarse_e : Nat) (aB_Details_a : Option Addr) (aB_Details_n : Nat) (aB_Details_e : Nat) (aLimits_a : Option Addr) (aLimits_n : Nat) (aLimits_e : Nat) (aHard : Bool) (H : AHeap) (K : Value → AHeap → Prop) (h : T_laws_FnExactShrinkBands aB_Coarse_a aB_Coarse_n aB_Coarse_e aB_Details_a aB_Details_n aB_Details_e aLimits_a aLimits_n aLimits_e aHard H fun (r1 : Bool) (H' : AHeap) => K (.bool r1) H') : bodyL Try.prog E_laws_FnExactShrinkBands Try.f6 [.agg #[.slice aB_Coarse_a aB_Coarse_n aB_Coarse_e, .slice aB_Details_a aB_Details_n aB_Details_e], .slice aLimits_a aLimits_n aLimits_e, .bool aHard] H K := by
  rw [laws_FnExactShrinkBands_vc]
  obtain ⟨l_aB_Coarse, l_aB_Details, l_aLimits, h_0, h_1, h_2, h_3, h_4, h_5, h_6, h_7, h_8, hk⟩ := h
  have i_aB_Coarse := h_0
  obtain rfl := i_aB_Coarse.eqn
  have i_aB_Details := h_3
  obtain rfl := i_aB_Details.eqn
  have i_aLimits := h_6
  obtain rfl := i_aLimits.eqn
  have hl := laws_FnExactShrinkBands_true l_aB_Coarse l_aB_Details l_aLimits aHard h_1 h_2 h_4 h_5 h_7 h_8
  have e : p_laws_FnExactShrinkBands l_aB_Coarse l_aB_Details l_aLimits aHard = _ := rfl
  have e := e.trans (p_laws_FnExactShrinkBands_eq l_aB_Coarse l_aB_Details l_aLimits aHard)
  have e := hl.symm.trans e
  have g0 := Grow.refl H
  refine Al.intro (fun b_1 H_1 hb_2 hl_3 g_4 o_5 => ?_)
  have l_7 := g_4.1
  have g_8 := g0.trans g_4
  have l_9 := g_8.1
  have w_812 := o_5.lt
  refine Br.intro (fun c_10 => ?_) (fun c_10 => ?_)
  · have e := e.trans (cond_t c_10)
    have c_10' := of_decide_eq_true c_10
    first | exact hk _ | (exfalso; cases e; done) | (rw [← e]; exact hk _)
  · have e := e.trans (cond_f c_10)
    have c_10' := of_decide_eq_false c_10
    refine ⟨aB_Coarse_a, l_aB_Coarse.length, aB_Coarse_e, aB_Details_a, l_aB_Details.length, aB_Details_e, (o_5.rdN (Nat.le_of_ble_eq_true rfl)).trans rfl, ?_⟩
    refine T_laws_szBands_i ⟨_, l_aB_Details, (i_aB_Coarse.grow g_8), (i_aB_Details.grow g_8), (by first | assumption | omega | (simp; omega)), fun  H_2 g_12  => ?_⟩
    have z_11 := laws_szBands_b l_aB_Coarse l_aB_Details (1048576 : Int) ω2 ω2 (by first | assumption | omega) (by first | assumption | omega) (by assumption)
    have l_13 := g_12.1
    have g_14 := g_8.trans g_12
    have l_15 := g_14.1
    have o_16 := o_5.grow g_12
    have w_17 := o_16.lt
    refine Br.intro (fun c_18 => ?_) (fun c_18 => ?_)
    · have e := e.trans (cond_t c_18)
      have c_18' := of_decide_eq_true c_18
      first | exact hk _ | (exfalso; cases e; done) | (rw [← e]; exact hk _)
    · have e := e.trans (cond_f c_18)
      have c_18' := of_decide_eq_false c_18
      refine ⟨aB_Coarse_a, l_aB_Coarse.length, aB_Coarse_e, aB_Details_a, l_aB_Details.length, aB_Details_e, (o_16.rdN (Nat.le_of_ble_eq_true rfl)).trans rfl, ?_⟩
      refine T_laws_toBands_i ⟨_, l_aB_Details, (i_aB_Coarse.grow g_14), (i_aB_Details.grow g_14), ω0, ω0, (by first | assumption | exact or_right (by assumption) (by omega) | exact or_right (by assumption : _ ∧ (_ ∨ _)).2 (by omega) | (intro y hy; simp only [List.mem_cons, List.not_mem_nil, or_false] at hy; first | omega | (subst hy; omega) | (rcases hy with rfl | rfl <;> omega) | (rcases hy with rfl | rfl | rfl <;> omega))), fun a_19 n_20 e_21 a_23 n_24 e_25 H_3 g_27 lo_33 e_34 e_35 s_36 r_22 r_26 => ?_⟩
      have l_28 := g_27.1
      have g_29 := g_14.trans g_27
      have l_30 := g_29.1
      have o_31 := o_16.grow g_27
      have w_32 := o_31.lt
      obtain rfl := r_22.isL.eqn
      have u_37 := r_22.up
      have u_38 := r_22.lo
      obtain rfl := r_26.isL.eqn
      have u_40 := r_26.up
      have u_41 := r_26.lo
      refine T_laws_toFloat32S_i ⟨_, (i_aLimits.grow g_29), ω0, fun a_43 n_44 e_45 H_4 g_47 r_46 => ?_⟩
      have l_48 := g_47.1
      have g_49 := g_29.trans g_47
      have l_50 := g_49.1
      have o_51 := o_31.grow g_47
      have w_52 := o_51.lt
      have r_53 := r_22.grow g_47
      have r_54 := r_26.grow g_47
      obtain rfl := r_46.isL.eqn
      have u_55 := r_46.up
      have u_56 := r_46.lo
      refine T_spec_ShrinkBands_i ⟨_, l_aB_Details, _, r_53.isL, r_54.isL, r_46.isL, ω0, ω0, ω0, (by first | assumption | exact or_right (by assumption) (by omega) | exact or_right (by assumption : _ ∧ (_ ∨ _)).2 (by omega) | (intro y hy; simp only [List.mem_cons, List.not_mem_nil, or_false] at hy; first | omega | (subst hy; omega) | (rcases hy with rfl | rfl <;> omega) | (rcases hy with rfl | rfl | rfl <;> omega))), fun a_58 n_59 e_60 a_62 n_63 e_64 H_5 g_68 r_61 r_65 => ?_⟩
      have z_66 := spec_ShrinkBands_len l_aB_Coarse l_aB_Details l_aLimits aHard
      have z_67 := spec_ShrinkBands_big l_aB_Coarse l_aB_Details l_aLimits aHard ω9
      have l_69 := g_68.1
      have g_70 := g_49.trans g_68
      have l_71 := g_70.1
      have o_72 := o_51.grow g_68
      have w_73 := o_72.lt
      have r_74 := r_53.grow g_68
      have r_75 := r_54.grow g_68
      have r_76 := r_46.grow g_68
      obtain rfl := r_61.isL.eqn
      have u_77 := r_61.up
      have u_78 := r_61.lo
      obtain rfl := r_65.isL.eqn
      have u_80 := r_65.up
      have u_81 := r_65.lo
      refine Al.intro (fun b_83 H_6 hb_84 hl_85 g_86 o_87 => ?_)
      have l_89 := g_86.1
      have g_90 := g_70.trans g_86
      have l_91 := g_90.1
      have o_92 := o_72.grow g_86
      have w_93 := o_92.lt
      have r_94 := r_74.grow g_86
      have r_95 := r_75.grow g_86
      have r_96 := r_76.grow g_86
      have r_97 := r_61.grow g_86
      have r_98 := r_65.grow g_86
      have w_811 := o_87.lt
      refine Lt.setN (n := 2) o_87 (Nat.le_of_ble_eq_true rfl) rfl (fun H_7 hl_99 o_101 k_100 => ?_)
      have o_101 : Own H_7 b_83 [.slice a_58 (((p_spec_ShrinkBands l_aB_Coarse l_aB_Details l_aLimits aHard).1).length) e_60, .slice a_62 (((p_spec_ShrinkBands l_aB_Coarse l_aB_Details l_aLimits aHard).2.1).length) e_64] := o_101
      have l_102 := k_100.1
      have g_103 := g_90.keep (b := b_83) ω2 k_100
      have l_104 := g_103.1
      have o_105 := o_92.keep ω2 k_100
      have w_106 := o_105.lt
      have r_107 := r_94.keep u_37 ω2 k_100
      have r_108 := r_95.keep ω2 k_100
      have r_109 := r_96.keep u_55 ω2 k_100
      have r_110 := r_97.keep u_77 ω2 k_100
      have r_111 := r_98.keep ω2 k_100
      have w_810 := o_101.lt
      refine ⟨aB_Coarse_a, l_aB_Coarse.length, aB_Coarse_e, aB_Details_a, l_aB_Details.length, aB_Details_e, (o_105.rdN (Nat.le_of_ble_eq_true rfl)).trans rfl, ?_⟩
      refine T_laws_toBands_i ⟨_, l_aB_Details, (i_aB_Coarse.grow g_103), (i_aB_Details.grow g_103), ω0, ω0, (by first | assumption | exact or_right (by assumption) (by omega) | exact or_right (by assumption : _ ∧ (_ ∨ _)).2 (by omega) | (intro y hy; simp only [List.mem_cons, List.not_mem_nil, or_false] at hy; first | omega | (subst hy; omega) | (rcases hy with rfl | rfl <;> omega) | (rcases hy with rfl | rfl | rfl <;> omega))), fun a_112 n_113 e_114 a_116 n_117 e_118 H_8 g_120 lo_133 e_134 e_135 s_136 r_115 r_119 => ?_⟩
      have l_121 := g_120.1
      have g_122 := g_103.trans g_120
      have l_123 := g_122.1
      have o_124 := o_105.grow g_120
      have w_125 := o_124.lt
      have o_126 := o_101.grow g_120
      have w_127 := o_126.lt
      have r_128 := r_107.grow g_120
      have r_129 := r_108.grow g_120
      have r_130 := r_109.grow g_120
      have r_131 := r_110.grow g_120
      have r_132 := r_111.grow g_120
      obtain rfl := r_115.isL.eqn
      have u_137 := r_115.up
      have u_138 := r_115.lo
      obtain rfl := r_119.isL.eqn
      have u_140 := r_119.up
      have u_141 := r_119.lo
      refine Al.intro (fun b_143 H_9 hb_144 hl_145 g_146 o_147 => ?_)
      have l_149 := g_146.1
      have g_150 := g_122.trans g_146
      have l_151 := g_150.1
      have o_152 := o_124.grow g_146
      have w_153 := o_152.lt
      have o_154 := o_126.grow g_146
      have w_155 := o_154.lt
      have r_156 := r_128.grow g_146
      have r_157 := r_129.grow g_146
      have r_158 := r_130.grow g_146
      have r_159 := r_131.grow g_146
      have r_160 := r_132.grow g_146
      have r_161 := r_115.grow g_146
      have r_162 := r_119.grow g_146
      have w_809 := o_147.lt
      refine Lt.setN (n := 2) o_147 (Nat.le_of_ble_eq_true rfl) rfl (fun H_10 hl_163 o_165 k_164 => ?_)
      have o_165 : Own H_10 b_143 [.slice a_112 ((l_aB_Coarse).length) e_114, .slice a_116 ((l_aB_Details).length) e_118] := o_165
      have l_166 := k_164.1
      have g_167 := g_150.keep (b := b_143) ω2 k_164
      have l_168 := g_167.1
      have o_169 := o_152.keep ω2 k_164
      have w_170 := o_169.lt
      have o_171 := o_154.keep ω2 k_164
      have w_172 := o_171.lt
      have r_173 := r_156.keep u_37 ω2 k_164
      have r_174 := r_157.keep ω2 k_164
      have r_175 := r_158.keep u_55 ω2 k_164
      have r_176 := r_159.keep u_77 ω2 k_164
      have r_177 := r_160.keep ω2 k_164
      have r_178 := r_161.keep u_137 ω2 k_164
      have r_179 := r_162.keep ω2 k_164
      have w_808 := o_165.lt
      refine T_laws_toFloat32S_i ⟨_, (i_aLimits.grow g_167), ω0, fun a_180 n_181 e_182 H_11 g_184 r_183 => ?_⟩
      have l_185 := g_184.1
      have g_186 := g_167.trans g_184
      have l_187 := g_186.1
      have o_188 := o_169.grow g_184
      have w_189 := o_188.lt
      have o_190 := o_171.grow g_184
      have w_191 := o_190.lt
      have o_192 := o_165.grow g_184
      have w_193 := o_192.lt
      have r_194 := r_173.grow g_184
      have r_195 := r_174.grow g_184
      have r_196 := r_175.grow g_184
      have r_197 := r_176.grow g_184
      have r_198 := r_177.grow g_184
      have r_199 := r_178.grow g_184
      have r_200 := r_179.grow g_184
      obtain rfl := r_183.isL.eqn
      have u_201 := r_183.up
      have u_202 := r_183.lo
      refine ⟨a_112, (l_aB_Coarse).length, e_114, a_116, (l_aB_Details).length, e_118, (o_192.rdN (Nat.le_of_ble_eq_true rfl)).trans rfl, ?_⟩
      refine T_impl_ShrinkBands_i ⟨_, l_aB_Details, _, r_199.isL, r_200.isL, r_183.isL, ω0, ω0, ω0, (by first | assumption | exact or_right (by assumption) (by omega) | exact or_right (by assumption : _ ∧ (_ ∨ _)).2 (by omega) | (intro y hy; simp only [List.mem_cons, List.not_mem_nil, or_false] at hy; first | omega | (subst hy; omega) | (rcases hy with rfl | rfl <;> omega) | (rcases hy with rfl | rfl | rfl <;> omega))), fun a_204 n_205 e_206 a_208 n_209 e_210 H_12 g_214 lo_232 e_233 e_234 s_235 r_207 r_211 => ?_⟩
      have z_212 := impl_ShrinkBands_len l_aB_Coarse l_aB_Details l_aLimits aHard
      have z_213 := impl_ShrinkBands_big l_aB_Coarse l_aB_Details l_aLimits aHard ω9
      have l_215 := g_214.1
      have g_216 := g_186.trans g_214
      have l_217 := g_216.1
      have o_218 := o_188.grow g_214
      have w_219 := o_218.lt
      have o_220 := o_190.grow g_214
      have w_221 := o_220.lt
      have o_222 := o_192.grow g_214
      have w_223 := o_222.lt
      have r_224 := r_194.grow g_214
      have r_225 := r_195.grow g_214
      have r_226 := r_196.grow g_214
      have r_227 := r_197.grow g_214
      have r_228 := r_198.grow g_214
      have r_229 := r_199.grow g_214
      have r_230 := r_200.grow g_214
      have r_231 := r_183.grow g_214
      obtain rfl := r_207.isL.eqn
      have u_236 := r_207.up
      have u_237 := r_207.lo
      obtain rfl := r_211.isL.eqn
      have u_239 := r_211.up
      have u_240 := r_211.lo
      refine Al.intro (fun b_242 H_13 hb_243 hl_244 g_245 o_246 => ?_)
      have l_248 := g_245.1
      have g_249 := g_216.trans g_245
      have l_250 := g_249.1
      have o_251 := o_218.grow g_245
      have w_252 := o_251.lt
      have o_253 := o_220.grow g_245
      have w_254 := o_253.lt
      have o_255 := o_222.grow g_245
      have w_256 := o_255.lt
      have r_257 := r_224.grow g_245
      have r_258 := r_225.grow g_245
      have r_259 := r_226.grow g_245
      have r_260 := r_227.grow g_245
      have r_261 := r_228.grow g_245
      have r_262 := r_229.grow g_245
      have r_263 := r_230.grow g_245
      have r_264 := r_231.grow g_245
      have r_265 := r_207.grow g_245
      have r_266 := r_211.grow g_245
      have w_807 := o_246.lt
      refine Lt.setN (n := 2) o_246 (Nat.le_of_ble_eq_true rfl) rfl (fun H_14 hl_267 o_269 k_268 => ?_)
      have o_269 : Own H_14 b_242 [.slice a_204 (((p_impl_ShrinkBands l_aB_Coarse l_aB_Details l_aLimits aHard).1).length) e_206, .slice a_208 (((p_impl_ShrinkBands l_aB_Coarse l_aB_Details l_aLimits aHard).2.1).length) e_210] := o_269
      have l_270 := k_268.1
      have g_271 := g_249.keep (b := b_242) ω2 k_268
      have l_272 := g_271.1
      have o_273 := o_251.keep ω2 k_268
      have w_274 := o_273.lt
      have o_275 := o_253.keep ω2 k_268
      have w_276 := o_275.lt
      have o_277 := o_255.keep ω2 k_268
      have w_278 := o_277.lt
      have r_279 := r_257.keep u_37 ω2 k_268
      have r_280 := r_258.keep ω2 k_268
      have r_281 := r_259.keep u_55 ω2 k_268
      have r_282 := r_260.keep u_77 ω2 k_268
      have r_283 := r_261.keep ω2 k_268
      have r_284 := r_262.keep u_137 ω2 k_268
      have r_285 := r_263.keep ω2 k_268
      have r_286 := r_264.keep u_201 ω2 k_268
      have r_287 := r_265.keep u_236 ω2 k_268
      have r_288 := r_266.keep ω2 k_268
      have w_806 := o_269.lt
      refine ⟨a_204, ((p_impl_ShrinkBands l_aB_Coarse l_aB_Details l_aLimits aHard).1).length, e_206, a_208, ((p_impl_ShrinkBands l_aB_Coarse l_aB_Details l_aLimits aHard).2.1).length, e_210, (o_269.rdN (Nat.le_of_ble_eq_true rfl)).trans rfl, ?_⟩
      refine ⟨a_58, ((p_spec_ShrinkBands l_aB_Coarse l_aB_Details l_aLimits aHard).1).length, e_60, a_62, ((p_spec_ShrinkBands l_aB_Coarse l_aB_Details l_aLimits aHard).2.1).length, e_64, (o_275.rdN (Nat.le_of_ble_eq_true rfl)).trans rfl, ?_⟩
      refine T_laws_eqBands_i ⟨_, (p_impl_ShrinkBands l_aB_Coarse l_aB_Details l_aLimits aHard).2.1, _, (p_spec_ShrinkBands l_aB_Coarse l_aB_Details l_aLimits aHard).2.1, r_287.isL, r_288.isL, r_282.isL, r_283.isL, ω0, ω0, ω0, ω0, (by first | assumption | exact or_right (by assumption) (by omega) | exact or_right (by assumption : _ ∧ (_ ∨ _)).2 (by omega) | (intro y hy; simp only [List.mem_cons, List.not_mem_nil, or_false] at hy; first | omega | (subst hy; omega) | (rcases hy with rfl | rfl <;> omega) | (rcases hy with rfl | rfl | rfl <;> omega))), (by first | assumption | exact or_right (by assumption) (by omega) | exact or_right (by assumption : _ ∧ (_ ∨ _)).2 (by omega) | (intro y hy; simp only [List.mem_cons, List.not_mem_nil, or_false] at hy; first | omega | (subst hy; omega) | (rcases hy with rfl | rfl <;> omega) | (rcases hy with rfl | rfl | rfl <;> omega))), fun  H_15 g_289  => ?_⟩
      have l_290 := g_289.1
      have g_291 := g_271.trans g_289
      have l_292 := g_291.1
      have o_293 := o_273.grow g_289
      have w_294 := o_293.lt
      have o_295 := o_275.grow g_289
      have w_296 := o_295.lt
      have o_297 := o_277.grow g_289
      have w_298 := o_297.lt
      have o_299 := o_269.grow g_289
      have w_300 := o_299.lt
      have r_301 := r_279.grow g_289
      have r_302 := r_280.grow g_289
      have r_303 := r_281.grow g_289
      have r_304 := r_282.grow g_289
      have r_305 := r_283.grow g_289
      have r_306 := r_284.grow g_289
      have r_307 := r_285.grow g_289
      have r_308 := r_286.grow g_289
      have r_309 := r_287.grow g_289
      have r_310 := r_288.grow g_289
      refine Br.intro (fun c_311 => ?_) (fun c_311 => ?_)
      · have e := e.trans (cond_t c_311)
        have c_311n := nf_of_t c_311
        first | exact hk _ | (exfalso; cases e; done) | (rw [← e]; exact hk _)
      · have e := e.trans (cond_f c_311)
        have c_311n := nt_of_f c_311
        refine Br.intro (fun c_312 => ?_) (fun c_312 => ?_)
        · have e := e.trans (cond_t c_312)
          have c_312n := nf_of_t c_312
          first | exact hk _ | (exfalso; cases e; done) | (rw [← e]; exact hk _)
        · have e := e.trans (cond_f c_312)
          have c_312n := nt_of_f c_312
          refine ⟨aB_Coarse_a, l_aB_Coarse.length, aB_Coarse_e, aB_Details_a, l_aB_Details.length, aB_Details_e, (o_293.rdN (Nat.le_of_ble_eq_true rfl)).trans rfl, ?_⟩
          refine ⟨a_112, (l_aB_Coarse).length, e_114, a_116, (l_aB_Details).length, e_118, (o_297.rdN (Nat.le_of_ble_eq_true rfl)).trans rfl, ?_⟩
          refine T_laws_toBands_i ⟨_, l_aB_Details, (i_aB_Coarse.grow g_291), (i_aB_Details.grow g_291), ω0, ω0, (by first | assumption | exact or_right (by assumption) (by omega) | exact or_right (by assumption : _ ∧ (_ ∨ _)).2 (by omega) | (intro y hy; simp only [List.mem_cons, List.not_mem_nil, or_false] at hy; first | omega | (subst hy; omega) | (rcases hy with rfl | rfl <;> omega) | (rcases hy with rfl | rfl | rfl <;> omega))), fun a_313 n_314 e_315 a_317 n_318 e_319 H_16 g_321 lo_343 e_344 e_345 s_346 r_316 r_320 => ?_⟩
          have l_322 := g_321.1
          have g_323 := g_291.trans g_321
          have l_324 := g_323.1
          have o_325 := o_293.grow g_321
          have w_326 := o_325.lt
          have o_327 := o_295.grow g_321
          have w_328 := o_327.lt
          have o_329 := o_297.grow g_321
          have w_330 := o_329.lt
          have o_331 := o_299.grow g_321
          have w_332 := o_331.lt
          have r_333 := r_301.grow g_321
          have r_334 := r_302.grow g_321
          have r_335 := r_303.grow g_321
          have r_336 := r_304.grow g_321
          have r_337 := r_305.grow g_321
          have r_338 := r_306.grow g_321
          have r_339 := r_307.grow g_321
          have r_340 := r_308.grow g_321
          have r_341 := r_309.grow g_321
          have r_342 := r_310.grow g_321
          obtain rfl := r_316.isL.eqn
          have u_347 := r_316.up
          have u_348 := r_316.lo
          obtain rfl := r_320.isL.eqn
          have u_350 := r_320.up
          have u_351 := r_320.lo
          refine T_laws_eqBands_i ⟨_, l_aB_Details, _, l_aB_Details, r_338.isL, r_339.isL, r_316.isL, r_320.isL, ω0, ω0, ω0, ω0, (by first | assumption | exact or_right (by assumption) (by omega) | exact or_right (by assumption : _ ∧ (_ ∨ _)).2 (by omega) | (intro y hy; simp only [List.mem_cons, List.not_mem_nil, or_false] at hy; first | omega | (subst hy; omega) | (rcases hy with rfl | rfl <;> omega) | (rcases hy with rfl | rfl | rfl <;> omega))), (by first | assumption | exact or_right (by assumption) (by omega) | exact or_right (by assumption : _ ∧ (_ ∨ _)).2 (by omega) | (intro y hy; simp only [List.mem_cons, List.not_mem_nil, or_false] at hy; first | omega | (subst hy; omega) | (rcases hy with rfl | rfl <;> omega) | (rcases hy with rfl | rfl | rfl <;> omega))), fun  H_17 g_353  => ?_⟩
          have l_354 := g_353.1
          have g_355 := g_323.trans g_353
          have l_356 := g_355.1
          have o_357 := o_325.grow g_353
          have w_358 := o_357.lt
          have o_359 := o_327.grow g_353
          have w_360 := o_359.lt
          have o_361 := o_329.grow g_353
          have w_362 := o_361.lt
          have o_363 := o_331.grow g_353
          have w_364 := o_363.lt
          have r_365 := r_333.grow g_353
          have r_366 := r_334.grow g_353
          have r_367 := r_335.grow g_353
          have r_368 := r_336.grow g_353
          have r_369 := r_337.grow g_353
          have r_370 := r_338.grow g_353
          have r_371 := r_339.grow g_353
          have r_372 := r_340.grow g_353
          have r_373 := r_341.grow g_353
          have r_374 := r_342.grow g_353
          have r_375 := r_316.grow g_353
          have r_376 := r_320.grow g_353
          refine Br.intro (fun c_377 => ?_) (fun c_377 => ?_)
          · have e := e.trans (cond_t c_377)
            have c_377n := nf_of_t c_377
            first | exact hk _ | (exfalso; cases e; done) | (rw [← e]; exact hk _)
          · have e := e.trans (cond_f c_377)
            have c_377n := nt_of_f c_377
            refine T_laws_toFloat32S_i ⟨_, (i_aLimits.grow g_355), ω0, fun a_378 n_379 e_380 H_18 g_382 r_381 => ?_⟩
            have l_383 := g_382.1
            have g_384 := g_355.trans g_382
            have l_385 := g_384.1
            have o_386 := o_357.grow g_382
            have w_387 := o_386.lt
            have o_388 := o_359.grow g_382
            have w_389 := o_388.lt
            have o_390 := o_361.grow g_382
            have w_391 := o_390.lt
            have o_392 := o_363.grow g_382
            have w_393 := o_392.lt
            have r_394 := r_365.grow g_382
            have r_395 := r_366.grow g_382
            have r_396 := r_367.grow g_382
            have r_397 := r_368.grow g_382
            have r_398 := r_369.grow g_382
            have r_399 := r_370.grow g_382
            have r_400 := r_371.grow g_382
            have r_401 := r_372.grow g_382
            have r_402 := r_373.grow g_382
            have r_403 := r_374.grow g_382
            have r_404 := r_375.grow g_382
            have r_405 := r_376.grow g_382
            obtain rfl := r_381.isL.eqn
            have u_406 := r_381.up
            have u_407 := r_381.lo
            refine T_laws_eqFloat32S_i ⟨_, _, r_401.isL, r_381.isL, ω0, ω0, ?_⟩
            refine Br.intro (fun c_409 => ?_) (fun c_409 => ?_)
            · have e := e.trans (cond_t c_409)
              have c_409n := nf_of_t c_409
              first | exact hk _ | (exfalso; cases e; done) | (rw [← e]; exact hk _)
            · have e := e.trans (cond_f c_409)
              have c_409n := nt_of_f c_409
              refine ⟨a_112, (l_aB_Coarse).length, e_114, a_116, (l_aB_Details).length, e_118, (o_390.rdN (Nat.le_of_ble_eq_true rfl)).trans rfl, ?_⟩
              refine T_laws_markBands_i ⟨H_7.length, lo_133, H_8.length, l_aB_Coarse, l_aB_Details, r_399, r_400, ω2, ω2, s_136, ω0, ω0, ω11, (fun H_19 k_412 o_413 o_414 => ?_)⟩
              have z_410 := laws_markBands_len l_aB_Coarse l_aB_Details (1 : Int)
              have z_411 := laws_markBands_big l_aB_Coarse l_aB_Details (1 : Int) ω9
              have l_415 := k_412.1
              have g_416 := g_384.keepR ω2 k_412
              have l_417 := g_416.1
              have o_418 := o_386.keepR ω2 k_412
              have w_419 := o_418.lt
              have o_420 := o_388.keepR ω2 k_412
              have w_421 := o_420.lt
              have o_422 := o_390.keepR ω2 k_412
              have w_423 := o_422.lt
              have o_424 := o_392.keepR ω2 k_412
              have w_425 := o_424.lt
              have r_426 := r_394.keepR (fun x hx => by have := u_37 x hx; have := u_38 x hx; omega) k_412
              have r_427 := r_395.keepR ω2 k_412
              have r_428 := r_396.keepR (fun x hx => by have := u_55 x hx; have := u_56 x hx; omega) k_412
              have r_429 := r_397.keepR (fun x hx => by have := u_77 x hx; have := u_78 x hx; omega) k_412
              have r_430 := r_398.keepR ω2 k_412
              have r_431 := r_401.keepR (fun x hx => by have := u_201 x hx; have := u_202 x hx; omega) k_412
              have r_432 := r_402.keepR (fun x hx => by have := u_236 x hx; have := u_237 x hx; omega) k_412
              have r_433 := r_403.keepR ω2 k_412
              have r_434 := r_404.keepR (fun x hx => by have := u_347 x hx; have := u_348 x hx; omega) k_412
              have r_435 := r_405.keepR ω2 k_412
              have r_436 := r_381.keepR (fun x hx => by have := u_406 x hx; have := u_407 x hx; omega) k_412
              refine T_laws_markFloat32S_i ⟨_, _, r_431, ω0, (fun H_20 k_437 o_438 => ?_)⟩
              have l_439 := k_437.1
              have g_440 := g_416.keepA (fun x hx => by have := u_202 x hx; omega) k_437
              have l_441 := g_440.1
              have o_442 := o_418.keepA (fun x hx => by have := u_202 x hx; have := u_201 x hx; omega) k_437
              have w_443 := o_442.lt
              have o_444 := o_420.keepA (fun x hx => by have := u_202 x hx; have := u_201 x hx; omega) k_437
              have w_445 := o_444.lt
              have o_446 := o_422.keepA (fun x hx => by have := u_202 x hx; have := u_201 x hx; omega) k_437
              have w_447 := o_446.lt
              have o_448 := o_424.keepA (fun x hx => by have := u_202 x hx; have := u_201 x hx; omega) k_437
              have w_449 := o_448.lt
              have r_450 := r_426.keepA (fun x y hx hy => by have := u_202 x hx; have := u_201 x hx; have := u_38 y hy; have := u_37 y hy; omega) k_437
              have r_451 := r_427.keepA (fun x hx => by have := u_202 x hx; have := u_201 x hx; omega) k_437
              have r_452 := r_428.keepA (fun x y hx hy => by have := u_202 x hx; have := u_201 x hx; have := u_56 y hy; have := u_55 y hy; omega) k_437
              have r_453 := r_429.keepA (fun x y hx hy => by have := u_202 x hx; have := u_201 x hx; have := u_78 y hy; have := u_77 y hy; omega) k_437
              have r_454 := r_430.keepA (fun x hx => by have := u_202 x hx; have := u_201 x hx; omega) k_437
              have r_455 := o_413.keepA (fun x y hx hy => by have := u_202 x hx; have := u_201 x hx; have := u_138 y hy; have := u_137 y hy; omega) k_437
              have r_456 := o_414.keepA (fun x hx => by have := u_202 x hx; have := u_201 x hx; omega) k_437
              have r_457 := r_432.keepA (fun x y hx hy => by have := u_202 x hx; have := u_201 x hx; have := u_237 y hy; have := u_236 y hy; omega) k_437
              have r_458 := r_433.keepA (fun x hx => by have := u_202 x hx; have := u_201 x hx; omega) k_437
              have r_459 := r_434.keepA (fun x y hx hy => by have := u_202 x hx; have := u_201 x hx; have := u_348 y hy; have := u_347 y hy; omega) k_437
              have r_460 := r_435.keepA (fun x hx => by have := u_202 x hx; have := u_201 x hx; omega) k_437
              have r_461 := r_436.keepA (fun x y hx hy => by have := u_202 x hx; have := u_201 x hx; have := u_407 y hy; have := u_406 y hy; omega) k_437
              refine Br.intro (fun c_462 => ?_) (fun c_462 => ?_)
              · have e := e.trans (cond_t c_462)
                have c_462' := of_decide_eq_true c_462
                first | exact hk _ | (exfalso; cases e; done) | (rw [← e]; exact hk _)
              · have e := e.trans (cond_f c_462)
                have c_462' := of_decide_eq_false c_462
                refine ⟨a_204, ((p_impl_ShrinkBands l_aB_Coarse l_aB_Details l_aLimits aHard).1).length, e_206, a_208, ((p_impl_ShrinkBands l_aB_Coarse l_aB_Details l_aLimits aHard).2.1).length, e_210, (o_448.rdN (Nat.le_of_ble_eq_true rfl)).trans rfl, ?_⟩
                refine ⟨a_58, ((p_spec_ShrinkBands l_aB_Coarse l_aB_Details l_aLimits aHard).1).length, e_60, a_62, ((p_spec_ShrinkBands l_aB_Coarse l_aB_Details l_aLimits aHard).2.1).length, e_64, (o_444.rdN (Nat.le_of_ble_eq_true rfl)).trans rfl, ?_⟩
                refine T_laws_eqBands_i ⟨_, (p_impl_ShrinkBands l_aB_Coarse l_aB_Details l_aLimits aHard).2.1, _, (p_spec_ShrinkBands l_aB_Coarse l_aB_Details l_aLimits aHard).2.1, r_457.isL, r_458.isL, r_453.isL, r_454.isL, ω0, ω0, ω0, ω0, (by first | assumption | exact or_right (by assumption) (by omega) | exact or_right (by assumption : _ ∧ (_ ∨ _)).2 (by omega) | (intro y hy; simp only [List.mem_cons, List.not_mem_nil, or_false] at hy; first | omega | (subst hy; omega) | (rcases hy with rfl | rfl <;> omega) | (rcases hy with rfl | rfl | rfl <;> omega))), (by first | assumption | exact or_right (by assumption) (by omega) | exact or_right (by assumption : _ ∧ (_ ∨ _)).2 (by omega) | (intro y hy; simp only [List.mem_cons, List.not_mem_nil, or_false] at hy; first | omega | (subst hy; omega) | (rcases hy with rfl | rfl <;> omega) | (rcases hy with rfl | rfl | rfl <;> omega))), fun  H_21 g_463  => ?_⟩
                have l_464 := g_463.1
                have g_465 := g_440.trans g_463
                have l_466 := g_465.1
                have o_467 := o_442.grow g_463
                have w_468 := o_467.lt
                have o_469 := o_444.grow g_463
                have w_470 := o_469.lt
                have o_471 := o_446.grow g_463
                have w_472 := o_471.lt
                have o_473 := o_448.grow g_463
                have w_474 := o_473.lt
                have r_475 := r_450.grow g_463
                have r_476 := r_451.grow g_463
                have r_477 := r_452.grow g_463
                have r_478 := r_453.grow g_463
                have r_479 := r_454.grow g_463
                have r_480 := r_455.grow g_463
                have r_481 := r_456.grow g_463
                have r_482 := o_438.grow g_463
                have r_483 := r_457.grow g_463
                have r_484 := r_458.grow g_463
                have r_485 := r_459.grow g_463
                have r_486 := r_460.grow g_463
                have r_487 := r_461.grow g_463
                refine Br.intro (fun c_488 => ?_) (fun c_488 => ?_)
                · have e := e.trans (cond_t c_488)
                  have c_488n := nf_of_t c_488
                  first | exact hk _ | (exfalso; cases e; done) | (rw [← e]; exact hk _)
                · have e := e.trans (cond_f c_488)
                  have c_488n := nt_of_f c_488
                  refine Br.intro (fun c_489 => ?_) (fun c_489 => ?_)
                  · have e := e.trans (cond_t c_489)
                    have c_489n := nf_of_t c_489
                    first | exact hk _ | (exfalso; cases e; done) | (rw [← e]; exact hk _)
                  · have e := e.trans (cond_f c_489)
                    have c_489n := nt_of_f c_489
                    refine ⟨a_204, ((p_impl_ShrinkBands l_aB_Coarse l_aB_Details l_aLimits aHard).1).length, e_206, a_208, ((p_impl_ShrinkBands l_aB_Coarse l_aB_Details l_aLimits aHard).2.1).length, e_210, (o_473.rdN (Nat.le_of_ble_eq_true rfl)).trans rfl, ?_⟩
                    refine T_laws_markBands_i ⟨H_11.length, lo_232, H_12.length, ((p_impl_ShrinkBands l_aB_Coarse l_aB_Details l_aLimits aHard).1), ((p_impl_ShrinkBands l_aB_Coarse l_aB_Details l_aLimits aHard).2.1), r_483, r_484, ω2, ω2, s_235, ω0, ω0, ω11, (fun H_22 k_492 o_493 o_494 => ?_)⟩
                    have z_490 := laws_markBands_len ((p_impl_ShrinkBands l_aB_Coarse l_aB_Details l_aLimits aHard).1) ((p_impl_ShrinkBands l_aB_Coarse l_aB_Details l_aLimits aHard).2.1) (1 : Int)
                    have z_491 := laws_markBands_big ((p_impl_ShrinkBands l_aB_Coarse l_aB_Details l_aLimits aHard).1) ((p_impl_ShrinkBands l_aB_Coarse l_aB_Details l_aLimits aHard).2.1) (1 : Int) ω9
                    have l_495 := k_492.1
                    have g_496 := g_465.keepR ω2 k_492
                    have l_497 := g_496.1
                    have o_498 := o_467.keepR ω2 k_492
                    have w_499 := o_498.lt
                    have o_500 := o_469.keepR ω2 k_492
                    have w_501 := o_500.lt
                    have o_502 := o_471.keepR ω2 k_492
                    have w_503 := o_502.lt
                    have o_504 := o_473.keepR ω2 k_492
                    have w_505 := o_504.lt
                    have r_506 := r_475.keepR (fun x hx => by have := u_37 x hx; have := u_38 x hx; omega) k_492
                    have r_507 := r_476.keepR ω2 k_492
                    have r_508 := r_477.keepR (fun x hx => by have := u_55 x hx; have := u_56 x hx; omega) k_492
                    have r_509 := r_478.keepR (fun x hx => by have := u_77 x hx; have := u_78 x hx; omega) k_492
                    have r_510 := r_479.keepR ω2 k_492
                    have r_511 := r_480.keepR (fun x hx => by have := u_137 x hx; have := u_138 x hx; omega) k_492
                    have r_512 := r_481.keepR ω2 k_492
                    have r_513 := r_482.keepR (fun x hx => by have := u_201 x hx; have := u_202 x hx; omega) k_492
                    have r_514 := r_485.keepR (fun x hx => by have := u_347 x hx; have := u_348 x hx; omega) k_492
                    have r_515 := r_486.keepR ω2 k_492
                    have r_516 := r_487.keepR (fun x hx => by have := u_406 x hx; have := u_407 x hx; omega) k_492
                    refine ⟨a_204, ((p_impl_ShrinkBands l_aB_Coarse l_aB_Details l_aLimits aHard).1).length, e_206, a_208, ((p_impl_ShrinkBands l_aB_Coarse l_aB_Details l_aLimits aHard).2.1).length, e_210, (o_504.rdN (Nat.le_of_ble_eq_true rfl)).trans rfl, ?_⟩
                    refine T_laws_heldBands_i ⟨_, (p_laws_markBands ((p_impl_ShrinkBands l_aB_Coarse l_aB_Details l_aLimits aHard).1) ((p_impl_ShrinkBands l_aB_Coarse l_aB_Details l_aLimits aHard).2.1) (1 : Int)).2.2, o_493.isL, o_494.isL, ω0, ω0, (by first | assumption | exact or_right (by assumption) (by omega) | exact or_right (by assumption : _ ∧ (_ ∨ _)).2 (by omega) | (intro y hy; simp only [List.mem_cons, List.not_mem_nil, or_false] at hy; first | omega | (subst hy; omega) | (rcases hy with rfl | rfl <;> omega) | (rcases hy with rfl | rfl | rfl <;> omega))), fun  H_23 g_517  => ?_⟩
                    have l_518 := g_517.1
                    have g_519 := g_496.trans g_517
                    have l_520 := g_519.1
                    have o_521 := o_498.grow g_517
                    have w_522 := o_521.lt
                    have o_523 := o_500.grow g_517
                    have w_524 := o_523.lt
                    have o_525 := o_502.grow g_517
                    have w_526 := o_525.lt
                    have o_527 := o_504.grow g_517
                    have w_528 := o_527.lt
                    have r_529 := r_506.grow g_517
                    have r_530 := r_507.grow g_517
                    have r_531 := r_508.grow g_517
                    have r_532 := r_509.grow g_517
                    have r_533 := r_510.grow g_517
                    have r_534 := r_511.grow g_517
                    have r_535 := r_512.grow g_517
                    have r_536 := r_513.grow g_517
                    have r_537 := o_493.grow g_517
                    have r_538 := o_494.grow g_517
                    have r_539 := r_514.grow g_517
                    have r_540 := r_515.grow g_517
                    have r_541 := r_516.grow g_517
                    refine Br.intro (fun c_542 => ?_) (fun c_542 => ?_)
                    · have e := e.trans (cond_t c_542)
                      have c_542' := of_decide_eq_true c_542
                      first | exact hk _ | (exfalso; cases e; done) | (rw [← e]; exact hk _)
                    · have e := e.trans (cond_f c_542)
                      have c_542' := of_decide_eq_false c_542
                      refine Br.intro (fun c_543 => ?_) (fun c_543 => ?_)
                      · have e := e.trans (cond_t c_543)
                        have c_543' := ine_t c_543
                        first | exact hk _ | (exfalso; cases e; done) | (rw [← e]; exact hk _)
                      · have e := e.trans (cond_f c_543)
                        have c_543' := ine_f c_543
                        refine ⟨aB_Coarse_a, l_aB_Coarse.length, aB_Coarse_e, aB_Details_a, l_aB_Details.length, aB_Details_e, (o_521.rdN (Nat.le_of_ble_eq_true rfl)).trans rfl, ?_⟩
                        refine T_laws_toBands_i ⟨_, l_aB_Details, (i_aB_Coarse.grow g_519), (i_aB_Details.grow g_519), ω0, ω0, (by first | assumption | exact or_right (by assumption) (by omega) | exact or_right (by assumption : _ ∧ (_ ∨ _)).2 (by omega) | (intro y hy; simp only [List.mem_cons, List.not_mem_nil, or_false] at hy; first | omega | (subst hy; omega) | (rcases hy with rfl | rfl <;> omega) | (rcases hy with rfl | rfl | rfl <;> omega))), fun a_544 n_545 e_546 a_548 n_549 e_550 H_24 g_552 lo_577 e_578 e_579 s_580 r_547 r_551 => ?_⟩
                        have l_553 := g_552.1
                        have g_554 := g_519.trans g_552
                        have l_555 := g_554.1
                        have o_556 := o_521.grow g_552
                        have w_557 := o_556.lt
                        have o_558 := o_523.grow g_552
                        have w_559 := o_558.lt
                        have o_560 := o_525.grow g_552
                        have w_561 := o_560.lt
                        have o_562 := o_527.grow g_552
                        have w_563 := o_562.lt
                        have r_564 := r_529.grow g_552
                        have r_565 := r_530.grow g_552
                        have r_566 := r_531.grow g_552
                        have r_567 := r_532.grow g_552
                        have r_568 := r_533.grow g_552
                        have r_569 := r_534.grow g_552
                        have r_570 := r_535.grow g_552
                        have r_571 := r_536.grow g_552
                        have r_572 := r_537.grow g_552
                        have r_573 := r_538.grow g_552
                        have r_574 := r_539.grow g_552
                        have r_575 := r_540.grow g_552
                        have r_576 := r_541.grow g_552
                        obtain rfl := r_547.isL.eqn
                        have u_581 := r_547.up
                        have u_582 := r_547.lo
                        obtain rfl := r_551.isL.eqn
                        have u_584 := r_551.up
                        have u_585 := r_551.lo
                        refine T_laws_toFloat32S_i ⟨_, (i_aLimits.grow g_554), ω0, fun a_587 n_588 e_589 H_25 g_591 r_590 => ?_⟩
                        have l_592 := g_591.1
                        have g_593 := g_554.trans g_591
                        have l_594 := g_593.1
                        have o_595 := o_556.grow g_591
                        have w_596 := o_595.lt
                        have o_597 := o_558.grow g_591
                        have w_598 := o_597.lt
                        have o_599 := o_560.grow g_591
                        have w_600 := o_599.lt
                        have o_601 := o_562.grow g_591
                        have w_602 := o_601.lt
                        have r_603 := r_564.grow g_591
                        have r_604 := r_565.grow g_591
                        have r_605 := r_566.grow g_591
                        have r_606 := r_567.grow g_591
                        have r_607 := r_568.grow g_591
                        have r_608 := r_569.grow g_591
                        have r_609 := r_570.grow g_591
                        have r_610 := r_571.grow g_591
                        have r_611 := r_572.grow g_591
                        have r_612 := r_573.grow g_591
                        have r_613 := r_574.grow g_591
                        have r_614 := r_575.grow g_591
                        have r_615 := r_576.grow g_591
                        have r_616 := r_547.grow g_591
                        have r_617 := r_551.grow g_591
                        obtain rfl := r_590.isL.eqn
                        have u_618 := r_590.up
                        have u_619 := r_590.lo
                        refine T_impl_ShrinkBands_i ⟨_, l_aB_Details, _, r_616.isL, r_617.isL, r_590.isL, ω0, ω0, ω0, (by first | assumption | exact or_right (by assumption) (by omega) | exact or_right (by assumption : _ ∧ (_ ∨ _)).2 (by omega) | (intro y hy; simp only [List.mem_cons, List.not_mem_nil, or_false] at hy; first | omega | (subst hy; omega) | (rcases hy with rfl | rfl <;> omega) | (rcases hy with rfl | rfl | rfl <;> omega))), fun a_621 n_622 e_623 a_625 n_626 e_627 H_26 g_631 lo_659 e_660 e_661 s_662 r_624 r_628 => ?_⟩
                        have z_629 := impl_ShrinkBands_len l_aB_Coarse l_aB_Details l_aLimits aHard
                        have z_630 := impl_ShrinkBands_big l_aB_Coarse l_aB_Details l_aLimits aHard ω9
                        have l_632 := g_631.1
                        have g_633 := g_593.trans g_631
                        have l_634 := g_633.1
                        have o_635 := o_595.grow g_631
                        have w_636 := o_635.lt
                        have o_637 := o_597.grow g_631
                        have w_638 := o_637.lt
                        have o_639 := o_599.grow g_631
                        have w_640 := o_639.lt
                        have o_641 := o_601.grow g_631
                        have w_642 := o_641.lt
                        have r_643 := r_603.grow g_631
                        have r_644 := r_604.grow g_631
                        have r_645 := r_605.grow g_631
                        have r_646 := r_606.grow g_631
                        have r_647 := r_607.grow g_631
                        have r_648 := r_608.grow g_631
                        have r_649 := r_609.grow g_631
                        have r_650 := r_610.grow g_631
                        have r_651 := r_611.grow g_631
                        have r_652 := r_612.grow g_631
                        have r_653 := r_613.grow g_631
                        have r_654 := r_614.grow g_631
                        have r_655 := r_615.grow g_631
                        have r_656 := r_616.grow g_631
                        have r_657 := r_617.grow g_631
                        have r_658 := r_590.grow g_631
                        obtain rfl := r_624.isL.eqn
                        have u_663 := r_624.up
                        have u_664 := r_624.lo
                        obtain rfl := r_628.isL.eqn
                        have u_666 := r_628.up
                        have u_667 := r_628.lo
                        refine Al.intro (fun b_669 H_27 hb_670 hl_671 g_672 o_673 => ?_)
                        have l_675 := g_672.1
                        have g_676 := g_633.trans g_672
                        have l_677 := g_676.1
                        have o_678 := o_635.grow g_672
                        have w_679 := o_678.lt
                        have o_680 := o_637.grow g_672
                        have w_681 := o_680.lt
                        have o_682 := o_639.grow g_672
                        have w_683 := o_682.lt
                        have o_684 := o_641.grow g_672
                        have w_685 := o_684.lt
                        have r_686 := r_643.grow g_672
                        have r_687 := r_644.grow g_672
                        have r_688 := r_645.grow g_672
                        have r_689 := r_646.grow g_672
                        have r_690 := r_647.grow g_672
                        have r_691 := r_648.grow g_672
                        have r_692 := r_649.grow g_672
                        have r_693 := r_650.grow g_672
                        have r_694 := r_651.grow g_672
                        have r_695 := r_652.grow g_672
                        have r_696 := r_653.grow g_672
                        have r_697 := r_654.grow g_672
                        have r_698 := r_655.grow g_672
                        have r_699 := r_656.grow g_672
                        have r_700 := r_657.grow g_672
                        have r_701 := r_658.grow g_672
                        have r_702 := r_624.grow g_672
                        have r_703 := r_628.grow g_672
                        have w_805 := o_673.lt
                        refine Lt.setN (n := 2) o_673 (Nat.le_of_ble_eq_true rfl) rfl (fun H_28 hl_704 o_706 k_705 => ?_)
                        have o_706 : Own H_28 b_669 [.slice a_621 (((p_impl_ShrinkBands l_aB_Coarse l_aB_Details l_aLimits aHard).1).length) e_623, .slice a_625 (((p_impl_ShrinkBands l_aB_Coarse l_aB_Details l_aLimits aHard).2.1).length) e_627] := o_706
                        have l_707 := k_705.1
                        have g_708 := g_676.keep (b := b_669) ω2 k_705
                        have l_709 := g_708.1
                        have o_710 := o_678.keep ω2 k_705
                        have w_711 := o_710.lt
                        have o_712 := o_680.keep ω2 k_705
                        have w_713 := o_712.lt
                        have o_714 := o_682.keep ω2 k_705
                        have w_715 := o_714.lt
                        have o_716 := o_684.keep ω2 k_705
                        have w_717 := o_716.lt
                        have r_718 := r_686.keep u_37 ω2 k_705
                        have r_719 := r_687.keep ω2 k_705
                        have r_720 := r_688.keep u_55 ω2 k_705
                        have r_721 := r_689.keep u_77 ω2 k_705
                        have r_722 := r_690.keep ω2 k_705
                        have r_723 := r_691.keep u_137 ω2 k_705
                        have r_724 := r_692.keep ω2 k_705
                        have r_725 := r_693.keep u_201 ω2 k_705
                        have r_726 := r_694.keep u_236 ω2 k_705
                        have r_727 := r_695.keep ω2 k_705
                        have r_728 := r_696.keep u_347 ω2 k_705
                        have r_729 := r_697.keep ω2 k_705
                        have r_730 := r_698.keep u_406 ω2 k_705
                        have r_731 := r_699.keep u_581 ω2 k_705
                        have r_732 := r_700.keep ω2 k_705
                        have r_733 := r_701.keep u_618 ω2 k_705
                        have r_734 := r_702.keep u_663 ω2 k_705
                        have r_735 := r_703.keep ω2 k_705
                        have w_804 := o_706.lt
                        refine ⟨a_621, ((p_impl_ShrinkBands l_aB_Coarse l_aB_Details l_aLimits aHard).1).length, e_623, a_625, ((p_impl_ShrinkBands l_aB_Coarse l_aB_Details l_aLimits aHard).2.1).length, e_627, (o_706.rdN (Nat.le_of_ble_eq_true rfl)).trans rfl, ?_⟩
                        refine ⟨a_58, ((p_spec_ShrinkBands l_aB_Coarse l_aB_Details l_aLimits aHard).1).length, e_60, a_62, ((p_spec_ShrinkBands l_aB_Coarse l_aB_Details l_aLimits aHard).2.1).length, e_64, (o_712.rdN (Nat.le_of_ble_eq_true rfl)).trans rfl, ?_⟩
                        refine T_laws_eqBands_i ⟨_, (p_impl_ShrinkBands l_aB_Coarse l_aB_Details l_aLimits aHard).2.1, _, (p_spec_ShrinkBands l_aB_Coarse l_aB_Details l_aLimits aHard).2.1, r_734.isL, r_735.isL, r_721.isL, r_722.isL, ω0, ω0, ω0, ω0, (by first | assumption | exact or_right (by assumption) (by omega) | exact or_right (by assumption : _ ∧ (_ ∨ _)).2 (by omega) | (intro y hy; simp only [List.mem_cons, List.not_mem_nil, or_false] at hy; first | omega | (subst hy; omega) | (rcases hy with rfl | rfl <;> omega) | (rcases hy with rfl | rfl | rfl <;> omega))), (by first | assumption | exact or_right (by assumption) (by omega) | exact or_right (by assumption : _ ∧ (_ ∨ _)).2 (by omega) | (intro y hy; simp only [List.mem_cons, List.not_mem_nil, or_false] at hy; first | omega | (subst hy; omega) | (rcases hy with rfl | rfl <;> omega) | (rcases hy with rfl | rfl | rfl <;> omega))), fun  H_29 g_736  => ?_⟩
                        have l_737 := g_736.1
                        have g_738 := g_708.trans g_736
                        have l_739 := g_738.1
                        have o_740 := o_710.grow g_736
                        have w_741 := o_740.lt
                        have o_742 := o_712.grow g_736
                        have w_743 := o_742.lt
                        have o_744 := o_714.grow g_736
                        have w_745 := o_744.lt
                        have o_746 := o_716.grow g_736
                        have w_747 := o_746.lt
                        have o_748 := o_706.grow g_736
                        have w_749 := o_748.lt
                        have r_750 := r_718.grow g_736
                        have r_751 := r_719.grow g_736
                        have r_752 := r_720.grow g_736
                        have r_753 := r_721.grow g_736
                        have r_754 := r_722.grow g_736
                        have r_755 := r_723.grow g_736
                        have r_756 := r_724.grow g_736
                        have r_757 := r_725.grow g_736
                        have r_758 := r_726.grow g_736
                        have r_759 := r_727.grow g_736
                        have r_760 := r_728.grow g_736
                        have r_761 := r_729.grow g_736
                        have r_762 := r_730.grow g_736
                        have r_763 := r_731.grow g_736
                        have r_764 := r_732.grow g_736
                        have r_765 := r_733.grow g_736
                        have r_766 := r_734.grow g_736
                        have r_767 := r_735.grow g_736
                        refine Br.intro (fun c_768 => ?_) (fun c_768 => ?_)
                        · have e := e.trans (cond_t c_768)
                          have c_768n := nf_of_t c_768
                          first | exact hk _ | (exfalso; cases e; done) | (rw [← e]; exact hk _)
                        · have e := e.trans (cond_f c_768)
                          have c_768n := nt_of_f c_768
                          refine Br.intro (fun c_769 => ?_) (fun c_769 => ?_)
                          · have e := e.trans (cond_t c_769)
                            have c_769n := nf_of_t c_769
                            first | exact hk _ | (exfalso; cases e; done) | (rw [← e]; exact hk _)
                          · have e := e.trans (cond_f c_769)
                            have c_769n := nt_of_f c_769
                            refine ⟨a_204, ((p_impl_ShrinkBands l_aB_Coarse l_aB_Details l_aLimits aHard).1).length, e_206, a_208, ((p_impl_ShrinkBands l_aB_Coarse l_aB_Details l_aLimits aHard).2.1).length, e_210, (o_746.rdN (Nat.le_of_ble_eq_true rfl)).trans rfl, ?_⟩
                            refine T_laws_heldBands_i ⟨_, (p_laws_markBands ((p_impl_ShrinkBands l_aB_Coarse l_aB_Details l_aLimits aHard).1) ((p_impl_ShrinkBands l_aB_Coarse l_aB_Details l_aLimits aHard).2.1) (1 : Int)).2.2, r_758.isL, r_759.isL, ω0, ω0, (by first | assumption | exact or_right (by assumption) (by omega) | exact or_right (by assumption : _ ∧ (_ ∨ _)).2 (by omega) | (intro y hy; simp only [List.mem_cons, List.not_mem_nil, or_false] at hy; first | omega | (subst hy; omega) | (rcases hy with rfl | rfl <;> omega) | (rcases hy with rfl | rfl | rfl <;> omega))), fun  H_30 g_770  => ?_⟩
                            have l_771 := g_770.1
                            have g_772 := g_738.trans g_770
                            have l_773 := g_772.1
                            have o_774 := o_740.grow g_770
                            have w_775 := o_774.lt
                            have o_776 := o_742.grow g_770
                            have w_777 := o_776.lt
                            have o_778 := o_744.grow g_770
                            have w_779 := o_778.lt
                            have o_780 := o_746.grow g_770
                            have w_781 := o_780.lt
                            have o_782 := o_748.grow g_770
                            have w_783 := o_782.lt
                            have r_784 := r_750.grow g_770
                            have r_785 := r_751.grow g_770
                            have r_786 := r_752.grow g_770
                            have r_787 := r_753.grow g_770
                            have r_788 := r_754.grow g_770
                            have r_789 := r_755.grow g_770
                            have r_790 := r_756.grow g_770
                            have r_791 := r_757.grow g_770
                            have r_792 := r_758.grow g_770
                            have r_793 := r_759.grow g_770
                            have r_794 := r_760.grow g_770
                            have r_795 := r_761.grow g_770
                            have r_796 := r_762.grow g_770
                            have r_797 := r_763.grow g_770
                            have r_798 := r_764.grow g_770
                            have r_799 := r_765.grow g_770
                            have r_800 := r_766.grow g_770
                            have r_801 := r_767.grow g_770
                            refine Br.intro (fun c_802 => ?_) (fun c_802 => ?_)
                            · have e := e.trans (cond_t c_802)
                              have c_802' := of_decide_eq_true c_802
                              first | exact hk _ | (exfalso; cases e; done) | (rw [← e]; exact hk _)
                            · have e := e.trans (cond_f c_802)
                              have c_802' := of_decide_eq_false c_802
                              refine Br.intro (fun c_803 => ?_) (fun c_803 => ?_)
                              · have e := e.trans (cond_t c_803)
                                have c_803' := ine_t c_803
                                first | exact hk _ | (exfalso; cases e; done) | (rw [← e]; exact hk _)
                              · have e := e.trans (cond_f c_803)
                                have c_803' := ine_f c_803
                                first | exact hk _ | (exfalso; cases e; done) | (rw [← e]; exact hk _)
theorem laws_FnExactShrinkBands_ok : FnOk Try.prog 6 S_laws_FnExactShrinkBands := by
  refine FnOk.body mix_ok E_laws_FnExactShrinkBands_ok Try.func6 rfl (by kernel_rfl) (by kernel_rfl) ?_ ?_ ?_ ?_ ?_
  · intro args H K K' h hk
    simp only [S_laws_FnExactShrinkBands] at *
    unfold F_laws_FnExactShrinkBands at *
    split at hk
    · obtain ⟨l_aB_Coarse, l_aB_Details, l_aLimits, h_0, h_1, h_2, h_3, h_4, h_5, h_6, h_7, h_8, k⟩ := hk
      exact ⟨l_aB_Coarse, l_aB_Details, l_aLimits, h_0, h_1, h_2, h_3, h_4, h_5, h_6, h_7, h_8, (fun H' => h _ _ (k H'))⟩
    · exact hk.elim
  · intro hq; cases hq
  · intro args H K hk
    simp only [S_laws_FnExactShrinkBands] at *
    unfold F_laws_FnExactShrinkBands at *
    split at hk
    · obtain ⟨l_aB_Coarse, l_aB_Details, l_aLimits, h_0, h_1, h_2, h_3, h_4, h_5, h_6, h_7, h_8, k⟩ := hk
      exact ⟨_, _, k []⟩
    · exact hk.elim
  · intro hq; cases hq
  · have mm := @laws_FnExactShrinkBands_main
    have ml := fun (args : List Value) (H : AHeap) (K : Value → AHeap → Prop) => bodyL_body (P := Try.prog) (env := E_laws_FnExactShrinkBands ) (fn := Try.f6) (args := args) (H := H) (K := K) E_laws_FnExactShrinkBands_ok 
    revert mm ml
    generalize bodyK Try.prog E_laws_FnExactShrinkBands Try.f6 = Q
    generalize bodyL Try.prog E_laws_FnExactShrinkBands Try.f6 = QL
    intro mm ml args H K hk
    simp only [S_laws_FnExactShrinkBands] at *
    unfold F_laws_FnExactShrinkBands at *
    split at hk
    · exact ml _ H K (mm _ _ _ _ _ _ _ _ _ _ H K hk)
    · exact hk.elim
end Go.Proofs.Ytbnplefohfamnaa.Ai
