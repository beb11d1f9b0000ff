/- What functions of the program come to on the abstract machine, and that they do so; printed by a program of mine around proofs of mine. -/
import Derived.Test.YtghkkclonabpkabFFnExactBreaksOf1
set_option linter.unusedVariables false
set_option linter.unusedSimpArgs false
set_option maxRecDepth 100000
namespace Go.Proofs.Ytghkkclonabpkab.Ai
open Go
attribute [local irreducible] bodyK

def p_laws_heldInt64S_l1 (l_a : List Int) (k : Int) : Nat → Int → Int → Int → Int
  | 0, _, _, _ => 0
  | μ + 1, k_1, t4, i => (bif decide ((i : Int) < (l_a.length : Int)) then (bif (((l_a).getD (i : Int).toNat 0) : Int) != k_1 then ((-1) : Int) else (p_laws_heldInt64S_l1 l_a k μ (IntKind.wrap .i64 (k_1 + 1)) t4 (i + 1))) else k_1)
theorem p_laws_heldInt64S_l1_s (l_a : List Int) (k : Int) (μ : Nat) (k_1 : Int) (t4 : Int) (i : Int) : p_laws_heldInt64S_l1 l_a k (μ + 1) k_1 t4 i = (bif decide ((i : Int) < (l_a.length : Int)) then (bif (((l_a).getD (i : Int).toNat 0) : Int) != k_1 then ((-1) : Int) else (p_laws_heldInt64S_l1 l_a k μ (IntKind.wrap .i64 (k_1 + 1)) t4 (i + 1))) else k_1) := rfl
def p_laws_heldInt64S (l_a : List Int) (k : Int) : Int := (p_laws_heldInt64S_l1 l_a k (Int.toNat ((l_a.length : Int) - (0 : Int)) + 1) k (0 : Int) (0 : Int))
theorem p_laws_heldInt64S_eq (l_a : List Int) (k : Int) : p_laws_heldInt64S l_a k = (p_laws_heldInt64S_l1 l_a k (Int.toNat ((l_a.length : Int) - (0 : Int)) + 1) k (0 : Int) (0 : Int)) := rfl
def T_laws_heldInt64S (a_a : Option Addr) (a_n : Nat) (a_e : Nat) (k : Int) (H : AHeap) (K : Int → AHeap → Prop) : Prop := ∃ (l_a : List Int), IsL fI H a_a a_n l_a ∧ l_a.length < 1073741824 ∧ K (p_laws_heldInt64S l_a k) H
theorem T_laws_heldInt64S_i {a_a : Option Addr} {a_n : Nat} {a_e : Nat} {k : Int} {H : AHeap} {K : Int → AHeap → Prop} (h : ∃ (l_a : List Int), IsL fI H a_a a_n l_a ∧ l_a.length < 1073741824 ∧ K (p_laws_heldInt64S l_a k) H) : T_laws_heldInt64S a_a a_n a_e k H K := h
theorem laws_heldInt64S_go (k0 : Int) : ∀ (μ : Nat) (i : Nat) (pre : List Int) (k t : Int) (n : Nat), pre.length = i → n < μ →
    p_laws_heldInt64S_l1 (pre ++ marks (fun n : Int => n) k n) k0 μ k t (i : Int) = wk k n := by
  intro μ
  induction μ with
  | zero => intro i pre k t n _ h; omega
  | succ μ ih =>
    intro i pre k t n hp hm
    rw [p_laws_heldInt64S_l1_s]
    have hl : (pre ++ marks (fun n : Int => n) k n).length = i + n := by rw [List.length_append, hp, marks_length]
    rw [hl]
    cases n with
    | zero => rw [decide_eq_false (show ¬ (i : Int) < ((i + 0 : Nat) : Int) by omega), cond_false]; rfl
    | succ n =>
      rw [decide_eq_true (show (i : Int) < ((i + (n + 1) : Nat) : Int) by omega), cond_true, Int.toNat_natCast]
      have hx : (pre ++ marks (fun n : Int => n) k (n + 1)).getD i 0 = (fun n : Int => n) k := by
        rw [List.getD_eq_getElem?_getD, List.getElem?_append_right (by omega), hp, Nat.sub_self]; rfl
      rw [hx]
      simp only [bne_self_eq_false, cond_false]
      have := ih (i + 1) (pre ++ [(fun n : Int => n) k]) (IntKind.wrap .i64 (k + 1)) t n (by simp [hp]) (by omega)
      rw [List.append_assoc] at this
      rw [wk]; exact this
theorem laws_heldInt64S_marks (k : Int) (n : Nat) : p_laws_heldInt64S (marks (fun n : Int => n) k n) k = wk k n := by
  rw [p_laws_heldInt64S_eq]
  have := laws_heldInt64S_go k (Int.toNat (((marks (fun n : Int => n) k n).length : Int) - 0) + 1) 0 [] k 0 n rfl (by rw [marks_length]; omega)
  simpa using this
/-! laws_heldInt64S: function 37 -/
def E_laws_heldInt64S : Env := envOf []
def F_laws_heldInt64S : List Value → AHeap → (Value → AHeap → Prop) → Prop
  | [.slice a_a a_n a_e, .int .i64 k], H, K => T_laws_heldInt64S a_a a_n a_e k H fun (r1 : Int) (H' : AHeap) => K (.int .i64 r1) H'
  | _, _, _ => False
def S_laws_heldInt64S : FSpec := { F := F_laws_heldInt64S, quiet := true, tame := false }
theorem laws_heldInt64S_vc (a_a : Option Addr) (a_n : Nat) (a_e : Nat) (k : Int) (H : AHeap) (K : Value → AHeap → Prop) : bodyK Try.prog E_laws_heldInt64S Try.f37 [.slice a_a a_n a_e, .int .i64 k] H K =
  (loopK (exK Try.prog E_laws_heldInt64S (cl (cl (cr (cl (cr (bodyC Try.f37))))))) [.slice a_a a_n a_e, .int .i64 k, undef, undef, .int .i64 0, .int .i64 0, undef, undef, undef, undef, undef, undef, undef, undef, undef, undef, undef, undef, undef, undef, undef] H (blockQ 0 (seqQ (exK Try.prog E_laws_heldInt64S (cr (cr (bodyC Try.f37)))) (retK Try.prog Try.f37 K)))) := by kernel_rfl
theorem laws_heldInt64S_r1 (a_a : Option Addr) (a_e : Nat) (a_n : Nat) (k_1 : Int) (t4 : Int) (i : Int) (g6 g7 g8 g9 g10 g11 g12 g13 g14 g15 g16 g17 g18 g19 : Value) (H : AHeap) (R : Post) : exK Try.prog E_laws_heldInt64S (cl (cl (cr (cl (cr (bodyC Try.f37)))))) [.slice a_a a_n a_e, .int .i64 k_1, undef, undef, .int .i64 t4, .int .i64 i, g6, g7, g8, g9, g10, g11, g12, g13, g14, g15, g16, g17, g18, g19, undef] H R =
  (Br (decide ((i : Int) < (a_n : Int))) ((0 : Int) ≤ i ∧ i < (a_n : Int) ∧ ∃ b1 f1, (a_a : Option Addr) = some ⟨b1, f1, none⟩ ∧ ∃ x1 : Int,  rdC H b1 (f1 + (i : Int).toNat * 1) = some (.int .i64 x1) ∧ Br ((x1 : Int) != k_1) (R .ret [.slice a_a a_n a_e, .int .i64 k_1, undef, undef, .int .i64 (-1), .int .i64 i, .int .i64 i, .slice a_a a_n a_e, .int .i64 (a_n : Int), .bool (decide ((i : Int) < (a_n : Int))), g10, g11, .slice a_a a_n a_e, .int .i64 i, .pointer (some ⟨b1, f1 + (i : Int).toNat * 1, none⟩), .int .i64 x1, .int .i64 k_1, .bool ((x1 : Int) != k_1), g18, g19, undef] H) (R .normal [.slice a_a a_n a_e, .int .i64 (IntKind.wrap .i64 (k_1 + 1)), undef, undef, .int .i64 t4, .int .i64 (IntKind.wrap .i64 (i + 1)), .int .i64 i, .slice a_a a_n a_e, .int .i64 (a_n : Int), .bool (decide ((i : Int) < (a_n : Int))), .int .i64 i, .int .i64 (IntKind.wrap .i64 (i + 1)), .slice a_a a_n a_e, .int .i64 i, .pointer (some ⟨b1, f1 + (i : Int).toNat * 1, none⟩), .int .i64 x1, .int .i64 k_1, .bool ((x1 : Int) != k_1), .int .i64 k_1, .int .i64 (IntKind.wrap .i64 (k_1 + 1)), undef] H)) (R (.exit 0) [.slice a_a a_n a_e, .int .i64 k_1, undef, undef, .int .i64 t4, .int .i64 i, .int .i64 i, .slice a_a a_n a_e, .int .i64 (a_n : Int), .bool (decide ((i : Int) < (a_n : Int))), g10, g11, g12, g13, g14, g15, g16, g17, g18, g19, undef] H)) := by kernel_rfl
def laws_heldInt64S_I1 (a_a : Option Addr) (a_e : Nat) (a_n : Nat) (Inv : Nat → Int → Int → Int → AHeap → Prop) : Nat → List Value → AHeap → Prop := fun μ tm H => ∃ (k_1 : Int), ∃ (t4 : Int), ∃ (i : Int), ∃ g6 g7 g8 g9 g10 g11 g12 g13 g14 g15 g16 g17 g18 g19, tm = [.slice a_a a_n a_e, .int .i64 k_1, undef, undef, .int .i64 t4, .int .i64 i, g6, g7, g8, g9, g10, g11, g12, g13, g14, g15, g16, g17, g18, g19, undef] ∧ Inv μ k_1 t4 i H
theorem laws_heldInt64S_L1 (a_a : Option Addr) (a_e : Nat) (a_n : Nat) {Q : Post} (Inv : Nat → Int → Int → Int → AHeap → Prop) (ν : Nat) (k_1 : Int) (t4 : Int) (i : Int) (g6 g7 g8 g9 g10 g11 g12 g13 g14 g15 g16 g17 g18 g19 : Value) (H : AHeap) (h0 : Inv ν k_1 t4 i H)
    (hs : ∀ (μ : Nat) (k_1 : Int) (t4 : Int) (i : Int) (g6 g7 g8 g9 g10 g11 g12 g13 g14 g15 g16 g17 g18 g19 : Value) (H : AHeap), Inv μ k_1 t4 i H → exK Try.prog E_laws_heldInt64S (cl (cl (cr (cl (cr (bodyC Try.f37)))))) [.slice a_a a_n a_e, .int .i64 k_1, undef, undef, .int .i64 t4, .int .i64 i, g6, g7, g8, g9, g10, g11, g12, g13, g14, g15, g16, g17, g18, g19, undef] H (loopQ (laws_heldInt64S_I1 a_a a_e a_n Inv) μ Q)) : loopK (exK Try.prog E_laws_heldInt64S (cl (cl (cr (cl (cr (bodyC Try.f37))))))) [.slice a_a a_n a_e, .int .i64 k_1, undef, undef, .int .i64 t4, .int .i64 i, g6, g7, g8, g9, g10, g11, g12, g13, g14, g15, g16, g17, g18, g19, undef] H Q :=
  ⟨laws_heldInt64S_I1 a_a a_e a_n Inv, ν, ⟨k_1, t4, i, g6, g7, g8, g9, g10, g11, g12, g13, g14, g15, g16, g17, g18, g19, rfl, h0⟩, fun μ tm H h => by obtain ⟨k_1, t4, i, g6, g7, g8, g9, g10, g11, g12, g13, g14, g15, g16, g17, g18, g19, rfl, hI⟩ := h; exact hs μ k_1 t4 i g6 g7 g8 g9 g10 g11 g12 g13 g14 g15 g16 g17 g18 g19 H hI⟩
theorem laws_heldInt64S_n1 {a_a : Option Addr} {a_e : Nat} {a_n : Nat} {Q : Post} {Inv : Nat → Int → Int → Int → AHeap → Prop} {μ : Nat} (μ' : Nat) {k_1 : Int} {t4 : Int} {i : Int} {g6 g7 g8 g9 g10 g11 g12 g13 g14 g15 g16 g17 g18 g19 : Value} {H : AHeap} (hm : μ' < μ) (hI : Inv μ' k_1 t4 i H) : loopQ (laws_heldInt64S_I1 a_a a_e a_n Inv) μ Q .normal [.slice a_a a_n a_e, .int .i64 k_1, undef, undef, .int .i64 t4, .int .i64 i, g6, g7, g8, g9, g10, g11, g12, g13, g14, g15, g16, g17, g18, g19, undef] H := ⟨μ', hm, k_1, t4, i, g6, g7, g8, g9, g10, g11, g12, g13, g14, g15, g16, g17, g18, g19, rfl, hI⟩
theorem laws_heldInt64S_x1_0 (a_a : Option Addr) (a_e : Nat) (a_n : Nat) (k_1 : Int) (t4 : Int) (i : Int) (g6 g7 g8 g9 g10 g11 g12 g13 g14 g15 g16 g17 g18 g19 : Value) (H : AHeap) (K : Value → AHeap → Prop)  {I : Nat → List Value → AHeap → Prop} {μ : Nat} : loopQ I μ (blockQ 0 (seqQ (exK Try.prog E_laws_heldInt64S (cr (cr (bodyC Try.f37)))) (retK Try.prog Try.f37 K))) (.exit 0) [.slice a_a a_n a_e, .int .i64 k_1, undef, undef, .int .i64 t4, .int .i64 i, g6, g7, g8, g9, g10, g11, g12, g13, g14, g15, g16, g17, g18, g19, undef] H =
  (K (.int .i64 k_1) H) := by kernel_rfl
theorem laws_heldInt64S_x1_ret (a_a : Option Addr) (a_e : Nat) (a_n : Nat) (k_1 : Int) (t4 : Int) (i : Int) (g6 g7 g8 g9 g10 g11 g12 g13 g14 g15 g16 g17 g18 g19 : Value) (H : AHeap) (K : Value → AHeap → Prop)  {I : Nat → List Value → AHeap → Prop} {μ : Nat} : loopQ I μ (blockQ 0 (seqQ (exK Try.prog E_laws_heldInt64S (cr (cr (bodyC Try.f37)))) (retK Try.prog Try.f37 K))) .ret [.slice a_a a_n a_e, .int .i64 k_1, undef, undef, .int .i64 t4, .int .i64 i, g6, g7, g8, g9, g10, g11, g12, g13, g14, g15, g16, g17, g18, g19, undef] H =
  (K (.int .i64 t4) H) := by kernel_rfl
theorem E_laws_heldInt64S_ok : ∀ g, FnOk Try.prog g (E_laws_heldInt64S g) := FnOk.envOf (by
  intro x hx; cases hx)
set_option maxHeartbeats 1000000 in
theorem laws_heldInt64S_main (a_a : Option Addr) (a_n : Nat) (a_e : Nat) (k : Int) (H : AHeap) (K : Value → AHeap → Prop) (h : T_laws_heldInt64S a_a a_n a_e k H fun (r1 : Int) (H' : AHeap) => K (.int .i64 r1) H') : bodyK Try.prog E_laws_heldInt64S Try.f37 [.slice a_a a_n a_e, .int .i64 k] H K := by
  rw [laws_heldInt64S_vc]
  obtain ⟨l_a, i_a, bd_9, hk⟩ := h
  obtain rfl := i_a.eqn
  have e : (p_laws_heldInt64S l_a k) = _ := rfl
  have e := e.trans (p_laws_heldInt64S_eq l_a k)
  have g0 := Grow.refl H
  refine laws_heldInt64S_L1 _ _ _ (fun (μ : Nat) (k_1 : Int) (t4 : Int) (i : Int) (H_1 : AHeap) => H = H_1 ∧ (0 : Int) ≤ i ∧ i ≤ (l_a.length : Int) ∧ (l_a.length : Int) - i ≤ (μ : Int) ∧ p_laws_heldInt64S l_a k = p_laws_heldInt64S_l1 l_a k (μ + 1) k_1 t4 i) (Int.toNat ((l_a.length : Int) - (0 : Int))) _ _ _ _ _ _ _ _ _ _ _ _ _ _ _ _ _ H ?_ ?_
  · exact ⟨rfl, (by first | omega | (simp; done) | (simp; omega)), (by first | omega | (simp; done) | (simp; omega)), (by omega), e⟩
  · intro μ k_1 t4 i g6 g7 g8 g9 g10 g11 g12 g13 g14 g15 g16 g17 g18 g19 H_1 hI
    obtain ⟨rfl, v_1, v_2, hμ, e⟩ := hI
    rw [laws_heldInt64S_r1]
    have e := e.trans (p_laws_heldInt64S_l1_s l_a k μ k_1 t4 i)
    have l_3 := g0.1
    refine Br.intro (fun c_4 => ?_) (fun c_4 => ?_)
    · have e := e.trans (cond_t c_4)
      have c_4' := of_decide_eq_true c_4
      obtain ⟨b_5, f_6, q_7⟩ := ((i_a.grow g0)).pos (by first | omega | (simp only [List.length_set, List.length_replicate, List.length_append, List.length_cons, List.length_nil, List.length_take, List.length_drop, marks_length]; done) | (simp only [List.length_set, List.length_replicate, List.length_append, List.length_cons, List.length_nil, List.length_take, List.length_drop, marks_length]; omega))
      refine ⟨by omega, by omega, b_5, f_6, q_7, ?_⟩
      refine ⟨((l_a).getD (i : Int).toNat 0), (i_a).rd g0 q_7 (by omega) _, ?_⟩
      refine Br.intro (fun c_8 => ?_) (fun c_8 => ?_)
      · have e := e.trans (cond_t c_8)
        have c_8' := ine_t c_8
        rw [laws_heldInt64S_x1_ret]
        rw [e] at hk
        exact hk
      · have e := e.trans (cond_f c_8)
        have c_8' := ine_f c_8
        rw [show IntKind.wrap .i64 (i + 1) = (i + 1) from wrap64 (by omega) (by omega)]
        refine laws_heldInt64S_n1 (μ - 1) (by first | omega) ⟨rfl, (by first | omega | (simp only [List.length_append, List.length_cons, List.length_nil, List.length_set]; done) | (simp only [List.length_append, List.length_cons, List.length_nil, List.length_set]; omega)), (by first | omega | (simp only [List.length_append, List.length_cons, List.length_nil, List.length_set]; done) | (simp only [List.length_append, List.length_cons, List.length_nil, List.length_set]; omega)), (by first | omega), (by rw [show μ - 1 + 1 = μ from by first | omega]; exact e)⟩
    · have e := e.trans (cond_f c_4)
      have c_4' := of_decide_eq_false c_4
      rw [laws_heldInt64S_x1_0]
      rw [e] at hk
      exact hk
theorem laws_heldInt64S_ok : FnOk Try.prog 37 S_laws_heldInt64S := by
  refine FnOk.body mix_ok E_laws_heldInt64S_ok Try.func37 rfl (by kernel_rfl) (by kernel_rfl) ?_ ?_ ?_ ?_ ?_
  · intro args H K K' h hk
    simp only [S_laws_heldInt64S] at *
    unfold F_laws_heldInt64S at *
    split at hk
    · obtain ⟨l_a, i_a, bd_9, k⟩ := hk
      exact ⟨l_a, i_a, bd_9, h _ _ k⟩
    · exact hk.elim
  · intro _ args H K hk
    simp only [S_laws_heldInt64S] at *
    unfold F_laws_heldInt64S at *
    split at hk
    · obtain ⟨l_a, i_a, bd_9, k⟩ := hk
      exact ⟨_, k, fun K' k' => ⟨l_a, i_a, bd_9, k'⟩⟩
    · exact hk.elim
  · intro args H K hk
    simp only [S_laws_heldInt64S] at *
    unfold F_laws_heldInt64S at *
    split at hk
    · obtain ⟨l_a, i_a, bd_9, k⟩ := hk
      exact ⟨_, _, k⟩
    · exact hk.elim
  · intro hq; cases hq
  · have mm := @laws_heldInt64S_main
    revert mm
    generalize bodyK Try.prog E_laws_heldInt64S Try.f37 = Q
    intro mm args H K hk
    simp only [S_laws_heldInt64S] at *
    unfold F_laws_heldInt64S at *
    split at hk
    · exact mm _ _ _ _ H K hk
    · exact hk.elim

def p_laws_FnExactBreaksOf (l_aList : List Nat) (aLeast : Nat) (aMost : Int) : Bool := ((bif decide ((1048576 : Int) < (l_aList.length : Int)) then true else (bif !((p_laws_eqInt64S ((p_impl_BreaksOf l_aList aLeast aMost).1) ((p_spec_BreaksOf l_aList aLeast aMost).1))) then false else (bif !(((p_impl_BreaksOf l_aList aLeast aMost).2) == ((p_spec_BreaksOf l_aList aLeast aMost).2)) then false else (bif !(p_laws_eqFloat32S l_aList l_aList) then false else (bif decide (((wk (1 : Int) l_aList.length) : Int) < 0) then false else (bif !((p_laws_eqInt64S ((p_impl_BreaksOf l_aList aLeast aMost).1) ((p_spec_BreaksOf l_aList aLeast aMost).1))) then false else (bif !(((p_impl_BreaksOf l_aList aLeast aMost).2) == ((p_spec_BreaksOf l_aList aLeast aMost).2)) then false else (bif decide (((p_laws_heldInt64S ((marks (fun n : Int => n) (1 : Int) ((p_impl_BreaksOf l_aList aLeast aMost).1).length)) (1 : Int)) : Int) < 0) then false else (bif ((p_laws_heldInt64S ((marks (fun n : Int => n) (1 : Int) ((p_impl_BreaksOf l_aList aLeast aMost).1).length)) (1 : Int)) : Int) != (wk (1 : Int) ((p_impl_BreaksOf l_aList aLeast aMost).1).length) then false else (bif !((p_laws_eqInt64S ((p_impl_BreaksOf l_aList aLeast aMost).1) ((p_spec_BreaksOf l_aList aLeast aMost).1))) then false else (bif !(((p_impl_BreaksOf l_aList aLeast aMost).2) == ((p_spec_BreaksOf l_aList aLeast aMost).2)) then false else (bif decide (((p_laws_heldInt64S ((marks (fun n : Int => n) (1 : Int) ((p_impl_BreaksOf l_aList aLeast aMost).1).length)) (1 : Int)) : Int) < 0) then false else (bif ((p_laws_heldInt64S ((marks (fun n : Int => n) (1 : Int) ((p_impl_BreaksOf l_aList aLeast aMost).1).length)) (1 : Int)) : Int) != (wk (1 : Int) ((p_impl_BreaksOf l_aList aLeast aMost).1).length) then false else true))))))))))))))
theorem p_laws_FnExactBreaksOf_eq (l_aList : List Nat) (aLeast : Nat) (aMost : Int) : p_laws_FnExactBreaksOf l_aList aLeast aMost = ((bif decide ((1048576 : Int) < (l_aList.length : Int)) then true else (bif !((p_laws_eqInt64S ((p_impl_BreaksOf l_aList aLeast aMost).1) ((p_spec_BreaksOf l_aList aLeast aMost).1))) then false else (bif !(((p_impl_BreaksOf l_aList aLeast aMost).2) == ((p_spec_BreaksOf l_aList aLeast aMost).2)) then false else (bif !(p_laws_eqFloat32S l_aList l_aList) then false else (bif decide (((wk (1 : Int) l_aList.length) : Int) < 0) then false else (bif !((p_laws_eqInt64S ((p_impl_BreaksOf l_aList aLeast aMost).1) ((p_spec_BreaksOf l_aList aLeast aMost).1))) then false else (bif !(((p_impl_BreaksOf l_aList aLeast aMost).2) == ((p_spec_BreaksOf l_aList aLeast aMost).2)) then false else (bif decide (((p_laws_heldInt64S ((marks (fun n : Int => n) (1 : Int) ((p_impl_BreaksOf l_aList aLeast aMost).1).length)) (1 : Int)) : Int) < 0) then false else (bif ((p_laws_heldInt64S ((marks (fun n : Int => n) (1 : Int) ((p_impl_BreaksOf l_aList aLeast aMost).1).length)) (1 : Int)) : Int) != (wk (1 : Int) ((p_impl_BreaksOf l_aList aLeast aMost).1).length) then false else (bif !((p_laws_eqInt64S ((p_impl_BreaksOf l_aList aLeast aMost).1) ((p_spec_BreaksOf l_aList aLeast aMost).1))) then false else (bif !(((p_impl_BreaksOf l_aList aLeast aMost).2) == ((p_spec_BreaksOf l_aList aLeast aMost).2)) then false else (bif decide (((p_laws_heldInt64S ((marks (fun n : Int => n) (1 : Int) ((p_impl_BreaksOf l_aList aLeast aMost).1).length)) (1 : Int)) : Int) < 0) then false else (bif ((p_laws_heldInt64S ((marks (fun n : Int => n) (1 : Int) ((p_impl_BreaksOf l_aList aLeast aMost).1).length)) (1 : Int)) : Int) != (wk (1 : Int) ((p_impl_BreaksOf l_aList aLeast aMost).1).length) then false else true)))))))))))))) := rfl
def T_laws_FnExactBreaksOf (aList_a : Option Addr) (aList_n : Nat) (aList_e : Nat) (aLeast : Nat) (aMost : Int) (H : AHeap) (K : Bool → AHeap → Prop) : Prop := ∃ l_aList : List Nat, IsL fF H aList_a aList_n l_aList ∧ (∀ y ∈ l_aList, W32 y) ∧ l_aList.length ≤ 9223372036854775807 ∧ W32 aLeast ∧ I64 aMost ∧ ∀ H' : AHeap, K true H'
theorem mean_go (l : List Nat) : ∀ (μ s : Nat) (i : Nat), l.length - i < μ → fdiv .f32 (p_impl_added_l1 l μ s (i : Int)) (FloatKind.nearest .f32 (l.length : Int)) = p_spec_l05Mean_l1 l μ s (i : Int) := by
  intro μ
  induction μ with
  | zero => intro s i h; omega
  | succ μ ih =>
    intro s i hm
    rw [p_impl_added_l1_s, p_spec_l05Mean_l1_s]
    by_cases h : i < l.length
    · rw [decide_eq_true (show (i : Int) < (l.length : Int) by omega), cond_true, cond_true]
      exact ih _ (i + 1) (by omega)
    · rw [decide_eq_false (show ¬ (i : Int) < (l.length : Int) by omega), cond_false, cond_false]
theorem mean_same (l : List Nat) : p_impl_mean l = p_spec_l05Mean l := by
  rw [p_impl_mean_eq, p_spec_l05Mean_eq, p_impl_added_eq]
  exact mean_go l _ 0 0 (by omega)
theorem spec_fin (x : Nat) : p_spec_l01Finite x = fin .f32 x := fin_asked x
theorem impl_fin (x : Nat) : p_impl_IsFinite x = fin .f32 x := fin_asked x
theorem w32_wd {x : Nat} (h : W32 x) : Wd .f32 x := ⟨h.1, h.2⟩
theorem wd_w32 {x : Nat} (h : Wd .f32 x) : W32 x := ⟨h.1, h.2⟩
theorem l02Finite_go (l : List Nat) : ∀ (μ : Nat) (t : Bool) (i : Nat), l.length - i < μ → p_spec_l02Finite_l1 l μ t (i : Int) = (l.drop i).all (fin .f32) := by
  intro μ
  induction μ with
  | zero => intro t i h; omega
  | succ μ ih =>
    intro t i hm
    rw [p_spec_l02Finite_l1_s]
    by_cases h : i < l.length
    · rw [decide_eq_true (show (i : Int) < (l.length : Int) by omega), cond_true, Int.toNat_natCast, spec_fin]
      rw [List.drop_eq_getElem_cons h, List.all_cons, List.getD_eq_getElem?_getD, List.getElem?_eq_getElem h, Option.getD_some]
      have := ih t (i + 1) (by omega)
      cases fin .f32 l[i]
      · rfl
      · simp only [Bool.not_true, cond_false, Bool.true_and]; exact this
    · rw [decide_eq_false (show ¬ (i : Int) < (l.length : Int) by omega), cond_false, List.drop_eq_nil_of_le (by omega)]; rfl
theorem l02Finite_all (l : List Nat) : p_spec_l02Finite l = l.all (fin .f32) := by
  rw [p_spec_l02Finite_eq]
  have := l02Finite_go l (Int.toNat ((l.length : Int) - (0 : Int)) + 1) false 0 (by omega)
  simpa using this
theorem areFinite_in (ls : List (List Nat)) (t2 : Bool) (t9 : Int) (k : Bool → Int → Bool) : ∀ (μ : Nat) (t : Bool) (i : Nat), i ≤ (ls.getD t9.toNat []).length → (ls.getD t9.toNat []).length - i < μ →
    p_impl_areFinite_l2 ls t2 t9 k μ t (i : Int) = bif ((ls.getD t9.toNat []).drop i).all (fin .f32) then k t ((ls.getD t9.toNat []).length : Int) else false := by
  intro μ
  generalize hl : ls.getD t9.toNat [] = l
  induction μ with
  | zero => intro t i _ h; omega
  | succ μ ih =>
    intro t i hi hm
    rw [p_impl_areFinite_l2_s, hl]
    by_cases h : i < l.length
    · rw [decide_eq_true (show (i : Int) < (l.length : Int) by omega), cond_true, Int.toNat_natCast, impl_fin]
      rw [List.drop_eq_getElem_cons h, List.all_cons, List.getD_eq_getElem?_getD, List.getElem?_eq_getElem h, Option.getD_some]
      have := ih t (i + 1) (by omega) (by omega)
      cases fin .f32 l[i]
      · rfl
      · simp only [Bool.not_true, cond_false, Bool.true_and]; exact this
    · rw [decide_eq_false (show ¬ (i : Int) < (l.length : Int) by omega), cond_false, List.drop_eq_nil_of_le (by omega), show i = l.length by omega]; rfl
theorem areFinite_go (ls : List (List Nat)) : ∀ (μ : Nat) (t : Bool) (i : Nat), ls.length - i < μ → p_impl_areFinite_l1 ls μ t (i : Int) = (ls.drop i).all (fun l => l.all (fin .f32)) := by
  intro μ
  induction μ with
  | zero => intro t i h; omega
  | succ μ ih =>
    intro t i hm
    rw [p_impl_areFinite_l1_s]
    by_cases h : i < ls.length
    · rw [decide_eq_true (show (i : Int) < (ls.length : Int) by omega), cond_true]
      have := areFinite_in ls t (i : Int) (fun t2 t15 => p_impl_areFinite_l1 ls μ t2 ((i : Int) + 1)) (Int.toNat ((((ls).getD ((i : Int) : Int).toNat []).length : Int) - (0 : Int)) + 1) t 0 (Nat.zero_le _) (by omega)
      refine Eq.trans this ?_
      rw [Int.toNat_natCast, List.drop_zero, List.drop_eq_getElem_cons h, List.all_cons, List.getD_eq_getElem?_getD, List.getElem?_eq_getElem h, Option.getD_some]
      have := ih t (i + 1) (by omega)
      cases ls[i].all (fin .f32)
      · rfl
      · simp only [cond_true, Bool.true_and]; exact this
    · rw [decide_eq_false (show ¬ (i : Int) < (ls.length : Int) by omega), cond_false, List.drop_eq_nil_of_le (by omega)]; rfl
theorem areFinite_all (ls : List (List Nat)) : p_impl_areFinite ls = ls.all (fun l => l.all (fin .f32)) := by
  rw [p_impl_areFinite_eq]
  have := areFinite_go ls (Int.toNat ((ls.length : Int) - (0 : Int)) + 1) false 0 (by omega)
  simpa using this
theorem finite_same (l : List Nat) : p_impl_areFinite [l] = p_spec_l02Finite l := by rw [areFinite_all, l02Finite_all]; simp
theorem long_same (l : List Nat) : p_impl_isLong l = p_spec_l03Long l := by
  rw [p_impl_isLong_eq, p_spec_l03Long_eq, finite_same]
  unfold p_impl_within
  cases decide ((1 : Int) ≤ (l.length : Int)) <;> cases decide (((l.length : Int) : Int) ≤ 128) <;> rfl
theorem long_t {l : List Nat} (h : p_spec_l03Long l = true) : 1 ≤ l.length ∧ l.length ≤ 128 ∧ l.all (fin .f32) = true := by
  rw [p_spec_l03Long_eq, l02Finite_all] at h
  by_cases h1 : (1 : Int) ≤ (l.length : Int)
  · rw [decide_eq_true h1, cond_true] at h
    by_cases h2 : (l.length : Int) ≤ 128
    · rw [decide_eq_true h2, cond_true] at h; exact ⟨by omega, by omega, h⟩
    · rw [decide_eq_false h2] at h; cases h
  · rw [decide_eq_false h1] at h; cases h
theorem fin_getD {l : List Nat} (h : l.all (fin .f32) = true) (i : Nat) : fin .f32 (l.getD i 0) = true := by
  rw [List.getD_eq_getElem?_getD]
  cases hx : l[i]? with
  | none => exact fin_zero _
  | some y => exact List.all_eq_true.1 h y (List.mem_of_getElem? hx)
theorem w32_zero : W32 0 := ⟨by decide, by decide +kernel⟩
theorem w32_getD {l : List Nat} (h : ∀ y ∈ l, W32 y) (i : Nat) : W32 (l.getD i 0) := by
  rw [List.getD_eq_getElem?_getD]
  cases hx : l[i]? with
  | none => exact w32_zero
  | some y => exact h y (List.mem_of_getElem? hx)
theorem added_nn {l : List Nat} (hl : l.all (fin .f32) = true) : ∀ (μ s : Nat) (i : Int), nn .f32 s → nn .f32 (p_impl_added_l1 l μ s i) := by
  intro μ
  induction μ with
  | zero => intro s i _; exact nn_fin (fin_zero _)
  | succ μ ih =>
    intro s i hs
    rw [p_impl_added_l1_s]
    cases decide (i < (l.length : Int))
    · exact hs
    · exact ih _ _ (nn_add_fin hs (fin_getD hl _))
theorem mean_nn {l : List Nat} (hl : l.all (fin .f32) = true) (h1 : 1 ≤ l.length) (h2 : l.length < 300) : nn .f32 (p_spec_l05Mean l) := by
  rw [← mean_same, p_impl_mean_eq, p_impl_added_eq]
  have := fin_small l.length h2
  refine nn_div_fin (added_nn hl _ _ _ (nn_fin (fin_zero _))) this.1 ?_
  intro h; have := this.2.2 h; omega
theorem all_take {l : List Nat} (h : l.all (fin .f32) = true) (a b : Nat) : ((l.drop a).take b).all (fin .f32) = true :=
  List.all_eq_true.2 fun x hx => List.all_eq_true.1 h x (List.mem_of_mem_drop (List.mem_of_mem_take hx))
/-- The gain of a cut. -/
def gain (l : List Nat) (m : Nat) (k : Int) : Nat := fadd .f32 (fmul .f32 (fmul .f32 (FloatKind.nearest .f32 k) (fsub .f32 (p_spec_l05Mean ((l.drop (0 : Int).toNat).take (k - 0).toNat)) m)) (fsub .f32 (p_spec_l05Mean ((l.drop (0 : Int).toNat).take (k - 0).toNat)) m))
  (fmul .f32 (fmul .f32 (FloatKind.nearest .f32 ((l.length : Int) - k)) (fsub .f32 (p_spec_l05Mean ((l.drop k.toNat).take ((l.length : Int) - k).toNat)) m)) (fsub .f32 (p_spec_l05Mean ((l.drop k.toNat).take ((l.length : Int) - k).toNat)) m))
theorem gain_impl (l : List Nat) (m : Nat) (k : Int) : p_impl_gainAt l m k = gain l m k := by rw [p_impl_gainAt_eq]; simp only [mean_same]; rfl
theorem gain_un {l : List Nat} {m : Nat} {k : Int} (h0 : 1 ≤ k) (h1 : k < l.length) (hl : l.length < 300) : un .f32 (gain l m k) := by
  have a := fin_small k.toNat (by omega)
  have b := fin_small ((l.length : Int) - k).toNat (by omega)
  rw [Int.toNat_of_nonneg (by omega)] at a
  rw [Int.toNat_of_nonneg (by omega)] at b
  exact un_add (un_sq a.2.1) (un_sq b.2.1)
theorem nn_add_un {k : FloatKind} {x y : Nat} (hx : nn k x) (hy : nn k y) (ux : un k x) (uy : un k y) : nn k (fadd k x y) := by
  have ux' : (k.format.read x).neg = false := ux.resolve_left (by unfold nn at hx; rw [hx]; simp)
  have uy' : (k.format.read y).neg = false := uy.resolve_left (by unfold nn at hy; rw [hy]; simp)
  unfold nn at hx hy
  cases h1 : k.format.read x <;> cases h2 : k.format.read y <;> rw [h1] at hx ux' <;> rw [h2] at hy uy'
  all_goals first | (cases hx; done) | (cases hy; done) | skip
  · exact nn_some (d := _) (by rw [h1, h2]; rfl) rfl
  · exact nn_some (d := _) (by rw [h1, h2]; rfl) rfl
  · exact nn_some (d := _) (by rw [h1, h2]; rfl) rfl
  · simp only [Ieee.Datum.neg] at ux' uy'
    subst ux'; subst uy'
    exact nn_some (d := .infinity false) (by rw [h1, h2]; rfl) rfl
theorem gain_nn {l : List Nat} {m : Nat} {k : Int} (h0 : 1 ≤ k) (h1 : k < l.length) (hl : l.length < 300) (hf : l.all (fin .f32) = true) (hm : fin .f32 m = true) : nn .f32 (gain l m k) := by
  have a := fin_small k.toNat (by omega)
  have b := fin_small ((l.length : Int) - k).toNat (by omega)
  rw [Int.toNat_of_nonneg (by omega)] at a
  rw [Int.toNat_of_nonneg (by omega)] at b
  have n1 : nn .f32 (fsub .f32 (p_spec_l05Mean ((l.drop (0 : Int).toNat).take (k - 0).toNat)) m) := nn_sub_fin (mean_nn (all_take hf _ _) (by simp; omega) (by simp; omega)) hm
  have n2 : nn .f32 (fsub .f32 (p_spec_l05Mean ((l.drop k.toNat).take ((l.length : Int) - k).toNat)) m) := nn_sub_fin (mean_nn (all_take hf _ _) (by simp; omega) (by simp; omega)) hm
  refine nn_add_un (nn_sq a.1 (fun h => ?_) n1) (nn_sq b.1 (fun h => ?_) n2) (un_sq a.2.1) (un_sq b.2.1)
  · have := a.2.2 h; omega
  · have := b.2.2 h; omega
theorem gain_fin {l : List Nat} {m : Nat} {k : Int} (h : fin .f32 (gain l m k) = true) : fin .f32 m = true :=
  (fin_of_sub (fin_of_mul (fin_of_add h).1).2).2
theorem break_inf (l : List Nat) : ∀ (μ : Nat) (vat : Int) (k : Int), p_impl_BestBreak_l1 l μ vat (FloatKind.f32.format.word false FloatKind.f32.format.infRung) k = (0, 0, false) := by
  intro μ
  induction μ with
  | zero => intro vat k; rfl
  | succ μ ih =>
    intro vat k
    rw [p_impl_BestBreak_l1_s, inf_flt, ih]
    have e : fin .f32 (FloatKind.f32.format.word false FloatKind.f32.format.infRung) = false := by decide +kernel
    rw [impl_fin, e]
    cases decide (k < (l.length : Int)) <;> rfl
theorem break_nan (l : List Nat) {x : Nat} (hx : (FloatKind.f32.format.read x).isNaN = true) : ∀ (μ : Nat) (vat : Int) (k : Int), p_impl_BestBreak_l1 l μ vat x k = (0, 0, false) := by
  intro μ
  induction μ with
  | zero => intro vat k; rfl
  | succ μ ih =>
    intro vat k
    rw [p_impl_BestBreak_l1_s, flt_nan1 hx, ih]
    have e : fin .f32 x = false := by
      obtain ⟨s, t, e⟩ := isNaN_spec _ hx
      unfold fin; rw [e]
    rw [impl_fin, e]
    cases decide (k < (l.length : Int)) <;> rfl
theorem wd_gain (l : List Nat) (m : Nat) (k : Int) : Wd .f32 (gain l m k) := Wd.add _ _ _
theorem break_go {l : List Nat} (hl : l.length < 300) (hf : l.all (fin .f32) = true) (hm : fin .f32 (p_spec_l05Mean l) = true) : ∀ (μ : Nat) (vat : Int) (best : Nat) (k : Int) (t2 : Int) (t3 : Nat) (t4 : Bool), 1 ≤ k → 1 ≤ vat → fin .f32 best = true → (l.length : Int) - k < μ →
    p_impl_BestBreak_l1 l μ vat best k = p_spec_l05Break_l1 l μ t2 t3 t4 vat best k := by
  intro μ
  induction μ with
  | zero =>
    intro vat best k t2 t3 t4 _ _ _ h
    rfl
  | succ μ ih =>
    intro vat best k t2 t3 t4 hk hv hb hμ
    rw [p_impl_BestBreak_l1_s, p_spec_l05Break_l1_s, mean_same, gain_impl]
    by_cases h : k < (l.length : Int)
    · rw [decide_eq_true h, cond_true, cond_true, wrap64 (n := (l.length : Int) - k) (by omega) (by omega)]
      show _ = (bif !(p_spec_l01Finite (gain l (p_spec_l05Mean l) k)) then _ else bif vat == 0 then p_spec_l05Break_l1 l μ t2 t3 t4 k (gain l (p_spec_l05Mean l) k) (k + 1) else bif flt .f32 best (gain l (p_spec_l05Mean l) k) then p_spec_l05Break_l1 l μ t2 t3 t4 k (gain l (p_spec_l05Mean l) k) (k + 1) else _)
      rw [spec_fin]
      have hz : (vat == 0) = false := by simp; omega
      rw [hz, cond_false]
      cases hg : fin .f32 (gain l (p_spec_l05Mean l) k)
      · have := inf_of (wd_gain _ _ _) (gain_un hk h hl) (gain_nn hk h hl hf hm) hg
        rw [this, flt_inf hb, break_inf]; rfl
      · rw [Bool.not_true, cond_false]
        cases flt .f32 best (gain l (p_spec_l05Mean l) k)
        · exact ih _ _ _ _ _ _ (by omega) hv hb (by omega)
        · exact ih _ _ _ _ _ _ (by omega) hk hg (by omega)
    · rw [decide_eq_false h, cond_false, cond_false, impl_fin, hb]; rfl
theorem wk_one {n : Nat} (h : n < 1073741824) : decide (wk 1 n < (0 : Int)) = false := by
  rw [wk_eq n 1 (by omega) (by omega)]; exact decide_eq_false (by omega)
theorem long_of {l : List Nat} (h1 : 1 ≤ l.length) (h2 : l.length ≤ 128) (h3 : l.all (fin .f32) = true) : p_spec_l03Long l = true := by
  rw [p_spec_l03Long_eq, l02Finite_all, decide_eq_true (show (1 : Int) ≤ (l.length : Int) by omega), cond_true, decide_eq_true (show (l.length : Int) ≤ 128 by omega), cond_true, h3]
theorem break_sub {l : List Nat} (h1 : 2 ≤ l.length) (h2 : l.length ≤ 128) (h3 : l.all (fin .f32) = true) : p_impl_BestBreak l = p_spec_l05Break l := by
  rw [p_impl_BestBreak_eq, long_same, p_spec_l05Break_eq, long_of (by omega) h2 h3, decide_eq_false (show ¬ (l.length : Int) < 2 by omega), mean_same, gain_impl]
  simp only [Bool.not_true, cond_false]
  have e : Int.toNat ((l.length : Int) - 1) = Int.toNat ((l.length : Int) - 2) + 1 := by omega
  rw [p_spec_l05Break_l1_s, decide_eq_true (show (1 : Int) < (l.length : Int) by omega), cond_true, wrap64 (n := (l.length : Int) - 1) (by omega) (by omega)]
  show _ = (bif !(p_spec_l01Finite (gain l (p_spec_l05Mean l) 1)) then _ else bif (0 : Int) == 0 then p_spec_l05Break_l1 l (Int.toNat ((l.length : Int) - 1)) 0 0 false 1 (gain l (p_spec_l05Mean l) 1) (1 + 1) else _)
  rw [spec_fin, e]
  cases hg : fin .f32 (gain l (p_spec_l05Mean l) 1)
  · rw [Bool.not_false, cond_true]
    by_cases hn : (FloatKind.f32.format.read (gain l (p_spec_l05Mean l) 1)).isNaN = true
    · exact break_nan l hn _ _ _
    · have := inf_of (wd_gain _ _ _) (gain_un (by omega) (by omega) (by omega)) (by simpa [nn] using hn) hg
      rw [this]; exact break_inf l _ _ _
  · rw [Bool.not_true, cond_false]
    exact break_go (by omega) h3 (gain_fin hg) _ 1 _ 2 _ _ _ (by omega) (by omega) hg (by omega)
/-- How the two scans over the pieces end. -/
def Out (x : Nat) (es : List Int) (K : Bool → Int → Int → Nat → Int → List Int × Bool) (s : List Int × Bool) (r : Int × Bool × Bool) : Prop :=
  (s = ([], false) ∧ r.2.2 = false) ∨ ∃ t best vat top i, s = K t best vat top i ∧ r = (vat, decide (0 ≤ best) && fle .f32 x top, true) ∧
    (0 ≤ best → best + 1 < (es.length : Int) ∧ es.getD best.toNat 0 < vat ∧ vat < es.getD (best + 1).toNat 0)
theorem scan_same (l : List Nat) (x : Nat) (v v2 : Int) (t7 : Bool) (bs es : List Int) (K : Bool → Int → Int → Nat → Int → List Int × Bool) (hn : l.length ≤ 128) (hf : l.all (fin .f32) = true)
    (hlen : es.length = bs.length + 2) (hes : ∀ i : Int, 0 ≤ i → i ≤ (bs.length : Int) → (((([] : List Int) ++ bs) ++ [((l.length : Int) : Int)])).getD (i : Int).toNat 0 = es.getD ((i + 1) : Int).toNat 0) (hcut : Cut l.length es) (t6 : Int) (t7' t8 : Bool) :
    ∀ (μ ν : Nat) (t : Bool) (best vat : Int) (top : Nat) (found : Bool) (i : Int), 0 ≤ i → i ≤ (bs.length : Int) + 1 → ((bs.length : Int) + 1 - i).toNat < μ → ((bs.length : Int) + 1 - i).toNat < ν → found = decide (0 ≤ best) →
      (0 ≤ best → best + 1 < (es.length : Int) ∧ es.getD best.toNat 0 < vat ∧ vat < es.getD (best + 1).toNat 0) →
      Out x es K (p_spec_BreaksOf_l2 l x v v2 t7 es K μ t best vat top i) (p_impl_nextBreak_l1 l bs x ν t6 t7' t8 vat top found (es.getD (i : Int).toNat 0) i) := by
  intro μ
  induction μ with
  | zero => intro ν t best vat top found i h0 h1 h2; omega
  | succ μ ih =>
    intro ν t best vat top found i h0 h1 h2 h3 hfo hgood
    obtain _ | ν := ν
    · omega
    rw [p_spec_BreaksOf_l2_s, p_impl_nextBreak_l1_s]
    by_cases hi : i + 1 < (es.length : Int)
    · rw [decide_eq_true hi, decide_eq_true (show i < ((0 + bs.length) + 1 : Int) by omega), cond_true, cond_true, hes i h0 (by omega)]
      have c0 := cut_at hcut i
      have c1 := cut_at hcut (i + 1)
      generalize he : es.getD ((i + 1) : Int).toNat 0 = e at *
      generalize hf' : es.getD (i : Int).toNat 0 = f at *
      by_cases h : e - f < 2
      · rw [decide_eq_true h, decide_eq_false (show ¬ (1 : Int) < e - f by omega), cond_true, cond_false]
        have := ih ν t best vat top found (i + 1) (by omega) (by omega) (by omega) (by omega) hfo hgood
        rw [he] at this
        exact this
      · rw [decide_eq_false h, decide_eq_true (show (1 : Int) < e - f by omega), cond_true, cond_false]
        have hsl : ((l.drop f.toNat).take (e - f).toNat).length = (e - f).toNat := by rw [List.length_take, List.length_drop]; omega
        have hb := break_sub (l := (l.drop f.toNat).take (e - f).toNat) (by omega) (by omega) (all_take hf _ _)
        have hbin := impl_BestBreak_bin ((l.drop f.toNat).take (e - f).toNat)
        rw [hb] at hbin ⊢
        generalize p_spec_l05Break ((l.drop f.toNat).take (e - f).toNat) = B at *
        cases hB : B.2.2
        · rw [Bool.not_false, cond_true, cond_true]; exact .inl ⟨rfl, rfl⟩
        · rw [Bool.not_true, cond_false, cond_false]
          obtain ⟨b1, b2, b3⟩ := hbin
          have b4 := b3 hB
          rw [hsl] at b4
          have upd := ih ν t i (f + B.1) B.2.1 true (i + 1) (by omega) (by omega) (by omega) (by omega) (decide_eq_true h0).symm (fun _ => ⟨hi, by rw [hf']; omega, by rw [he]; omega⟩)
          have kp := ih ν t best vat top found (i + 1) (by omega) (by omega) (by omega) (by omega) hfo hgood
          rw [he] at upd kp
          by_cases hb0 : best < 0
          · rw [decide_eq_true hb0, cond_true, hfo, decide_eq_false (show ¬ (0 : Int) ≤ best by omega), Bool.not_false, cond_true]
            exact upd
          · rw [decide_eq_false hb0, cond_false, hfo, decide_eq_true (show (0 : Int) ≤ best by omega), Bool.not_true, cond_false]
            cases flt .f32 top B.2.1
            · rw [cond_false, cond_false]
              rw [hfo, decide_eq_true (show (0 : Int) ≤ best by omega)] at kp
              exact kp
            · rw [cond_true, cond_true]; exact upd
    · rw [decide_eq_false hi, decide_eq_false (show ¬ i < ((0 + bs.length) + 1 : Int) by omega), cond_false, cond_false]
      refine .inr ⟨t, best, vat, top, i, rfl, ?_, hgood⟩
      rw [hfo]
      cases decide ((0 : Int) ≤ best) <;> rfl
theorem pw_lt {es : List Int} (h : es.Pairwise (· < ·)) {i j : Nat} (hij : i ≤ j) (hj : j < es.length) : es.getD i 0 ≤ es.getD j 0 := by
  rw [List.getD_eq_getElem?_getD, List.getD_eq_getElem?_getD, List.getElem?_eq_getElem hj, List.getElem?_eq_getElem (by omega : i < es.length)]
  by_cases e : i = j
  · subst e; exact Int.le_refl _
  · exact Int.le_of_lt (List.pairwise_iff_getElem.1 h i j (by omega) hj (by omega))
theorem pw_ins {es : List Int} (h : es.Pairwise (· < ·)) {b : Nat} {x : Int} (hb : b + 1 < es.length) (h0 : es.getD b 0 < x) (h1 : x < es.getD (b + 1) 0) : (es.take (b + 1) ++ x :: es.drop (b + 1)).Pairwise (· < ·) := by
  have hA : ∀ a ∈ es.take (b + 1), a < x := by
    intro a ha
    obtain ⟨i, hi, rfl⟩ := List.mem_iff_getElem.1 ha
    rw [List.length_take] at hi
    have := pw_lt h (show i ≤ b by omega) (by omega)
    rw [List.getD_eq_getElem?_getD, List.getElem?_eq_getElem (by omega : i < es.length)] at this
    rw [List.getElem_take]
    exact Int.lt_of_le_of_lt this h0
  have hC : ∀ c ∈ es.drop (b + 1), x < c := by
    intro c hc
    obtain ⟨i, hi, rfl⟩ := List.mem_iff_getElem.1 hc
    rw [List.length_drop] at hi
    have := pw_lt h (show b + 1 ≤ b + 1 + i by omega) (by omega)
    rw [List.getD_eq_getElem?_getD (l := es) (i := b + 1 + i), List.getElem?_eq_getElem (by omega : b + 1 + i < es.length)] at this
    rw [List.getElem_drop]
    exact Int.lt_of_lt_of_le h1 this
  have hs := h
  rw [← List.take_append_drop (b + 1) es] at hs
  obtain ⟨p1, p2, p3⟩ := List.pairwise_append.1 hs
  refine List.pairwise_append.2 ⟨p1, List.pairwise_cons.2 ⟨hC, p2⟩, ?_⟩
  intro a ha c hc
  obtain rfl | hc := List.mem_cons.1 hc
  · exact hA a ha
  · exact p3 a ha c hc
theorem sort_ins {bs : List Int} {x : Int} {b : Nat} (h : (bs.take b ++ x :: bs.drop b).Pairwise (· < ·)) : p_slices_Sort_int64_int64 (bs ++ [x]) = bs.take b ++ x :: bs.drop b := by
  unfold p_slices_Sort_int64_int64
  refine List.Perm.eq_of_pairwise (le := fun x y => decide (x ≤ y) = true) ?_ (List.pairwise_mergeSort ?_ ?_ _) (h.imp fun hab => decide_eq_true (Int.le_of_lt hab)) ?_
  · intro a c _ _ h1 h2; exact Int.le_antisymm (of_decide_eq_true h1) (of_decide_eq_true h2)
  · intro a c d h1 h2; exact decide_eq_true (Int.le_trans (of_decide_eq_true h1) (of_decide_eq_true h2))
  · intro a c; simp; omega
  · refine (List.mergeSort_perm _ _).trans ?_
    refine (List.perm_append_singleton x bs).trans ?_
    have := (List.perm_middle (a := x) (l₁ := bs.take b) (l₂ := bs.drop b)).symm
    rwa [List.take_append_drop] at this
theorem breaks_go (l : List Nat) (x : Nat) (v : Int) (hn : l.length ≤ 128) (hf : l.all (fin .f32) = true) : ∀ (μ ν : Nat) (v2 : Int) (t t' : Bool) (bs : List Int), ((0 : Int) :: (bs ++ [(l.length : Int)])).Pairwise (· < ·) → (bs.length : Int) + v2 = v → 0 ≤ v2 → v2.toNat < μ → v2.toNat < ν →
    p_impl_BreaksOf_l1 l x v μ t bs = p_spec_BreaksOf_l1 l x v ν v2 t' (0 :: (bs ++ [(l.length : Int)])) := by
  intro μ
  induction μ with
  | zero => intro ν v2 t t' bs h0 h1 h2 h3; omega
  | succ μ ih =>
    intro ν v2 t t' bs hp h1 h2 h3 h4
    obtain _ | ν := ν
    · omega
    rw [p_impl_BreaksOf_l1_s, p_spec_BreaksOf_l1_s]
    generalize hE : (0 : Int) :: (bs ++ [(l.length : Int)]) = es at *
    have hlen : es.length = bs.length + 2 := by rw [← hE]; simp
    have hres : (([] : List Int) ++ (((es).drop (1 : Int).toNat).take ((((es.length : Int) - 1) : Int) - 1).toNat)) = bs := by
      rw [hlen, ← hE, List.nil_append]
      show ((bs ++ [(l.length : Int)]).take _) = bs
      rw [show ((((bs.length + 2 : Nat) : Int) - 1) - 1).toNat = bs.length by omega, List.take_left' rfl]
    simp only [hres]
    by_cases hv : 0 < v2
    · rw [decide_eq_true hv, decide_eq_true (show (bs.length : Int) < v by omega), cond_true, cond_true, p_impl_nextBreak_eq]
      have hes : ∀ i : Int, 0 ≤ i → i ≤ (bs.length : Int) → (((([] : List Int) ++ bs) ++ [((l.length : Int) : Int)])).getD (i : Int).toNat 0 = es.getD ((i + 1) : Int).toNat 0 := by
        intro i h0 h1
        rw [← hE, show (i + 1).toNat = i.toNat + 1 by omega, List.nil_append, List.getD_cons_succ]
      have hlast : es.getD (bs.length + 1) 0 = (l.length : Int) := by
        rw [← hE, List.getD_cons_succ, List.getD_eq_getElem?_getD, List.getElem?_append_right (Nat.le_refl _)]; simp
      have hfirst : es.getD 0 0 = 0 := by rw [← hE]; rfl
      have hcut : Cut l.length es := by
        intro y hy
        obtain ⟨i, hi, rfl⟩ := List.mem_iff_getElem.1 hy
        have a := pw_lt hp (Nat.zero_le i) hi
        have b := pw_lt hp (show i ≤ bs.length + 1 by omega) (by omega)
        rw [hfirst] at a
        rw [hlast] at b
        rw [List.getD_eq_getElem?_getD, List.getElem?_eq_getElem hi] at a b
        exact ⟨a, b⟩
      have sc := scan_same l x v v2 t' bs es (fun (t7_7 : Bool) (best : Int) (vat : Int) (top : Nat) (i : Int) => (bif decide ((best : Int) < 0) then (bs, true) else (bif !(fle .f32 x top) then (bs, true) else (p_spec_BreaksOf_l1 l x v ν (v2 - 1) t7_7 ((((([] : List Int) ++ (((es).drop (0 : Int).toNat).take (((best + 1) : Int) - 0).toNat)) ++ [(vat : Int)]) ++ (((es).drop ((best + 1) : Int).toNat).take (((es.length : Int) : Int) - (best + 1)).toNat))))))) hn hf hlen hes hcut 0 false false (Int.toNat ((es.length : Int) + 1 - (0 : Int)) + 1) (Int.toNat (((0 + bs.length) + 1 : Int) - (0 : Int)) + 1) t' (-1) 0 0 false 0 (by decide) (by omega) (by omega) (by omega) rfl (fun h => absurd h (by decide))
      rw [show es.getD (0 : Int).toNat 0 = 0 from hfirst] at sc
      rcases sc with ⟨s1, s2⟩ | ⟨t2, best, vat, top, i, s1, s2, s3⟩
      · rw [s1, s2]; rfl
      · rw [s1, s2]
        simp only [Bool.not_true, cond_false]
        by_cases hb : best < 0
        · rw [decide_eq_true hb, decide_eq_false (show ¬ (0 : Int) ≤ best by omega)]; rfl
        · rw [decide_eq_false hb, decide_eq_true (show (0 : Int) ≤ best by omega), Bool.true_and, cond_false]
          cases fle .f32 x top
          · rfl
          · simp only [Bool.not_true, cond_false]
            obtain ⟨g1, g2, g3⟩ := s3 (by omega)
            have eb : (best + 1).toNat = best.toNat + 1 := by omega
            rw [eb] at g3
            have hins := pw_ins hp (b := best.toNat) (by omega) g2 g3
            have hE' : ((((([] : List Int) ++ (((es).drop (0 : Int).toNat).take (((best + 1) : Int) - 0).toNat)) ++ [(vat : Int)]) ++ (((es).drop ((best + 1) : Int).toNat).take (((es.length : Int) : Int) - (best + 1)).toNat))) = es.take (best.toNat + 1) ++ vat :: es.drop (best.toNat + 1) := by
              rw [List.nil_append, show (0 : Int).toNat = 0 from rfl, List.drop_zero, show (best + 1 - 0).toNat = best.toNat + 1 by omega, eb, List.take_of_length_le (l := es.drop (best.toNat + 1)) (by rw [List.length_drop]; omega), List.append_assoc]; rfl
            rw [hE']
            have hbl : best.toNat ≤ bs.length := by omega
            have hE2 : es.take (best.toNat + 1) ++ vat :: es.drop (best.toNat + 1) = 0 :: ((bs.take best.toNat ++ vat :: bs.drop best.toNat) ++ [(l.length : Int)]) := by
              rw [← hE, List.take_succ_cons, List.drop_succ_cons, List.take_append_of_le_length hbl, List.drop_append_of_le_length hbl]; simp
            rw [hE2] at hins ⊢
            have hsub : (bs.take best.toNat ++ vat :: bs.drop best.toNat).Pairwise (· < ·) := (List.pairwise_append.1 (List.pairwise_cons.1 hins).2).1
            rw [sort_ins hsub]
            exact ih ν (v2 - 1) t t2 _ hins (by rw [List.length_append, List.length_cons, List.length_take, List.length_drop]; omega) (by omega) (by omega) (by omega)
    · rw [decide_eq_false hv, decide_eq_false (show ¬ (bs.length : Int) < v by omega)]; rfl
theorem breaks_same (l : List Nat) (x : Nat) (v : Int) : p_impl_BreaksOf l x v = p_spec_BreaksOf l x v := by
  rw [p_impl_BreaksOf_eq, p_spec_BreaksOf_eq, long_same, impl_fin, spec_fin]
  cases hl : p_spec_l03Long l
  · rfl
  · obtain ⟨h1, h2, h3⟩ := long_t hl
    cases fin .f32 x
    · rfl
    · have hw : p_impl_within v 0 16 = p_spec_l00In v 0 16 := rfl
      rw [hw]
      cases hi : p_spec_l00In v 0 16
      · rfl
      · simp only [Bool.not_true, cond_false]
        have : 0 ≤ v := by
          unfold p_spec_l00In at hi
          simp at hi; omega
        exact breaks_go l x v h2 h3 _ _ v false false [] (by simp; omega) (by simp) this (by simp) (by simp)
theorem laws_FnExactBreaksOf_true (l_aList : List Nat) (aLeast : Nat) (aMost : Int) (q0 : (∀ y ∈ l_aList, W32 y)) (q1 : W32 aLeast) (q2 : I64 aMost) : p_laws_FnExactBreaksOf l_aList aLeast aMost = true := by
  rw [p_laws_FnExactBreaksOf_eq, breaks_same]
  by_cases hL : (1048576 : Int) < (l_aList.length : Int)
  · rw [decide_eq_true hL]; rfl
  · have hr := spec_BreaksOf_len l_aList aLeast aMost
    rw [decide_eq_false hL, cond_false]
    simp only [laws_eqFloat32S_self, laws_eqInt64S_self, laws_heldInt64S_marks, Bool.not_true, cond_false, beq_self_eq_true, bne_self_eq_false, wk_one (show l_aList.length < 1073741824 by omega), wk_one (show (p_spec_BreaksOf l_aList aLeast aMost).1.length < 1073741824 by omega)]
/-! laws_FnExactBreaksOf: function 7 -/
def E_laws_FnExactBreaksOf : Env := envOf [(33, S_laws_toFloat32S), (32, S_spec_BreaksOf), (34, S_impl_BreaksOf), (35, S_laws_eqInt64S), (14, S_laws_eqFloat32S), (15, S_laws_markFloat32S), (36, S_laws_markInt64S), (37, S_laws_heldInt64S)]
def F_laws_FnExactBreaksOf : List Value → AHeap → (Value → AHeap → Prop) → Prop
  | [.slice aList_a aList_n aList_e, .float .f32 aLeast, .int .i64 aMost], H, K => T_laws_FnExactBreaksOf aList_a aList_n aList_e aLeast aMost H fun (r1 : Bool) (H' : AHeap) => K (.bool r1) H'
  | _, _, _ => False
def S_laws_FnExactBreaksOf : FSpec := { F := F_laws_FnExactBreaksOf, quiet := false, tame := false }
theorem laws_FnExactBreaksOf_vc (aList_a : Option Addr) (aList_n : Nat) (aList_e : Nat) (aLeast : Nat) (aMost : Int) (H : AHeap) (K : Value → AHeap → Prop) : bodyK Try.prog E_laws_FnExactBreaksOf Try.f7 [.slice aList_a aList_n aList_e, .float .f32 aLeast, .int .i64 aMost] H K =
  (Br (decide ((1048576 : Int) < (aList_n : Int))) (K (.bool true) H) (T_laws_toFloat32S aList_a aList_n aList_e H fun (a1 : Option Addr) (r1 : Nat) (r2 : Nat) (H1 : AHeap) => T_spec_BreaksOf a1 r1 r2 aLeast aMost H1 fun (a2 : Option Addr) (r3 : Nat) (r4 : Nat) (r5 : Bool) (H2 : AHeap) => T_laws_toFloat32S aList_a aList_n aList_e H2 fun (a3 : Option Addr) (r6 : Nat) (r7 : Nat) (H3 : AHeap) => T_impl_BreaksOf a3 r6 r7 aLeast aMost H3 fun (a4 : Option Addr) (r8 : Nat) (r9 : Nat) (r10 : Bool) (H4 : AHeap) => T_laws_eqInt64S a4 r8 r9 a2 r3 r4 H4 fun (r11 : Bool) (H5 : AHeap) => Br (!r11) (K (.bool false) H5) (Br (!(r10 == r5)) (K (.bool false) H5) (T_laws_toFloat32S aList_a aList_n aList_e H5 fun (a5 : Option Addr) (r12 : Nat) (r13 : Nat) (H6 : AHeap) => T_laws_eqFloat32S a3 r6 r7 a5 r12 r13 H6 fun (r14 : Bool) (H7 : AHeap) => Br (!r14) (K (.bool false) H7) (T_laws_markFloat32S a3 r6 r7 1 H7 fun (r15 : Int) (H8 : AHeap) => Br (decide ((r15 : Int) < 0)) (K (.bool false) H8) (T_laws_eqInt64S a4 r8 r9 a2 r3 r4 H8 fun (r16 : Bool) (H9 : AHeap) => Br (!r16) (K (.bool false) H9) (Br (!(r10 == r5)) (K (.bool false) H9) (T_laws_markInt64S a4 r8 r9 1 H9 fun (r17 : Int) (H10 : AHeap) => T_laws_heldInt64S a4 r8 r9 1 H10 fun (r18 : Int) (H11 : AHeap) => Br (decide ((r18 : Int) < 0)) (K (.bool false) H11) (Br ((r18 : Int) != r17) (K (.bool false) H11) (T_laws_toFloat32S aList_a aList_n aList_e H11 fun (a6 : Option Addr) (r19 : Nat) (r20 : Nat) (H12 : AHeap) => T_impl_BreaksOf a6 r19 r20 aLeast aMost H12 fun (a7 : Option Addr) (r21 : Nat) (r22 : Nat) (r23 : Bool) (H13 : AHeap) => T_laws_eqInt64S a7 r21 r22 a2 r3 r4 H13 fun (r24 : Bool) (H14 : AHeap) => Br (!r24) (K (.bool false) H14) (Br (!(r23 == r5)) (K (.bool false) H14) (T_laws_heldInt64S a4 r8 r9 1 H14 fun (r25 : Int) (H15 : AHeap) => Br (decide ((r25 : Int) < 0)) (K (.bool false) H15) (Br ((r25 : Int) != r17) (K (.bool false) H15) (K (.bool true) H15)))))))))))))) := by kernel_rfl
theorem E_laws_FnExactBreaksOf_ok : ∀ g, FnOk Try.prog g (E_laws_FnExactBreaksOf g) := FnOk.envOf (by
  intro x hx
  simp only [List.mem_cons, List.not_mem_nil, or_false] at hx
  rcases hx with rfl | rfl | rfl | rfl | rfl | rfl | rfl | rfl
  · exact laws_toFloat32S_ok
  · exact spec_BreaksOf_ok
  · exact impl_BreaksOf_ok
  · exact laws_eqInt64S_ok
  · exact laws_eqFloat32S_ok
  · exact laws_markFloat32S_ok
  · exact laws_markInt64S_ok
  · exact laws_heldInt64S_ok)
set_option maxHeartbeats 1000000 in
theorem laws_FnExactBreaksOf_main (aList_a : Option Addr) (aList_n : Nat) (aList_e : Nat) (aLeast : Nat) (aMost : Int) (H : AHeap) (K : Value → AHeap → Prop) (h : T_laws_FnExactBreaksOf aList_a aList_n aList_e aLeast aMost H fun (r1 : Bool) (H' : AHeap) => K (.bool r1) H') : bodyK Try.prog E_laws_FnExactBreaksOf Try.f7 [.slice aList_a aList_n aList_e, .float .f32 aLeast, .int .i64 aMost] H K := by
  rw [laws_FnExactBreaksOf_vc]
  obtain ⟨l_aList, h_0, h_1, h_2, h_3, h_4, hk⟩ := h
  have i_aList := h_0
  obtain rfl := i_aList.eqn
  have hl := laws_FnExactBreaksOf_true l_aList aLeast aMost h_1 h_3 h_4
  have e : p_laws_FnExactBreaksOf l_aList aLeast aMost = _ := rfl
  have e := e.trans (p_laws_FnExactBreaksOf_eq l_aList aLeast aMost)
  have e := hl.symm.trans e
  have g0 := Grow.refl H
  refine Br.intro (fun c_1 => ?_) (fun c_1 => ?_)
  · have e := e.trans (cond_t c_1)
    have c_1' := of_decide_eq_true c_1
    first | exact hk _ | (exfalso; cases e; done) | (rw [← e]; exact hk _)
  · have e := e.trans (cond_f c_1)
    have c_1' := of_decide_eq_false c_1
    refine T_laws_toFloat32S_i ⟨_, (i_aList.grow g0), (by first | omega | (simp only [List.length_set, List.length_replicate, List.length_append, List.length_cons, List.length_nil, List.length_take, List.length_drop, marks_length]; done) | (simp only [List.length_set, List.length_replicate, List.length_append, List.length_cons, List.length_nil, List.length_take, List.length_drop, marks_length]; omega)), fun a_2 n_3 e_4 H_1 g_6 r_5 => ?_⟩
    have l_7 := g_6.1
    have g_8 := g0.trans g_6
    have l_9 := g_8.1
    obtain rfl := r_5.isL.eqn
    have u_10 := r_5.up
    have u_11 := r_5.lo
    refine T_spec_BreaksOf_i ⟨_, r_5.isL, (by first | omega | (simp only [List.length_set, List.length_replicate, List.length_append, List.length_cons, List.length_nil, List.length_take, List.length_drop, marks_length]; done) | (simp only [List.length_set, List.length_replicate, List.length_append, List.length_cons, List.length_nil, List.length_take, List.length_drop, marks_length]; omega)), fun a_13 n_14 e_15 H_2 g_18 r_16 => ?_⟩
    have z_17 := spec_BreaksOf_len l_aList aLeast aMost
    have l_19 := g_18.1
    have g_20 := g_8.trans g_18
    have l_21 := g_20.1
    have r_22 := r_5.grow g_18
    obtain rfl := r_16.isL.eqn
    have u_23 := r_16.up
    have u_24 := r_16.lo
    refine T_laws_toFloat32S_i ⟨_, (i_aList.grow g_20), (by first | omega | (simp only [List.length_set, List.length_replicate, List.length_append, List.length_cons, List.length_nil, List.length_take, List.length_drop, marks_length]; done) | (simp only [List.length_set, List.length_replicate, List.length_append, List.length_cons, List.length_nil, List.length_take, List.length_drop, marks_length]; omega)), fun a_26 n_27 e_28 H_3 g_30 r_29 => ?_⟩
    have l_31 := g_30.1
    have g_32 := g_20.trans g_30
    have l_33 := g_32.1
    have r_34 := r_22.grow g_30
    have r_35 := r_16.grow g_30
    obtain rfl := r_29.isL.eqn
    have u_36 := r_29.up
    have u_37 := r_29.lo
    refine T_impl_BreaksOf_i ⟨_, r_29.isL, (by first | omega | (simp only [List.length_set, List.length_replicate, List.length_append, List.length_cons, List.length_nil, List.length_take, List.length_drop, marks_length]; done) | (simp only [List.length_set, List.length_replicate, List.length_append, List.length_cons, List.length_nil, List.length_take, List.length_drop, marks_length]; omega)), fun a_39 n_40 e_41 H_4 g_44 r_42 => ?_⟩
    have z_43 := impl_BreaksOf_len l_aList aLeast aMost
    have l_45 := g_44.1
    have g_46 := g_32.trans g_44
    have l_47 := g_46.1
    have r_48 := r_34.grow g_44
    have r_49 := r_35.grow g_44
    have r_50 := r_29.grow g_44
    obtain rfl := r_42.isL.eqn
    have u_51 := r_42.up
    have u_52 := r_42.lo
    refine T_laws_eqInt64S_i ⟨_, _, r_42.isL, r_49.isL, (by first | omega | (simp only [List.length_set, List.length_replicate, List.length_append, List.length_cons, List.length_nil, List.length_take, List.length_drop, marks_length]; done) | (simp only [List.length_set, List.length_replicate, List.length_append, List.length_cons, List.length_nil, List.length_take, List.length_drop, marks_length]; omega)), (by first | omega | (simp only [List.length_set, List.length_replicate, List.length_append, List.length_cons, List.length_nil, List.length_take, List.length_drop, marks_length]; done) | (simp only [List.length_set, List.length_replicate, List.length_append, List.length_cons, List.length_nil, List.length_take, List.length_drop, marks_length]; omega)), ?_⟩
    refine Br.intro (fun c_54 => ?_) (fun c_54 => ?_)
    · have e := e.trans (cond_t c_54)
      have c_54n := nf_of_t c_54
      first | exact hk _ | (exfalso; cases e; done) | (rw [← e]; exact hk _)
    · have e := e.trans (cond_f c_54)
      have c_54n := nt_of_f c_54
      refine Br.intro (fun c_55 => ?_) (fun c_55 => ?_)
      · have e := e.trans (cond_t c_55)
        have c_55n := nf_of_t c_55
        first | exact hk _ | (exfalso; cases e; done) | (rw [← e]; exact hk _)
      · have e := e.trans (cond_f c_55)
        have c_55n := nt_of_f c_55
        refine T_laws_toFloat32S_i ⟨_, (i_aList.grow g_46), (by first | omega | (simp only [List.length_set, List.length_replicate, List.length_append, List.length_cons, List.length_nil, List.length_take, List.length_drop, marks_length]; done) | (simp only [List.length_set, List.length_replicate, List.length_append, List.length_cons, List.length_nil, List.length_take, List.length_drop, marks_length]; omega)), fun a_56 n_57 e_58 H_5 g_60 r_59 => ?_⟩
        have l_61 := g_60.1
        have g_62 := g_46.trans g_60
        have l_63 := g_62.1
        have r_64 := r_48.grow g_60
        have r_65 := r_49.grow g_60
        have r_66 := r_50.grow g_60
        have r_67 := r_42.grow g_60
        obtain rfl := r_59.isL.eqn
        have u_68 := r_59.up
        have u_69 := r_59.lo
        refine T_laws_eqFloat32S_i ⟨_, _, r_66.isL, r_59.isL, (by first | omega | (simp only [List.length_set, List.length_replicate, List.length_append, List.length_cons, List.length_nil, List.length_take, List.length_drop, marks_length]; done) | (simp only [List.length_set, List.length_replicate, List.length_append, List.length_cons, List.length_nil, List.length_take, List.length_drop, marks_length]; omega)), (by first | omega | (simp only [List.length_set, List.length_replicate, List.length_append, List.length_cons, List.length_nil, List.length_take, List.length_drop, marks_length]; done) | (simp only [List.length_set, List.length_replicate, List.length_append, List.length_cons, List.length_nil, List.length_take, List.length_drop, marks_length]; omega)), ?_⟩
        refine Br.intro (fun c_71 => ?_) (fun c_71 => ?_)
        · have e := e.trans (cond_t c_71)
          have c_71n := nf_of_t c_71
          first | exact hk _ | (exfalso; cases e; done) | (rw [← e]; exact hk _)
        · have e := e.trans (cond_f c_71)
          have c_71n := nt_of_f c_71
          refine T_laws_markFloat32S_i ⟨_, _, r_66, (by first | omega | (simp only [List.length_set, List.length_replicate, List.length_append, List.length_cons, List.length_nil, List.length_take, List.length_drop, marks_length]; done) | (simp only [List.length_set, List.length_replicate, List.length_append, List.length_cons, List.length_nil, List.length_take, List.length_drop, marks_length]; omega)), (fun H_6 k_72 o_73 => ?_)⟩
          have l_74 := k_72.1
          have g_75 := g_62.keepA (fun x hx => by have := u_37 x hx; omega) k_72
          have l_76 := g_75.1
          have r_77 := r_64.keepA (fun x y hx hy => by have := u_37 x hx; have := u_36 x hx; have := u_11 y hy; have := u_10 y hy; omega) k_72
          have r_78 := r_65.keepA (fun x y hx hy => by have := u_37 x hx; have := u_36 x hx; have := u_24 y hy; have := u_23 y hy; omega) k_72
          have r_79 := r_67.keepA (fun x y hx hy => by have := u_37 x hx; have := u_36 x hx; have := u_52 y hy; have := u_51 y hy; omega) k_72
          have r_80 := r_59.keepA (fun x y hx hy => by have := u_37 x hx; have := u_36 x hx; have := u_69 y hy; have := u_68 y hy; omega) k_72
          refine Br.intro (fun c_81 => ?_) (fun c_81 => ?_)
          · have e := e.trans (cond_t c_81)
            have c_81' := of_decide_eq_true c_81
            first | exact hk _ | (exfalso; cases e; done) | (rw [← e]; exact hk _)
          · have e := e.trans (cond_f c_81)
            have c_81' := of_decide_eq_false c_81
            refine T_laws_eqInt64S_i ⟨_, _, r_79.isL, r_78.isL, (by first | omega | (simp only [List.length_set, List.length_replicate, List.length_append, List.length_cons, List.length_nil, List.length_take, List.length_drop, marks_length]; done) | (simp only [List.length_set, List.length_replicate, List.length_append, List.length_cons, List.length_nil, List.length_take, List.length_drop, marks_length]; omega)), (by first | omega | (simp only [List.length_set, List.length_replicate, List.length_append, List.length_cons, List.length_nil, List.length_take, List.length_drop, marks_length]; done) | (simp only [List.length_set, List.length_replicate, List.length_append, List.length_cons, List.length_nil, List.length_take, List.length_drop, marks_length]; omega)), ?_⟩
            refine Br.intro (fun c_82 => ?_) (fun c_82 => ?_)
            · have e := e.trans (cond_t c_82)
              have c_82n := nf_of_t c_82
              first | exact hk _ | (exfalso; cases e; done) | (rw [← e]; exact hk _)
            · have e := e.trans (cond_f c_82)
              have c_82n := nt_of_f c_82
              refine Br.intro (fun c_83 => ?_) (fun c_83 => ?_)
              · have e := e.trans (cond_t c_83)
                have c_83n := nf_of_t c_83
                first | exact hk _ | (exfalso; cases e; done) | (rw [← e]; exact hk _)
              · have e := e.trans (cond_f c_83)
                have c_83n := nt_of_f c_83
                refine T_laws_markInt64S_i ⟨_, _, r_79, (by first | omega | (simp only [List.length_set, List.length_replicate, List.length_append, List.length_cons, List.length_nil, List.length_take, List.length_drop, marks_length]; done) | (simp only [List.length_set, List.length_replicate, List.length_append, List.length_cons, List.length_nil, List.length_take, List.length_drop, marks_length]; omega)), (fun H_7 k_84 o_85 => ?_)⟩
                have l_86 := k_84.1
                have g_87 := g_75.keepA (fun x hx => by have := u_52 x hx; omega) k_84
                have l_88 := g_87.1
                have r_89 := r_77.keepA (fun x y hx hy => by have := u_52 x hx; have := u_51 x hx; have := u_11 y hy; have := u_10 y hy; omega) k_84
                have r_90 := r_78.keepA (fun x y hx hy => by have := u_52 x hx; have := u_51 x hx; have := u_24 y hy; have := u_23 y hy; omega) k_84
                have r_91 := o_73.keepA (fun x y hx hy => by have := u_52 x hx; have := u_51 x hx; have := u_37 y hy; have := u_36 y hy; omega) k_84
                have r_92 := r_80.keepA (fun x y hx hy => by have := u_52 x hx; have := u_51 x hx; have := u_69 y hy; have := u_68 y hy; omega) k_84
                refine T_laws_heldInt64S_i ⟨_, o_85.isL, (by first | omega | (simp only [List.length_set, List.length_replicate, List.length_append, List.length_cons, List.length_nil, List.length_take, List.length_drop, marks_length]; done) | (simp only [List.length_set, List.length_replicate, List.length_append, List.length_cons, List.length_nil, List.length_take, List.length_drop, marks_length]; omega)), ?_⟩
                refine Br.intro (fun c_93 => ?_) (fun c_93 => ?_)
                · have e := e.trans (cond_t c_93)
                  have c_93' := of_decide_eq_true c_93
                  first | exact hk _ | (exfalso; cases e; done) | (rw [← e]; exact hk _)
                · have e := e.trans (cond_f c_93)
                  have c_93' := of_decide_eq_false c_93
                  refine Br.intro (fun c_94 => ?_) (fun c_94 => ?_)
                  · have e := e.trans (cond_t c_94)
                    have c_94' := ine_t c_94
                    first | exact hk _ | (exfalso; cases e; done) | (rw [← e]; exact hk _)
                  · have e := e.trans (cond_f c_94)
                    have c_94' := ine_f c_94
                    refine T_laws_toFloat32S_i ⟨_, (i_aList.grow g_87), (by first | omega | (simp only [List.length_set, List.length_replicate, List.length_append, List.length_cons, List.length_nil, List.length_take, List.length_drop, marks_length]; done) | (simp only [List.length_set, List.length_replicate, List.length_append, List.length_cons, List.length_nil, List.length_take, List.length_drop, marks_length]; omega)), fun a_95 n_96 e_97 H_8 g_99 r_98 => ?_⟩
                    have l_100 := g_99.1
                    have g_101 := g_87.trans g_99
                    have l_102 := g_101.1
                    have r_103 := r_89.grow g_99
                    have r_104 := r_90.grow g_99
                    have r_105 := r_91.grow g_99
                    have r_106 := o_85.grow g_99
                    have r_107 := r_92.grow g_99
                    obtain rfl := r_98.isL.eqn
                    have u_108 := r_98.up
                    have u_109 := r_98.lo
                    refine T_impl_BreaksOf_i ⟨_, r_98.isL, (by first | omega | (simp only [List.length_set, List.length_replicate, List.length_append, List.length_cons, List.length_nil, List.length_take, List.length_drop, marks_length]; done) | (simp only [List.length_set, List.length_replicate, List.length_append, List.length_cons, List.length_nil, List.length_take, List.length_drop, marks_length]; omega)), fun a_111 n_112 e_113 H_9 g_116 r_114 => ?_⟩
                    have z_115 := impl_BreaksOf_len l_aList aLeast aMost
                    have l_117 := g_116.1
                    have g_118 := g_101.trans g_116
                    have l_119 := g_118.1
                    have r_120 := r_103.grow g_116
                    have r_121 := r_104.grow g_116
                    have r_122 := r_105.grow g_116
                    have r_123 := r_106.grow g_116
                    have r_124 := r_107.grow g_116
                    have r_125 := r_98.grow g_116
                    obtain rfl := r_114.isL.eqn
                    have u_126 := r_114.up
                    have u_127 := r_114.lo
                    refine T_laws_eqInt64S_i ⟨_, _, r_114.isL, r_121.isL, (by first | omega | (simp only [List.length_set, List.length_replicate, List.length_append, List.length_cons, List.length_nil, List.length_take, List.length_drop, marks_length]; done) | (simp only [List.length_set, List.length_replicate, List.length_append, List.length_cons, List.length_nil, List.length_take, List.length_drop, marks_length]; omega)), (by first | omega | (simp only [List.length_set, List.length_replicate, List.length_append, List.length_cons, List.length_nil, List.length_take, List.length_drop, marks_length]; done) | (simp only [List.length_set, List.length_replicate, List.length_append, List.length_cons, List.length_nil, List.length_take, List.length_drop, marks_length]; omega)), ?_⟩
                    refine Br.intro (fun c_129 => ?_) (fun c_129 => ?_)
                    · have e := e.trans (cond_t c_129)
                      have c_129n := nf_of_t c_129
                      first | exact hk _ | (exfalso; cases e; done) | (rw [← e]; exact hk _)
                    · have e := e.trans (cond_f c_129)
                      have c_129n := nt_of_f c_129
                      refine Br.intro (fun c_130 => ?_) (fun c_130 => ?_)
                      · have e := e.trans (cond_t c_130)
                        have c_130n := nf_of_t c_130
                        first | exact hk _ | (exfalso; cases e; done) | (rw [← e]; exact hk _)
                      · have e := e.trans (cond_f c_130)
                        have c_130n := nt_of_f c_130
                        refine T_laws_heldInt64S_i ⟨_, r_123.isL, (by first | omega | (simp only [List.length_set, List.length_replicate, List.length_append, List.length_cons, List.length_nil, List.length_take, List.length_drop, marks_length]; done) | (simp only [List.length_set, List.length_replicate, List.length_append, List.length_cons, List.length_nil, List.length_take, List.length_drop, marks_length]; omega)), ?_⟩
                        refine Br.intro (fun c_131 => ?_) (fun c_131 => ?_)
                        · have e := e.trans (cond_t c_131)
                          have c_131' := of_decide_eq_true c_131
                          first | exact hk _ | (exfalso; cases e; done) | (rw [← e]; exact hk _)
                        · have e := e.trans (cond_f c_131)
                          have c_131' := of_decide_eq_false c_131
                          refine Br.intro (fun c_132 => ?_) (fun c_132 => ?_)
                          · have e := e.trans (cond_t c_132)
                            have c_132' := ine_t c_132
                            first | exact hk _ | (exfalso; cases e; done) | (rw [← e]; exact hk _)
                          · have e := e.trans (cond_f c_132)
                            have c_132' := ine_f c_132
                            first | exact hk _ | (exfalso; cases e; done) | (rw [← e]; exact hk _)
theorem laws_FnExactBreaksOf_ok : FnOk Try.prog 7 S_laws_FnExactBreaksOf := by
  refine FnOk.body mix_ok E_laws_FnExactBreaksOf_ok Try.func7 rfl (by kernel_rfl) (by kernel_rfl) ?_ ?_ ?_ ?_ ?_
  · intro args H K K' h hk
    simp only [S_laws_FnExactBreaksOf] at *
    unfold F_laws_FnExactBreaksOf at *
    split at hk
    · obtain ⟨l_aList, h_0, h_1, h_2, h_3, h_4, k⟩ := hk
      exact ⟨l_aList, h_0, h_1, h_2, h_3, h_4, (fun H' => h _ _ (k H'))⟩
    · exact hk.elim
  · intro hq; cases hq
  · intro args H K hk
    simp only [S_laws_FnExactBreaksOf] at *
    unfold F_laws_FnExactBreaksOf at *
    split at hk
    · obtain ⟨l_aList, h_0, h_1, h_2, h_3, h_4, k⟩ := hk
      exact ⟨_, _, k []⟩
    · exact hk.elim
  · intro hq; cases hq
  · have mm := @laws_FnExactBreaksOf_main
    revert mm
    generalize bodyK Try.prog E_laws_FnExactBreaksOf Try.f7 = Q
    intro mm args H K hk
    simp only [S_laws_FnExactBreaksOf] at *
    unfold F_laws_FnExactBreaksOf at *
    split at hk
    · exact mm _ _ _ _ _ H K hk
    · exact hk.elim
end Go.Proofs.Ytghkkclonabpkab.Ai
