/- What functions of the program come to on the abstract machine, and that they do so; printed by a program of mine around proofs of mine. -/
import Derived.Test.YtfofkmlohmodeabProg
import Derived.Test.YtfofkmlohmodeabLibA
import Derived.Test.YtfofkmlohmodeabOpen
import Derived.Test.YtfofkmlohmodeabLibB
import Derived.Test.YtfofkmlohmodeabFl
set_option linter.unusedVariables false
set_option linter.unusedSimpArgs false
set_option maxRecDepth 100000
namespace Go.Proofs.Ytfofkmlohmodeab.Ai
open Go
attribute [local irreducible] bodyK
theorem mix_ok : Try.prog.follows .mixedOrders = true := by kernel_rfl
def p_laws_toInt64S_l1 (l_a : List Int) : Nat → Int → (List Int) → (List Int)
  | 0, _, _ => []
  | μ + 1, i, y1_1 => (bif decide ((i : Int) < (l_a.length : Int)) then (p_laws_toInt64S_l1 l_a μ (i + 1) (((y1_1).set (i : Int).toNat ((((l_a).getD (i : Int).toNat 0) : Int))))) else y1_1)
theorem p_laws_toInt64S_l1_s (l_a : List Int) (μ : Nat) (i : Int) (y1_1 : List Int) : p_laws_toInt64S_l1 l_a (μ + 1) i y1_1 = (bif decide ((i : Int) < (l_a.length : Int)) then (p_laws_toInt64S_l1 l_a μ (i + 1) (((y1_1).set (i : Int).toNat ((((l_a).getD (i : Int).toNat 0) : Int))))) else y1_1) := rfl
def p_laws_toInt64S (l_a : List Int) : (List Int) := (p_laws_toInt64S_l1 l_a (Int.toNat ((l_a.length : Int) - (0 : Int)) + 1) (0 : Int) (List.replicate (((l_a.length : Int)).toNat) 0))
theorem p_laws_toInt64S_eq (l_a : List Int) : p_laws_toInt64S l_a = (p_laws_toInt64S_l1 l_a (Int.toNat ((l_a.length : Int) - (0 : Int)) + 1) (0 : Int) (List.replicate (((l_a.length : Int)).toNat) 0)) := rfl
def T_laws_toInt64S (a_a : Option Addr) (a_n : Nat) (a_e : Nat) (H : AHeap) (K : (Option Addr) → Nat → Nat → AHeap → Prop) : Prop := ∃ (l_a : List Int), IsL fI H a_a a_n l_a ∧ l_a.length < 1073741824 ∧ ((∀ (r1_a : Option Addr) (r1_n r1_e : Nat), ∀ H' : AHeap, Grow H H' → OwnS fI H' H.length r1_a r1_n r1_e l_a → K r1_a r1_n r1_e H'))
theorem T_laws_toInt64S_i {a_a : Option Addr} {a_n : Nat} {a_e : Nat} {H : AHeap} {K : (Option Addr) → Nat → Nat → AHeap → Prop} (h : ∃ (l_a : List Int), IsL fI H a_a a_n l_a ∧ l_a.length < 1073741824 ∧ ((∀ (r1_a : Option Addr) (r1_n r1_e : Nat), ∀ H' : AHeap, Grow H H' → OwnS fI H' H.length r1_a r1_n r1_e l_a → K r1_a r1_n r1_e H'))) : T_laws_toInt64S a_a a_n a_e H K := h
theorem laws_toInt64S_go (l : List Int) : ∀ (μ : Nat) (i : Nat) (ys : List Int), ys.length = l.length → i ≤ l.length → l.length - i < μ →
    p_laws_toInt64S_l1 l μ (i : Int) (l.take i ++ ys.drop i) = l := by
  intro μ
  induction μ with
  | zero => intro i ys _ _ h; omega
  | succ μ ih =>
    intro i ys hy hi hm
    rw [p_laws_toInt64S_l1_s]
    by_cases h : i < l.length
    · rw [decide_eq_true (show (i : Int) < (l.length : Int) by omega), cond_true]
      have hx : l[i]? = some (l.getD i 0) := by rw [List.getD_eq_getElem?_getD, List.getElem?_eq_getElem h]; rfl
      rw [Int.toNat_natCast, set_front l ys i (by omega) hy.symm _ hx]
      exact ih (i + 1) ys hy (by omega) (by omega)
    · rw [decide_eq_false (show ¬ (i : Int) < (l.length : Int) by omega), cond_false]
      rw [List.take_of_length_le (by omega), List.drop_eq_nil_of_le (by omega), List.append_nil]
theorem laws_toInt64S_id (l : List Int) : p_laws_toInt64S l = l := by
  rw [p_laws_toInt64S_eq]
  have := laws_toInt64S_go l (Int.toNat ((l.length : Int) - 0) + 1) 0 (List.replicate ((l.length : Int)).toNat 0) (by simp) (by omega) (by omega)
  simpa using this
/-! laws_toInt64S: function 21 -/
def E_laws_toInt64S : Env := envOf []
def F_laws_toInt64S : List Value → AHeap → (Value → AHeap → Prop) → Prop
  | [.slice a_a a_n a_e], H, K => T_laws_toInt64S a_a a_n a_e H fun (r1_a : Option Addr) (r1_n : Nat) (r1_e : Nat) (H' : AHeap) => K (.slice r1_a r1_n r1_e) H'
  | _, _, _ => False
def S_laws_toInt64S : FSpec := { F := F_laws_toInt64S, quiet := false, tame := true }
theorem laws_toInt64S_vc (a_a : Option Addr) (a_n : Nat) (a_e : Nat) (H : AHeap) (K : Value → AHeap → Prop) : bodyK Try.prog E_laws_toInt64S Try.f21 [.slice a_a a_n a_e] H K =
  ((0 : Int) ≤ (a_n : Int) ∧ (a_n : Int) = (a_n : Int) ∧ (a_n : Int) < (most : Int) ∧ Al (zerosOf (.int .i64 0) ((a_n : Int)).toNat) H fun b1 H1 => loopK (exK Try.prog E_laws_toInt64S (cl (cl (cr (cl (cr (cr (bodyC Try.f21)))))))) [.slice a_a a_n a_e, undef, .slice none 0 0, .slice (some ⟨b1, 0, none⟩) (((a_n : Int)).toNat) 1, .int .i64 0, .slice a_a a_n a_e, .int .i64 (a_n : Int), .slice (some ⟨b1, 0, none⟩) (((a_n : Int)).toNat) 1, undef, undef, undef, undef, undef, undef, undef, undef, undef, undef, undef, undef, undef, undef] H1 (blockQ 0 (seqQ (exK Try.prog E_laws_toInt64S (cr (cr (cr (bodyC Try.f21))))) (retK Try.prog Try.f21 K)))) := by kernel_rfl
theorem laws_toInt64S_r1 (a_a : Option Addr) (a_e : Nat) (a_n : Nat) (b1 : Nat) (i : Int) (g8 g9 g10 g11 g12 g13 g14 g15 g16 g17 g18 g19 g20 : Value) (H : AHeap) (R : Post) : exK Try.prog E_laws_toInt64S (cl (cl (cr (cl (cr (cr (bodyC Try.f21))))))) [.slice a_a a_n a_e, undef, .slice none 0 0, .slice (some ⟨b1, 0, none⟩) (((a_n : Int)).toNat) 1, .int .i64 i, .slice a_a a_n a_e, .int .i64 (a_n : Int), .slice (some ⟨b1, 0, none⟩) (((a_n : Int)).toNat) 1, g8, g9, g10, g11, g12, g13, g14, g15, g16, g17, g18, g19, g20, undef] H R =
  (Br (decide ((i : Int) < (a_n : Int))) ((0 : Int) ≤ i ∧ i < (a_n : Int) ∧ ∃ b2 f1, (a_a : Option Addr) = some ⟨b2, f1, none⟩ ∧ ∃ x1 : Int,  rdC H b2 (f1 + (i : Int).toNat * 1) = some (.int .i64 x1) ∧ (0 : Int) ≤ i ∧ i < (((a_n : Int)).toNat : Int) ∧ ∃ b3 f2, (some ⟨b1, 0, none⟩ : Option Addr) = some ⟨b3, f2, none⟩ ∧ isOwn H b3 ∧ (∃ l, rdN H b3 (f2 + (i : Int).toNat * 1) 1 = some l) ∧ Lt (setC H b3 (f2 + (i : Int).toNat * 1) (.int .i64 x1)) fun H2 => R .normal [.slice a_a a_n a_e, undef, .slice none 0 0, .slice (some ⟨b1, 0, none⟩) (((a_n : Int)).toNat) 1, .int .i64 (IntKind.wrap .i64 (i + 1)), .slice a_a a_n a_e, .int .i64 (a_n : Int), .slice (some ⟨b1, 0, none⟩) (((a_n : Int)).toNat) 1, .int .i64 i, .slice a_a a_n a_e, .int .i64 (a_n : Int), .bool (decide ((i : Int) < (a_n : Int))), .int .i64 i, .int .i64 (IntKind.wrap .i64 (i + 1)), .slice (some ⟨b1, 0, none⟩) (((a_n : Int)).toNat) 1, .int .i64 i, .slice a_a a_n a_e, .int .i64 i, .pointer (some ⟨b2, f1 + (i : Int).toNat * 1, none⟩), .int .i64 x1, .pointer (some ⟨b3, f2 + (i : Int).toNat * 1, none⟩), undef] H2) (R (.exit 0) [.slice a_a a_n a_e, undef, .slice none 0 0, .slice (some ⟨b1, 0, none⟩) (((a_n : Int)).toNat) 1, .int .i64 i, .slice a_a a_n a_e, .int .i64 (a_n : Int), .slice (some ⟨b1, 0, none⟩) (((a_n : Int)).toNat) 1, .int .i64 i, .slice a_a a_n a_e, .int .i64 (a_n : Int), .bool (decide ((i : Int) < (a_n : Int))), g12, g13, g14, g15, g16, g17, g18, g19, g20, undef] H)) := by kernel_rfl
def laws_toInt64S_I1 (a_a : Option Addr) (a_e : Nat) (a_n : Nat) (b1 : Nat) (Inv : Nat → Int → AHeap → Prop) : Nat → List Value → AHeap → Prop := fun μ tm H => ∃ (i : Int), ∃ g8 g9 g10 g11 g12 g13 g14 g15 g16 g17 g18 g19 g20, tm = [.slice a_a a_n a_e, undef, .slice none 0 0, .slice (some ⟨b1, 0, none⟩) (((a_n : Int)).toNat) 1, .int .i64 i, .slice a_a a_n a_e, .int .i64 (a_n : Int), .slice (some ⟨b1, 0, none⟩) (((a_n : Int)).toNat) 1, g8, g9, g10, g11, g12, g13, g14, g15, g16, g17, g18, g19, g20, undef] ∧ Inv μ i H
theorem laws_toInt64S_L1 (a_a : Option Addr) (a_e : Nat) (a_n : Nat) (b1 : Nat) {Q : Post} (Inv : Nat → Int → AHeap → Prop) (ν : Nat) (i : Int) (g8 g9 g10 g11 g12 g13 g14 g15 g16 g17 g18 g19 g20 : Value) (H : AHeap) (h0 : Inv ν i H)
    (hs : ∀ (μ : Nat) (i : Int) (g8 g9 g10 g11 g12 g13 g14 g15 g16 g17 g18 g19 g20 : Value) (H : AHeap), Inv μ i H → exK Try.prog E_laws_toInt64S (cl (cl (cr (cl (cr (cr (bodyC Try.f21))))))) [.slice a_a a_n a_e, undef, .slice none 0 0, .slice (some ⟨b1, 0, none⟩) (((a_n : Int)).toNat) 1, .int .i64 i, .slice a_a a_n a_e, .int .i64 (a_n : Int), .slice (some ⟨b1, 0, none⟩) (((a_n : Int)).toNat) 1, g8, g9, g10, g11, g12, g13, g14, g15, g16, g17, g18, g19, g20, undef] H (loopQ (laws_toInt64S_I1 a_a a_e a_n b1 Inv) μ Q)) : loopK (exK Try.prog E_laws_toInt64S (cl (cl (cr (cl (cr (cr (bodyC Try.f21)))))))) [.slice a_a a_n a_e, undef, .slice none 0 0, .slice (some ⟨b1, 0, none⟩) (((a_n : Int)).toNat) 1, .int .i64 i, .slice a_a a_n a_e, .int .i64 (a_n : Int), .slice (some ⟨b1, 0, none⟩) (((a_n : Int)).toNat) 1, g8, g9, g10, g11, g12, g13, g14, g15, g16, g17, g18, g19, g20, undef] H Q :=
  ⟨laws_toInt64S_I1 a_a a_e a_n b1 Inv, ν, ⟨i, g8, g9, g10, g11, g12, g13, g14, g15, g16, g17, g18, g19, g20, rfl, h0⟩, fun μ tm H h => by obtain ⟨i, g8, g9, g10, g11, g12, g13, g14, g15, g16, g17, g18, g19, g20, rfl, hI⟩ := h; exact hs μ i g8 g9 g10 g11 g12 g13 g14 g15 g16 g17 g18 g19 g20 H hI⟩
theorem laws_toInt64S_n1 {a_a : Option Addr} {a_e : Nat} {a_n : Nat} {b1 : Nat} {Q : Post} {Inv : Nat → Int → AHeap → Prop} {μ : Nat} (μ' : Nat) {i : Int} {g8 g9 g10 g11 g12 g13 g14 g15 g16 g17 g18 g19 g20 : Value} {H : AHeap} (hm : μ' < μ) (hI : Inv μ' i H) : loopQ (laws_toInt64S_I1 a_a a_e a_n b1 Inv) μ Q .normal [.slice a_a a_n a_e, undef, .slice none 0 0, .slice (some ⟨b1, 0, none⟩) (((a_n : Int)).toNat) 1, .int .i64 i, .slice a_a a_n a_e, .int .i64 (a_n : Int), .slice (some ⟨b1, 0, none⟩) (((a_n : Int)).toNat) 1, g8, g9, g10, g11, g12, g13, g14, g15, g16, g17, g18, g19, g20, undef] H := ⟨μ', hm, i, g8, g9, g10, g11, g12, g13, g14, g15, g16, g17, g18, g19, g20, rfl, hI⟩
theorem laws_toInt64S_x1_0 (a_a : Option Addr) (a_e : Nat) (a_n : Nat) (b1 : Nat) (i : Int) (g8 g9 g10 g11 g12 g13 g14 g15 g16 g17 g18 g19 g20 : Value) (H : AHeap) (K : Value → AHeap → Prop)  {I : Nat → List Value → AHeap → Prop} {μ : Nat} : loopQ I μ (blockQ 0 (seqQ (exK Try.prog E_laws_toInt64S (cr (cr (cr (bodyC Try.f21))))) (retK Try.prog Try.f21 K))) (.exit 0) [.slice a_a a_n a_e, undef, .slice none 0 0, .slice (some ⟨b1, 0, none⟩) (((a_n : Int)).toNat) 1, .int .i64 i, .slice a_a a_n a_e, .int .i64 (a_n : Int), .slice (some ⟨b1, 0, none⟩) (((a_n : Int)).toNat) 1, g8, g9, g10, g11, g12, g13, g14, g15, g16, g17, g18, g19, g20, undef] H =
  (K (.slice (some ⟨b1, 0, none⟩) (((a_n : Int)).toNat) 1) H) := by kernel_rfl
theorem E_laws_toInt64S_ok : ∀ g, FnOk Try.prog g (E_laws_toInt64S g) := FnOk.envOf (by
  intro x hx; cases hx)
set_option maxHeartbeats 1000000 in
theorem laws_toInt64S_main (a_a : Option Addr) (a_n : Nat) (a_e : Nat) (H : AHeap) (K : Value → AHeap → Prop) (h : T_laws_toInt64S a_a a_n a_e H fun (r1_a : Option Addr) (r1_n : Nat) (r1_e : Nat) (H' : AHeap) => K (.slice r1_a r1_n r1_e) H') : bodyK Try.prog E_laws_toInt64S Try.f21 [.slice a_a a_n a_e] H K := by
  rw [laws_toInt64S_vc]
  obtain ⟨l_a, i_a, bd_29, hk⟩ := h
  have hk : (∀ (r1_a : Option Addr) (r1_n r1_e : Nat), ∀ H' : AHeap, Grow H H' → OwnS fI H' H.length r1_a r1_n r1_e (p_laws_toInt64S l_a) → (fun (r1_a : Option Addr) (r1_n : Nat) (r1_e : Nat) (H' : AHeap) => K (.slice r1_a r1_n r1_e) H') r1_a r1_n r1_e H') := by rw [laws_toInt64S_id l_a]; exact hk
  obtain rfl := i_a.eqn
  have e : (p_laws_toInt64S l_a) = _ := rfl
  have e := e.trans (p_laws_toInt64S_eq l_a)
  have g0 := Grow.refl H
  refine ⟨by omega, rfl, (by have := most_eq; omega), ?_⟩
  refine Al.intro (fun b_1 H_1 hb_2 hl_3 g_4 o_5 => ?_)
  rw [zeros_map fI 0 _ rfl] at o_5
  have l_7 := g_4.1
  have g_8 := g0.trans g_4
  have l_9 := g_8.1
  have w_28 := o_5.lt
  refine laws_toInt64S_L1 _ _ _ _ (fun (μ : Nat) (i : Int) (H_2 : AHeap) => ∃ (y1_1 : List Int), Own H_2 b_1 (y1_1.map fI) ∧ y1_1.length = ((l_a.length : Int)).toNat ∧ Grow H H_2 ∧ (0 : Int) ≤ i ∧ i ≤ (l_a.length : Int) ∧ (l_a.length : Int) - i ≤ (μ : Int) ∧ p_laws_toInt64S l_a = p_laws_toInt64S_l1 l_a (μ + 1) i y1_1) (Int.toNat ((l_a.length : Int) - (0 : Int))) _ _ _ _ _ _ _ _ _ _ _ _ _ _ H_1 ?_ ?_
  · exact ⟨_, o_5, (by first | rfl | (simp; done)), g_8, (by first | omega | (simp; done) | (simp; omega)), (by first | omega | (simp; done) | (simp; omega)), (by omega), e⟩
  · intro μ i g8 g9 g10 g11 g12 g13 g14 g15 g16 g17 g18 g19 g20 H_2 hI
    obtain ⟨y1_1, o_10, y_11, g_12, v_13, v_14, hμ, e⟩ := hI
    rw [laws_toInt64S_r1]
    have e := e.trans (p_laws_toInt64S_l1_s l_a μ i y1_1)
    have w_15 := o_10.lt
    have l_16 := g_12.1
    refine Br.intro (fun c_17 => ?_) (fun c_17 => ?_)
    · have e := e.trans (cond_t c_17)
      have c_17' := of_decide_eq_true c_17
      obtain ⟨b_18, f_19, q_20⟩ := ((i_a.grow g_12)).pos (by first | omega | (simp only [List.length_set, List.length_replicate, List.length_append, List.length_cons, List.length_nil, List.length_take, List.length_drop, marks_length]; done) | (simp only [List.length_set, List.length_replicate, List.length_append, List.length_cons, List.length_nil, List.length_take, List.length_drop, marks_length]; omega))
      refine ⟨by omega, by omega, b_18, f_19, q_20, ?_⟩
      refine ⟨((l_a).getD (i : Int).toNat 0), (i_a).rd g_12 q_20 (by omega) _, ?_⟩
      refine ⟨by omega, (by omega), _, _, rfl, ?_⟩
      refine Lt.set o_10 (by simp only [List.length_map]; (first | omega | (simp only [List.length_set, List.length_replicate, List.length_append, List.length_cons, List.length_nil, List.length_take, List.length_drop, marks_length]; done) | (simp only [List.length_set, List.length_replicate, List.length_append, List.length_cons, List.length_nil, List.length_take, List.length_drop, marks_length]; omega))) (fun H_3 hl_21 o_23 k_22 => ?_)
      have o_23 := map_set o_23
      have l_24 := k_22.1
      have g_25 := g_12.keep (b := b_1) (by omega) k_22
      have l_26 := g_25.1
      have w_27 := o_23.lt
      rw [show IntKind.wrap .i64 (i + 1) = (i + 1) from wrap64 (by omega) (by omega)]
      refine laws_toInt64S_n1 (μ - 1) (by omega) ⟨_, o_23, (by first | assumption | omega | (simp only [List.length_set]; first | rfl | assumption | omega)), g_25, (by first | omega | (simp only [List.length_append, List.length_cons, List.length_nil, List.length_set]; done) | (simp only [List.length_append, List.length_cons, List.length_nil, List.length_set]; omega)), (by first | omega | (simp only [List.length_append, List.length_cons, List.length_nil, List.length_set]; done) | (simp only [List.length_append, List.length_cons, List.length_nil, List.length_set]; omega)), (by omega), (by rw [show μ - 1 + 1 = μ from by omega]; exact e)⟩
    · have e := e.trans (cond_f c_17)
      have c_17' := of_decide_eq_false c_17
      rw [laws_toInt64S_x1_0]
      rw [e] at hk
      exact hk _ _ _ H_2 g_12 (o_10.ownS (by first | (simp only [List.length_replicate]; done) | omega | (simp; omega)) (by omega))
theorem laws_toInt64S_ok : FnOk Try.prog 21 S_laws_toInt64S := by
  refine FnOk.body mix_ok E_laws_toInt64S_ok Try.func21 rfl (by kernel_rfl) (by kernel_rfl) ?_ ?_ ?_ ?_ ?_
  · intro args H K K' h hk
    simp only [S_laws_toInt64S] at *
    unfold F_laws_toInt64S at *
    split at hk
    · obtain ⟨l_a, i_a, bd_29, k⟩ := hk
      exact ⟨l_a, i_a, bd_29, (fun r1_a r1_n r1_e H' gg ow0 => h _ _ (k r1_a r1_n r1_e H' gg ow0))⟩
    · exact hk.elim
  · intro hq; cases hq
  · intro args H K hk
    simp only [S_laws_toInt64S] at *
    unfold F_laws_toInt64S at *
    split at hk
    · obtain ⟨l_a, i_a, bd_29, k⟩ := hk
      exact liveS fun a n e H1 g o => ⟨_, _, k a n e H1 g o⟩
    · exact hk.elim
  · intro _ args H K hk
    simp only [S_laws_toInt64S] at *
    unfold F_laws_toInt64S at *
    split at hk
    · obtain ⟨l_a, i_a, bd_29, k⟩ := hk
      exact ⟨l_a, i_a, bd_29, (fun r1_a r1_n r1_e H' gg ow0 => ⟨gg, k r1_a r1_n r1_e H' gg ow0⟩)⟩
    · exact hk.elim
  · have mm := @laws_toInt64S_main
    revert mm
    generalize bodyK Try.prog E_laws_toInt64S Try.f21 = Q
    intro mm args H K hk
    simp only [S_laws_toInt64S] at *
    unfold F_laws_toInt64S at *
    split at hk
    · exact mm _ _ _ H K hk
    · exact hk.elim
def p_laws_toFloat32S_l1 (l_a : List Nat) : Nat → Int → (List Nat) → (List Nat)
  | 0, _, _ => []
  | μ + 1, i, y1_1 => (bif decide ((i : Int) < (l_a.length : Int)) then (p_laws_toFloat32S_l1 l_a μ (i + 1) (((y1_1).set (i : Int).toNat ((((l_a).getD (i : Int).toNat 0)))))) else y1_1)
theorem p_laws_toFloat32S_l1_s (l_a : List Nat) (μ : Nat) (i : Int) (y1_1 : List Nat) : p_laws_toFloat32S_l1 l_a (μ + 1) i y1_1 = (bif decide ((i : Int) < (l_a.length : Int)) then (p_laws_toFloat32S_l1 l_a μ (i + 1) (((y1_1).set (i : Int).toNat ((((l_a).getD (i : Int).toNat 0)))))) else y1_1) := rfl
def p_laws_toFloat32S (l_a : List Nat) : (List Nat) := (p_laws_toFloat32S_l1 l_a (Int.toNat ((l_a.length : Int) - (0 : Int)) + 1) (0 : Int) (List.replicate (((l_a.length : Int)).toNat) 0))
theorem p_laws_toFloat32S_eq (l_a : List Nat) : p_laws_toFloat32S l_a = (p_laws_toFloat32S_l1 l_a (Int.toNat ((l_a.length : Int) - (0 : Int)) + 1) (0 : Int) (List.replicate (((l_a.length : Int)).toNat) 0)) := rfl
def T_laws_toFloat32S (a_a : Option Addr) (a_n : Nat) (a_e : Nat) (H : AHeap) (K : (Option Addr) → Nat → Nat → AHeap → Prop) : Prop := ∃ (l_a : List Nat), IsL fF H a_a a_n l_a ∧ l_a.length < 1073741824 ∧ ((∀ (r1_a : Option Addr) (r1_n r1_e : Nat), ∀ H' : AHeap, Grow H H' → OwnS fF H' H.length r1_a r1_n r1_e l_a → K r1_a r1_n r1_e H'))
theorem T_laws_toFloat32S_i {a_a : Option Addr} {a_n : Nat} {a_e : Nat} {H : AHeap} {K : (Option Addr) → Nat → Nat → AHeap → Prop} (h : ∃ (l_a : List Nat), IsL fF H a_a a_n l_a ∧ l_a.length < 1073741824 ∧ ((∀ (r1_a : Option Addr) (r1_n r1_e : Nat), ∀ H' : AHeap, Grow H H' → OwnS fF H' H.length r1_a r1_n r1_e l_a → K r1_a r1_n r1_e H'))) : T_laws_toFloat32S a_a a_n a_e H K := h
theorem laws_toFloat32S_go (l : List Nat) : ∀ (μ : Nat) (i : Nat) (ys : List Nat), ys.length = l.length → i ≤ l.length → l.length - i < μ →
    p_laws_toFloat32S_l1 l μ (i : Int) (l.take i ++ ys.drop i) = l := by
  intro μ
  induction μ with
  | zero => intro i ys _ _ h; omega
  | succ μ ih =>
    intro i ys hy hi hm
    rw [p_laws_toFloat32S_l1_s]
    by_cases h : i < l.length
    · rw [decide_eq_true (show (i : Int) < (l.length : Int) by omega), cond_true]
      have hx : l[i]? = some (l.getD i 0) := by rw [List.getD_eq_getElem?_getD, List.getElem?_eq_getElem h]; rfl
      rw [Int.toNat_natCast, set_front l ys i (by omega) hy.symm _ hx]
      exact ih (i + 1) ys hy (by omega) (by omega)
    · rw [decide_eq_false (show ¬ (i : Int) < (l.length : Int) by omega), cond_false]
      rw [List.take_of_length_le (by omega), List.drop_eq_nil_of_le (by omega), List.append_nil]
theorem laws_toFloat32S_id (l : List Nat) : p_laws_toFloat32S l = l := by
  rw [p_laws_toFloat32S_eq]
  have := laws_toFloat32S_go l (Int.toNat ((l.length : Int) - 0) + 1) 0 (List.replicate ((l.length : Int)).toNat 0) (by simp) (by omega) (by omega)
  simpa using this
/-! laws_toFloat32S: function 22 -/
def E_laws_toFloat32S : Env := envOf []
def F_laws_toFloat32S : List Value → AHeap → (Value → AHeap → Prop) → Prop
  | [.slice a_a a_n a_e], H, K => T_laws_toFloat32S a_a a_n a_e H fun (r1_a : Option Addr) (r1_n : Nat) (r1_e : Nat) (H' : AHeap) => K (.slice r1_a r1_n r1_e) H'
  | _, _, _ => False
def S_laws_toFloat32S : FSpec := { F := F_laws_toFloat32S, quiet := false, tame := true }
theorem laws_toFloat32S_vc (a_a : Option Addr) (a_n : Nat) (a_e : Nat) (H : AHeap) (K : Value → AHeap → Prop) : bodyK Try.prog E_laws_toFloat32S Try.f22 [.slice a_a a_n a_e] H K =
  ((0 : Int) ≤ (a_n : Int) ∧ (a_n : Int) = (a_n : Int) ∧ (a_n : Int) < (most : Int) ∧ Al (zerosOf (.float .f32 0) ((a_n : Int)).toNat) H fun b1 H1 => loopK (exK Try.prog E_laws_toFloat32S (cl (cl (cr (cl (cr (cr (bodyC Try.f22)))))))) [.slice a_a a_n a_e, undef, .slice none 0 0, .slice (some ⟨b1, 0, none⟩) (((a_n : Int)).toNat) 1, .int .i64 0, .slice a_a a_n a_e, .int .i64 (a_n : Int), .slice (some ⟨b1, 0, none⟩) (((a_n : Int)).toNat) 1, undef, undef, undef, undef, undef, undef, undef, undef, undef, undef, undef, undef, undef, undef] H1 (blockQ 0 (seqQ (exK Try.prog E_laws_toFloat32S (cr (cr (cr (bodyC Try.f22))))) (retK Try.prog Try.f22 K)))) := by kernel_rfl
theorem laws_toFloat32S_r1 (a_a : Option Addr) (a_e : Nat) (a_n : Nat) (b1 : Nat) (i : Int) (g8 g9 g10 g11 g12 g13 g14 g15 g16 g17 g18 g19 g20 : Value) (H : AHeap) (R : Post) : exK Try.prog E_laws_toFloat32S (cl (cl (cr (cl (cr (cr (bodyC Try.f22))))))) [.slice a_a a_n a_e, undef, .slice none 0 0, .slice (some ⟨b1, 0, none⟩) (((a_n : Int)).toNat) 1, .int .i64 i, .slice a_a a_n a_e, .int .i64 (a_n : Int), .slice (some ⟨b1, 0, none⟩) (((a_n : Int)).toNat) 1, g8, g9, g10, g11, g12, g13, g14, g15, g16, g17, g18, g19, g20, undef] H R =
  (Br (decide ((i : Int) < (a_n : Int))) ((0 : Int) ≤ i ∧ i < (a_n : Int) ∧ ∃ b2 f1, (a_a : Option Addr) = some ⟨b2, f1, none⟩ ∧ ∃ x1 : Nat,  rdC H b2 (f1 + (i : Int).toNat * 1) = some (.float .f32 x1) ∧ (0 : Int) ≤ i ∧ i < (((a_n : Int)).toNat : Int) ∧ ∃ b3 f2, (some ⟨b1, 0, none⟩ : Option Addr) = some ⟨b3, f2, none⟩ ∧ isOwn H b3 ∧ (∃ l, rdN H b3 (f2 + (i : Int).toNat * 1) 1 = some l) ∧ Lt (setC H b3 (f2 + (i : Int).toNat * 1) (.float .f32 x1)) fun H2 => R .normal [.slice a_a a_n a_e, undef, .slice none 0 0, .slice (some ⟨b1, 0, none⟩) (((a_n : Int)).toNat) 1, .int .i64 (IntKind.wrap .i64 (i + 1)), .slice a_a a_n a_e, .int .i64 (a_n : Int), .slice (some ⟨b1, 0, none⟩) (((a_n : Int)).toNat) 1, .int .i64 i, .slice a_a a_n a_e, .int .i64 (a_n : Int), .bool (decide ((i : Int) < (a_n : Int))), .int .i64 i, .int .i64 (IntKind.wrap .i64 (i + 1)), .slice (some ⟨b1, 0, none⟩) (((a_n : Int)).toNat) 1, .int .i64 i, .slice a_a a_n a_e, .int .i64 i, .pointer (some ⟨b2, f1 + (i : Int).toNat * 1, none⟩), .float .f32 x1, .pointer (some ⟨b3, f2 + (i : Int).toNat * 1, none⟩), undef] H2) (R (.exit 0) [.slice a_a a_n a_e, undef, .slice none 0 0, .slice (some ⟨b1, 0, none⟩) (((a_n : Int)).toNat) 1, .int .i64 i, .slice a_a a_n a_e, .int .i64 (a_n : Int), .slice (some ⟨b1, 0, none⟩) (((a_n : Int)).toNat) 1, .int .i64 i, .slice a_a a_n a_e, .int .i64 (a_n : Int), .bool (decide ((i : Int) < (a_n : Int))), g12, g13, g14, g15, g16, g17, g18, g19, g20, undef] H)) := by kernel_rfl
def laws_toFloat32S_I1 (a_a : Option Addr) (a_e : Nat) (a_n : Nat) (b1 : Nat) (Inv : Nat → Int → AHeap → Prop) : Nat → List Value → AHeap → Prop := fun μ tm H => ∃ (i : Int), ∃ g8 g9 g10 g11 g12 g13 g14 g15 g16 g17 g18 g19 g20, tm = [.slice a_a a_n a_e, undef, .slice none 0 0, .slice (some ⟨b1, 0, none⟩) (((a_n : Int)).toNat) 1, .int .i64 i, .slice a_a a_n a_e, .int .i64 (a_n : Int), .slice (some ⟨b1, 0, none⟩) (((a_n : Int)).toNat) 1, g8, g9, g10, g11, g12, g13, g14, g15, g16, g17, g18, g19, g20, undef] ∧ Inv μ i H
theorem laws_toFloat32S_L1 (a_a : Option Addr) (a_e : Nat) (a_n : Nat) (b1 : Nat) {Q : Post} (Inv : Nat → Int → AHeap → Prop) (ν : Nat) (i : Int) (g8 g9 g10 g11 g12 g13 g14 g15 g16 g17 g18 g19 g20 : Value) (H : AHeap) (h0 : Inv ν i H)
    (hs : ∀ (μ : Nat) (i : Int) (g8 g9 g10 g11 g12 g13 g14 g15 g16 g17 g18 g19 g20 : Value) (H : AHeap), Inv μ i H → exK Try.prog E_laws_toFloat32S (cl (cl (cr (cl (cr (cr (bodyC Try.f22))))))) [.slice a_a a_n a_e, undef, .slice none 0 0, .slice (some ⟨b1, 0, none⟩) (((a_n : Int)).toNat) 1, .int .i64 i, .slice a_a a_n a_e, .int .i64 (a_n : Int), .slice (some ⟨b1, 0, none⟩) (((a_n : Int)).toNat) 1, g8, g9, g10, g11, g12, g13, g14, g15, g16, g17, g18, g19, g20, undef] H (loopQ (laws_toFloat32S_I1 a_a a_e a_n b1 Inv) μ Q)) : loopK (exK Try.prog E_laws_toFloat32S (cl (cl (cr (cl (cr (cr (bodyC Try.f22)))))))) [.slice a_a a_n a_e, undef, .slice none 0 0, .slice (some ⟨b1, 0, none⟩) (((a_n : Int)).toNat) 1, .int .i64 i, .slice a_a a_n a_e, .int .i64 (a_n : Int), .slice (some ⟨b1, 0, none⟩) (((a_n : Int)).toNat) 1, g8, g9, g10, g11, g12, g13, g14, g15, g16, g17, g18, g19, g20, undef] H Q :=
  ⟨laws_toFloat32S_I1 a_a a_e a_n b1 Inv, ν, ⟨i, g8, g9, g10, g11, g12, g13, g14, g15, g16, g17, g18, g19, g20, rfl, h0⟩, fun μ tm H h => by obtain ⟨i, g8, g9, g10, g11, g12, g13, g14, g15, g16, g17, g18, g19, g20, rfl, hI⟩ := h; exact hs μ i g8 g9 g10 g11 g12 g13 g14 g15 g16 g17 g18 g19 g20 H hI⟩
theorem laws_toFloat32S_n1 {a_a : Option Addr} {a_e : Nat} {a_n : Nat} {b1 : Nat} {Q : Post} {Inv : Nat → Int → AHeap → Prop} {μ : Nat} (μ' : Nat) {i : Int} {g8 g9 g10 g11 g12 g13 g14 g15 g16 g17 g18 g19 g20 : Value} {H : AHeap} (hm : μ' < μ) (hI : Inv μ' i H) : loopQ (laws_toFloat32S_I1 a_a a_e a_n b1 Inv) μ Q .normal [.slice a_a a_n a_e, undef, .slice none 0 0, .slice (some ⟨b1, 0, none⟩) (((a_n : Int)).toNat) 1, .int .i64 i, .slice a_a a_n a_e, .int .i64 (a_n : Int), .slice (some ⟨b1, 0, none⟩) (((a_n : Int)).toNat) 1, g8, g9, g10, g11, g12, g13, g14, g15, g16, g17, g18, g19, g20, undef] H := ⟨μ', hm, i, g8, g9, g10, g11, g12, g13, g14, g15, g16, g17, g18, g19, g20, rfl, hI⟩
theorem laws_toFloat32S_x1_0 (a_a : Option Addr) (a_e : Nat) (a_n : Nat) (b1 : Nat) (i : Int) (g8 g9 g10 g11 g12 g13 g14 g15 g16 g17 g18 g19 g20 : Value) (H : AHeap) (K : Value → AHeap → Prop)  {I : Nat → List Value → AHeap → Prop} {μ : Nat} : loopQ I μ (blockQ 0 (seqQ (exK Try.prog E_laws_toFloat32S (cr (cr (cr (bodyC Try.f22))))) (retK Try.prog Try.f22 K))) (.exit 0) [.slice a_a a_n a_e, undef, .slice none 0 0, .slice (some ⟨b1, 0, none⟩) (((a_n : Int)).toNat) 1, .int .i64 i, .slice a_a a_n a_e, .int .i64 (a_n : Int), .slice (some ⟨b1, 0, none⟩) (((a_n : Int)).toNat) 1, g8, g9, g10, g11, g12, g13, g14, g15, g16, g17, g18, g19, g20, undef] H =
  (K (.slice (some ⟨b1, 0, none⟩) (((a_n : Int)).toNat) 1) H) := by kernel_rfl
theorem E_laws_toFloat32S_ok : ∀ g, FnOk Try.prog g (E_laws_toFloat32S g) := FnOk.envOf (by
  intro x hx; cases hx)
set_option maxHeartbeats 1000000 in
theorem laws_toFloat32S_main (a_a : Option Addr) (a_n : Nat) (a_e : Nat) (H : AHeap) (K : Value → AHeap → Prop) (h : T_laws_toFloat32S a_a a_n a_e H fun (r1_a : Option Addr) (r1_n : Nat) (r1_e : Nat) (H' : AHeap) => K (.slice r1_a r1_n r1_e) H') : bodyK Try.prog E_laws_toFloat32S Try.f22 [.slice a_a a_n a_e] H K := by
  rw [laws_toFloat32S_vc]
  obtain ⟨l_a, i_a, bd_29, hk⟩ := h
  have hk : (∀ (r1_a : Option Addr) (r1_n r1_e : Nat), ∀ H' : AHeap, Grow H H' → OwnS fF H' H.length r1_a r1_n r1_e (p_laws_toFloat32S l_a) → (fun (r1_a : Option Addr) (r1_n : Nat) (r1_e : Nat) (H' : AHeap) => K (.slice r1_a r1_n r1_e) H') r1_a r1_n r1_e H') := by rw [laws_toFloat32S_id l_a]; exact hk
  obtain rfl := i_a.eqn
  have e : (p_laws_toFloat32S l_a) = _ := rfl
  have e := e.trans (p_laws_toFloat32S_eq l_a)
  have g0 := Grow.refl H
  refine ⟨by omega, rfl, (by have := most_eq; omega), ?_⟩
  refine Al.intro (fun b_1 H_1 hb_2 hl_3 g_4 o_5 => ?_)
  rw [zeros_map fF 0 _ rfl] at o_5
  have l_7 := g_4.1
  have g_8 := g0.trans g_4
  have l_9 := g_8.1
  have w_28 := o_5.lt
  refine laws_toFloat32S_L1 _ _ _ _ (fun (μ : Nat) (i : Int) (H_2 : AHeap) => ∃ (y1_1 : List Nat), Own H_2 b_1 (y1_1.map fF) ∧ y1_1.length = ((l_a.length : Int)).toNat ∧ Grow H H_2 ∧ (0 : Int) ≤ i ∧ i ≤ (l_a.length : Int) ∧ (l_a.length : Int) - i ≤ (μ : Int) ∧ p_laws_toFloat32S l_a = p_laws_toFloat32S_l1 l_a (μ + 1) i y1_1) (Int.toNat ((l_a.length : Int) - (0 : Int))) _ _ _ _ _ _ _ _ _ _ _ _ _ _ H_1 ?_ ?_
  · exact ⟨_, o_5, (by first | rfl | (simp; done)), g_8, (by first | omega | (simp; done) | (simp; omega)), (by first | omega | (simp; done) | (simp; omega)), (by omega), e⟩
  · intro μ i g8 g9 g10 g11 g12 g13 g14 g15 g16 g17 g18 g19 g20 H_2 hI
    obtain ⟨y1_1, o_10, y_11, g_12, v_13, v_14, hμ, e⟩ := hI
    rw [laws_toFloat32S_r1]
    have e := e.trans (p_laws_toFloat32S_l1_s l_a μ i y1_1)
    have w_15 := o_10.lt
    have l_16 := g_12.1
    refine Br.intro (fun c_17 => ?_) (fun c_17 => ?_)
    · have e := e.trans (cond_t c_17)
      have c_17' := of_decide_eq_true c_17
      obtain ⟨b_18, f_19, q_20⟩ := ((i_a.grow g_12)).pos (by first | omega | (simp only [List.length_set, List.length_replicate, List.length_append, List.length_cons, List.length_nil, List.length_take, List.length_drop, marks_length]; done) | (simp only [List.length_set, List.length_replicate, List.length_append, List.length_cons, List.length_nil, List.length_take, List.length_drop, marks_length]; omega))
      refine ⟨by omega, by omega, b_18, f_19, q_20, ?_⟩
      refine ⟨((l_a).getD (i : Int).toNat 0), (i_a).rd g_12 q_20 (by omega) _, ?_⟩
      refine ⟨by omega, (by omega), _, _, rfl, ?_⟩
      refine Lt.set o_10 (by simp only [List.length_map]; (first | omega | (simp only [List.length_set, List.length_replicate, List.length_append, List.length_cons, List.length_nil, List.length_take, List.length_drop, marks_length]; done) | (simp only [List.length_set, List.length_replicate, List.length_append, List.length_cons, List.length_nil, List.length_take, List.length_drop, marks_length]; omega))) (fun H_3 hl_21 o_23 k_22 => ?_)
      have o_23 := map_set o_23
      have l_24 := k_22.1
      have g_25 := g_12.keep (b := b_1) (by omega) k_22
      have l_26 := g_25.1
      have w_27 := o_23.lt
      rw [show IntKind.wrap .i64 (i + 1) = (i + 1) from wrap64 (by omega) (by omega)]
      refine laws_toFloat32S_n1 (μ - 1) (by omega) ⟨_, o_23, (by first | assumption | omega | (simp only [List.length_set]; first | rfl | assumption | omega)), g_25, (by first | omega | (simp only [List.length_append, List.length_cons, List.length_nil, List.length_set]; done) | (simp only [List.length_append, List.length_cons, List.length_nil, List.length_set]; omega)), (by first | omega | (simp only [List.length_append, List.length_cons, List.length_nil, List.length_set]; done) | (simp only [List.length_append, List.length_cons, List.length_nil, List.length_set]; omega)), (by omega), (by rw [show μ - 1 + 1 = μ from by omega]; exact e)⟩
    · have e := e.trans (cond_f c_17)
      have c_17' := of_decide_eq_false c_17
      rw [laws_toFloat32S_x1_0]
      rw [e] at hk
      exact hk _ _ _ H_2 g_12 (o_10.ownS (by first | (simp only [List.length_replicate]; done) | omega | (simp; omega)) (by omega))
theorem laws_toFloat32S_ok : FnOk Try.prog 22 S_laws_toFloat32S := by
  refine FnOk.body mix_ok E_laws_toFloat32S_ok Try.func22 rfl (by kernel_rfl) (by kernel_rfl) ?_ ?_ ?_ ?_ ?_
  · intro args H K K' h hk
    simp only [S_laws_toFloat32S] at *
    unfold F_laws_toFloat32S at *
    split at hk
    · obtain ⟨l_a, i_a, bd_29, k⟩ := hk
      exact ⟨l_a, i_a, bd_29, (fun r1_a r1_n r1_e H' gg ow0 => h _ _ (k r1_a r1_n r1_e H' gg ow0))⟩
    · exact hk.elim
  · intro hq; cases hq
  · intro args H K hk
    simp only [S_laws_toFloat32S] at *
    unfold F_laws_toFloat32S at *
    split at hk
    · obtain ⟨l_a, i_a, bd_29, k⟩ := hk
      exact liveS fun a n e H1 g o => ⟨_, _, k a n e H1 g o⟩
    · exact hk.elim
  · intro _ args H K hk
    simp only [S_laws_toFloat32S] at *
    unfold F_laws_toFloat32S at *
    split at hk
    · obtain ⟨l_a, i_a, bd_29, k⟩ := hk
      exact ⟨l_a, i_a, bd_29, (fun r1_a r1_n r1_e H' gg ow0 => ⟨gg, k r1_a r1_n r1_e H' gg ow0⟩)⟩
    · exact hk.elim
  · have mm := @laws_toFloat32S_main
    revert mm
    generalize bodyK Try.prog E_laws_toFloat32S Try.f22 = Q
    intro mm args H K hk
    simp only [S_laws_toFloat32S] at *
    unfold F_laws_toFloat32S at *
    split at hk
    · exact mm _ _ _ H K hk
    · exact hk.elim
def p_spec_l01Finite (x : Nat) : Bool := feq .f32 (fsub .f32 x x) 0
theorem p_spec_l01Finite_eq (x : Nat) : p_spec_l01Finite x = feq .f32 (fsub .f32 x x) 0 := rfl
def T_spec_l01Finite (x : Nat) (H : AHeap) (K : Bool → AHeap → Prop) : Prop := K (p_spec_l01Finite x) H

theorem T_spec_l01Finite_i {x : Nat} {H : AHeap} {K : Bool → AHeap → Prop} (h : K (p_spec_l01Finite x) H) : T_spec_l01Finite x H K := h
/-! spec_l01Finite: function 56 -/
def E_spec_l01Finite : Env := envOf []
def F_spec_l01Finite : List Value → AHeap → (Value → AHeap → Prop) → Prop
  | [.float .f32 x], H, K => T_spec_l01Finite x H fun (r1 : Bool) (H' : AHeap) => K (.bool r1) H'
  | _, _, _ => False
def S_spec_l01Finite : FSpec := { F := F_spec_l01Finite, quiet := true, tame := false }
theorem spec_l01Finite_vc (x : Nat) (H : AHeap) (K : Value → AHeap → Prop) : bodyK Try.prog E_spec_l01Finite Try.f56 [.float .f32 x] H K =
  (K (.bool (feq .f32 (fsub .f32 x x) 0)) H) := by kernel_rfl
theorem E_spec_l01Finite_ok : ∀ g, FnOk Try.prog g (E_spec_l01Finite g) := FnOk.envOf (by
  intro x hx; cases hx)
set_option maxHeartbeats 1000000 in
theorem spec_l01Finite_main (x : Nat) (H : AHeap) (K : Value → AHeap → Prop) (h : T_spec_l01Finite x H fun (r1 : Bool) (H' : AHeap) => K (.bool r1) H') : bodyK Try.prog E_spec_l01Finite Try.f56 [.float .f32 x] H K := by
  rw [spec_l01Finite_vc]
  unfold T_spec_l01Finite p_spec_l01Finite at h
  repeat' (first | exact h | (exfalso; simp_all; done) | (refine ⟨by decide, ?_⟩) | (refine Br.intro (fun hb => ?_) (fun hb => ?_) <;> (try simp only [hb, cond_true, cond_false, Bool.not_true, Bool.not_false] at h)))
theorem spec_l01Finite_ok : FnOk Try.prog 56 S_spec_l01Finite := by
  refine FnOk.body mix_ok E_spec_l01Finite_ok Try.func56 rfl (by kernel_rfl) (by kernel_rfl) ?_ ?_ ?_ ?_ ?_
  · intro args H K K' h hk
    simp only [S_spec_l01Finite] at *
    unfold F_spec_l01Finite at *
    split at hk
    · have k := hk
      exact h _ _ k
    · exact hk.elim
  · intro _ args H K hk
    simp only [S_spec_l01Finite] at *
    unfold F_spec_l01Finite at *
    split at hk
    · have k := hk
      exact ⟨_, k, fun K' k' => k'⟩
    · exact hk.elim
  · intro args H K hk
    simp only [S_spec_l01Finite] at *
    unfold F_spec_l01Finite at *
    split at hk
    · have k := hk
      exact ⟨_, _, k⟩
    · exact hk.elim
  · intro hq; cases hq
  · have mm := @spec_l01Finite_main
    revert mm
    generalize bodyK Try.prog E_spec_l01Finite Try.f56 = Q
    intro mm args H K hk
    simp only [S_spec_l01Finite] at *
    unfold F_spec_l01Finite at *
    split at hk
    · exact mm _ H K hk
    · exact hk.elim
def p_spec_l02Least (x : Nat) : Bool := (bif (p_spec_l01Finite x) then fle .f32 0 x else false)
theorem p_spec_l02Least_eq (x : Nat) : p_spec_l02Least x = (bif (p_spec_l01Finite x) then fle .f32 0 x else false) := rfl
def T_spec_l02Least (x : Nat) (H : AHeap) (K : Bool → AHeap → Prop) : Prop := K (p_spec_l02Least x) H

theorem T_spec_l02Least_i {x : Nat} {H : AHeap} {K : Bool → AHeap → Prop} (h : K (p_spec_l02Least x) H) : T_spec_l02Least x H K := h
/-! spec_l02Least: function 57 -/
def E_spec_l02Least : Env := envOf [(56, S_spec_l01Finite)]
def F_spec_l02Least : List Value → AHeap → (Value → AHeap → Prop) → Prop
  | [.float .f32 x], H, K => T_spec_l02Least x H fun (r1 : Bool) (H' : AHeap) => K (.bool r1) H'
  | _, _, _ => False
def S_spec_l02Least : FSpec := { F := F_spec_l02Least, quiet := true, tame := false }
theorem spec_l02Least_vc (x : Nat) (H : AHeap) (K : Value → AHeap → Prop) : bodyK Try.prog E_spec_l02Least Try.f57 [.float .f32 x] H K =
  (T_spec_l01Finite x H fun (r1 : Bool) (H1 : AHeap) => Br r1 (K (.bool (fle .f32 0 x)) H1) (K (.bool false) H1)) := by kernel_rfl
theorem E_spec_l02Least_ok : ∀ g, FnOk Try.prog g (E_spec_l02Least g) := FnOk.envOf (by
  intro x hx
  simp only [List.mem_cons, List.not_mem_nil, or_false] at hx
  subst hx; exact spec_l01Finite_ok)
set_option maxHeartbeats 1000000 in
theorem spec_l02Least_main (x : Nat) (H : AHeap) (K : Value → AHeap → Prop) (h : T_spec_l02Least x H fun (r1 : Bool) (H' : AHeap) => K (.bool r1) H') : bodyK Try.prog E_spec_l02Least Try.f57 [.float .f32 x] H K := by
  rw [spec_l02Least_vc]
  simp only [T_spec_l01Finite]
  unfold T_spec_l02Least p_spec_l02Least at h
  repeat' (first | exact h | (exfalso; simp_all; done) | (refine ⟨by decide, ?_⟩) | (refine Br.intro (fun hb => ?_) (fun hb => ?_) <;> (try simp only [hb, cond_true, cond_false, Bool.not_true, Bool.not_false] at h)))
theorem spec_l02Least_ok : FnOk Try.prog 57 S_spec_l02Least := by
  refine FnOk.body mix_ok E_spec_l02Least_ok Try.func57 rfl (by kernel_rfl) (by kernel_rfl) ?_ ?_ ?_ ?_ ?_
  · intro args H K K' h hk
    simp only [S_spec_l02Least] at *
    unfold F_spec_l02Least at *
    split at hk
    · have k := hk
      exact h _ _ k
    · exact hk.elim
  · intro _ args H K hk
    simp only [S_spec_l02Least] at *
    unfold F_spec_l02Least at *
    split at hk
    · have k := hk
      exact ⟨_, k, fun K' k' => k'⟩
    · exact hk.elim
  · intro args H K hk
    simp only [S_spec_l02Least] at *
    unfold F_spec_l02Least at *
    split at hk
    · have k := hk
      exact ⟨_, _, k⟩
    · exact hk.elim
  · intro hq; cases hq
  · have mm := @spec_l02Least_main
    revert mm
    generalize bodyK Try.prog E_spec_l02Least Try.f57 = Q
    intro mm args H K hk
    simp only [S_spec_l02Least] at *
    unfold F_spec_l02Least at *
    split at hk
    · exact mm _ H K hk
    · exact hk.elim
def p_spec_l06Table_l1 (l_bits : List Int) (l_misses : List Nat) : Nat → Bool → Int → Bool
  | 0, _, _ => false
  | μ + 1, t4, i => (bif decide ((i : Int) < (l_bits.length : Int)) then (bif decide ((((l_bits).getD (i : Int).toNat 0) : Int) < 0) then false else (bif decide ((0 : Int) < i) then (bif decide ((((l_bits).getD (i : Int).toNat 0) : Int) ≤ ((l_bits).getD ((i - 1) : Int).toNat 0)) then false else (bif !((p_spec_l02Least (((l_misses).getD (i : Int).toNat 0)))) then false else (p_spec_l06Table_l1 l_bits l_misses μ t4 (i + 1)))) else (bif !((p_spec_l02Least (((l_misses).getD (i : Int).toNat 0)))) then false else (p_spec_l06Table_l1 l_bits l_misses μ t4 (i + 1))))) else true)
theorem p_spec_l06Table_l1_s (l_bits : List Int) (l_misses : List Nat) (μ : Nat) (t4 : Bool) (i : Int) : p_spec_l06Table_l1 l_bits l_misses (μ + 1) t4 i = (bif decide ((i : Int) < (l_bits.length : Int)) then (bif decide ((((l_bits).getD (i : Int).toNat 0) : Int) < 0) then false else (bif decide ((0 : Int) < i) then (bif decide ((((l_bits).getD (i : Int).toNat 0) : Int) ≤ ((l_bits).getD ((i - 1) : Int).toNat 0)) then false else (bif !((p_spec_l02Least (((l_misses).getD (i : Int).toNat 0)))) then false else (p_spec_l06Table_l1 l_bits l_misses μ t4 (i + 1)))) else (bif !((p_spec_l02Least (((l_misses).getD (i : Int).toNat 0)))) then false else (p_spec_l06Table_l1 l_bits l_misses μ t4 (i + 1))))) else true) := rfl
def p_spec_l06Table (l_bits : List Int) (l_misses : List Nat) : Bool := (bif decide (((l_bits.length : Int) : Int) < 1) then false else (bif decide ((64 : Int) < (l_bits.length : Int)) then false else (bif ((l_misses.length : Int) : Int) != (l_bits.length : Int) then false else (p_spec_l06Table_l1 l_bits l_misses (Int.toNat ((l_bits.length : Int) - (0 : Int)) + 1) false (0 : Int)))))
theorem p_spec_l06Table_eq (l_bits : List Int) (l_misses : List Nat) : p_spec_l06Table l_bits l_misses = (bif decide (((l_bits.length : Int) : Int) < 1) then false else (bif decide ((64 : Int) < (l_bits.length : Int)) then false else (bif ((l_misses.length : Int) : Int) != (l_bits.length : Int) then false else (p_spec_l06Table_l1 l_bits l_misses (Int.toNat ((l_bits.length : Int) - (0 : Int)) + 1) false (0 : Int))))) := rfl
def T_spec_l06Table (bits_a : Option Addr) (bits_n : Nat) (bits_e : Nat) (misses_a : Option Addr) (misses_n : Nat) (misses_e : Nat) (H : AHeap) (K : Bool → AHeap → Prop) : Prop := ∃ (l_bits : List Int), ∃ (l_misses : List Nat), IsL fI H bits_a bits_n l_bits ∧ IsL fF H misses_a misses_n l_misses ∧ l_bits.length < 1073741824 ∧ l_misses.length < 1073741824 ∧ K (p_spec_l06Table l_bits l_misses) H
theorem T_spec_l06Table_i {bits_a : Option Addr} {bits_n : Nat} {bits_e : Nat} {misses_a : Option Addr} {misses_n : Nat} {misses_e : Nat} {H : AHeap} {K : Bool → AHeap → Prop} (h : ∃ (l_bits : List Int), ∃ (l_misses : List Nat), IsL fI H bits_a bits_n l_bits ∧ IsL fF H misses_a misses_n l_misses ∧ l_bits.length < 1073741824 ∧ l_misses.length < 1073741824 ∧ K (p_spec_l06Table l_bits l_misses) H) : T_spec_l06Table bits_a bits_n bits_e misses_a misses_n misses_e H K := h
theorem spec_l06Table_t {l : List Int} {r : List Nat} (h : p_spec_l06Table l r = true) : 1 ≤ (l.length : Int) ∧ (l.length : Int) ≤ 64 ∧ (r.length : Int) = (l.length : Int) := by
  rw [p_spec_l06Table_eq] at h
  by_cases h1 : (l.length : Int) < 1
  · rw [decide_eq_true h1] at h; cases h
  · rw [decide_eq_false h1, cond_false] at h
    by_cases h2 : 64 < (l.length : Int)
    · rw [decide_eq_true h2] at h; cases h
    · rw [decide_eq_false h2, cond_false] at h
      cases h3 : ((r.length : Int) != (l.length : Int))
      · exact ⟨by omega, by omega, ine_f h3⟩
      · rw [h3] at h; cases h
/-! spec_l06Table: function 53 -/
def E_spec_l06Table : Env := envOf [(57, S_spec_l02Least)]
def F_spec_l06Table : List Value → AHeap → (Value → AHeap → Prop) → Prop
  | [.slice bits_a bits_n bits_e, .slice misses_a misses_n misses_e], H, K => T_spec_l06Table bits_a bits_n bits_e misses_a misses_n misses_e H fun (r1 : Bool) (H' : AHeap) => K (.bool r1) H'
  | _, _, _ => False
def S_spec_l06Table : FSpec := { F := F_spec_l06Table, quiet := true, tame := false }
theorem spec_l06Table_vc (bits_a : Option Addr) (bits_n : Nat) (bits_e : Nat) (misses_a : Option Addr) (misses_n : Nat) (misses_e : Nat) (H : AHeap) (K : Value → AHeap → Prop) : bodyK Try.prog E_spec_l06Table Try.f53 [.slice bits_a bits_n bits_e, .slice misses_a misses_n misses_e] H K =
  (Br (decide (((bits_n : Int) : Int) < 1)) (K (.bool false) H) (Br (decide ((64 : Int) < (bits_n : Int))) (K (.bool false) H) (Br (((misses_n : Int) : Int) != (bits_n : Int)) (K (.bool false) H) (loopK (exK Try.prog E_spec_l06Table (cl (cl (cr (cl (cr (cr (bodyC Try.f53)))))))) [.slice bits_a bits_n bits_e, .slice misses_a misses_n misses_e, undef, undef, .bool false, .int .i64 0, .slice bits_a bits_n bits_e, .int .i64 (bits_n : Int), .bool (decide (((bits_n : Int) : Int) < 1)), .bool false, .slice bits_a bits_n bits_e, .int .i64 (bits_n : Int), .bool (decide ((64 : Int) < (bits_n : Int))), .bool (decide ((64 : Int) < (bits_n : Int))), .bool false, .slice misses_a misses_n misses_e, .int .i64 (misses_n : Int), .slice bits_a bits_n bits_e, .int .i64 (bits_n : Int), .bool (((misses_n : Int) : Int) != (bits_n : Int)), .bool (((misses_n : Int) : Int) != (bits_n : Int)), undef, undef, undef, undef, undef, undef, undef, undef, undef, undef, undef, undef, undef, undef, undef, undef, undef, undef, undef, undef, undef, undef, undef, undef, undef, undef, undef, undef, undef, undef, undef, undef, undef, undef, undef] H (blockQ 0 (seqQ (exK Try.prog E_spec_l06Table (cr (cr (cr (bodyC Try.f53))))) (retK Try.prog Try.f53 K))))))) := by kernel_rfl
theorem spec_l06Table_r1 (bits_a : Option Addr) (bits_e : Nat) (bits_n : Nat) (misses_a : Option Addr) (misses_e : Nat) (misses_n : Nat) (t4 : Bool) (i : Int) (g21 g22 g23 g24 g25 g26 g27 g28 g29 g30 g31 g32 g33 g34 g35 g36 g37 g38 g39 g40 g41 g42 g43 g44 g45 g46 g47 g48 g49 g50 g51 g52 g53 g54 g55 : Value) (H : AHeap) (R : Post) : exK Try.prog E_spec_l06Table (cl (cl (cr (cl (cr (cr (bodyC Try.f53))))))) [.slice bits_a bits_n bits_e, .slice misses_a misses_n misses_e, undef, undef, .bool t4, .int .i64 i, .slice bits_a bits_n bits_e, .int .i64 (bits_n : Int), .bool (decide (((bits_n : Int) : Int) < 1)), .bool false, .slice bits_a bits_n bits_e, .int .i64 (bits_n : Int), .bool (decide ((64 : Int) < (bits_n : Int))), .bool (decide ((64 : Int) < (bits_n : Int))), .bool false, .slice misses_a misses_n misses_e, .int .i64 (misses_n : Int), .slice bits_a bits_n bits_e, .int .i64 (bits_n : Int), .bool (((misses_n : Int) : Int) != (bits_n : Int)), .bool (((misses_n : Int) : Int) != (bits_n : Int)), g21, g22, g23, g24, g25, g26, g27, g28, g29, g30, g31, g32, g33, g34, g35, g36, g37, g38, g39, g40, g41, g42, g43, g44, g45, g46, g47, g48, g49, g50, g51, g52, g53, g54, g55] H R =
  (Br (decide ((i : Int) < (bits_n : Int))) ((0 : Int) ≤ i ∧ i < (bits_n : Int) ∧ ∃ b1 f1, (bits_a : Option Addr) = some ⟨b1, f1, none⟩ ∧ ∃ x1 : Int,  rdC H b1 (f1 + (i : Int).toNat * 1) = some (.int .i64 x1) ∧ Br (decide ((x1 : Int) < 0)) (R .ret [.slice bits_a bits_n bits_e, .slice misses_a misses_n misses_e, undef, undef, .bool false, .int .i64 i, .slice bits_a bits_n bits_e, .int .i64 (bits_n : Int), .bool (decide (((bits_n : Int) : Int) < 1)), .bool false, .slice bits_a bits_n bits_e, .int .i64 (bits_n : Int), .bool (decide ((64 : Int) < (bits_n : Int))), .bool (decide ((64 : Int) < (bits_n : Int))), .bool false, .slice misses_a misses_n misses_e, .int .i64 (misses_n : Int), .slice bits_a bits_n bits_e, .int .i64 (bits_n : Int), .bool (((misses_n : Int) : Int) != (bits_n : Int)), .bool (((misses_n : Int) : Int) != (bits_n : Int)), .int .i64 i, .slice bits_a bits_n bits_e, .int .i64 (bits_n : Int), .bool (decide ((i : Int) < (bits_n : Int))), g25, g26, .slice bits_a bits_n bits_e, .int .i64 i, .pointer (some ⟨b1, f1 + (i : Int).toNat * 1, none⟩), .int .i64 x1, .bool (decide ((x1 : Int) < 0)), .bool true, undef, undef, undef, undef, undef, undef, undef, undef, undef, undef, undef, undef, undef, undef, .bool true, .bool true, undef, undef, undef, undef, undef, undef, .bool true] H) (Br (decide ((0 : Int) < i)) ((0 : Int) ≤ i ∧ i < (bits_n : Int) ∧ ∃ b2 f2, (bits_a : Option Addr) = some ⟨b2, f2, none⟩ ∧ ∃ x2 : Int,  rdC H b2 (f2 + (i : Int).toNat * 1) = some (.int .i64 x2) ∧ (0 : Int) ≤ IntKind.wrap .i64 (i - 1) ∧ IntKind.wrap .i64 (i - 1) < (bits_n : Int) ∧ ∃ b3 f3, (bits_a : Option Addr) = some ⟨b3, f3, none⟩ ∧ ∃ x3 : Int,  rdC H b3 (f3 + (IntKind.wrap .i64 (i - 1) : Int).toNat * 1) = some (.int .i64 x3) ∧ Br (decide ((x2 : Int) ≤ x3)) (R .ret [.slice bits_a bits_n bits_e, .slice misses_a misses_n misses_e, undef, undef, .bool false, .int .i64 i, .slice bits_a bits_n bits_e, .int .i64 (bits_n : Int), .bool (decide (((bits_n : Int) : Int) < 1)), .bool false, .slice bits_a bits_n bits_e, .int .i64 (bits_n : Int), .bool (decide ((64 : Int) < (bits_n : Int))), .bool (decide ((64 : Int) < (bits_n : Int))), .bool false, .slice misses_a misses_n misses_e, .int .i64 (misses_n : Int), .slice bits_a bits_n bits_e, .int .i64 (bits_n : Int), .bool (((misses_n : Int) : Int) != (bits_n : Int)), .bool (((misses_n : Int) : Int) != (bits_n : Int)), .int .i64 i, .slice bits_a bits_n bits_e, .int .i64 (bits_n : Int), .bool (decide ((i : Int) < (bits_n : Int))), g25, g26, .slice bits_a bits_n bits_e, .int .i64 i, .pointer (some ⟨b1, f1 + (i : Int).toNat * 1, none⟩), .int .i64 x1, .bool (decide ((x1 : Int) < 0)), .bool false, .int .i64 i, .bool (decide ((0 : Int) < i)), .bool true, .slice bits_a bits_n bits_e, .int .i64 i, .pointer (some ⟨b2, f2 + (i : Int).toNat * 1, none⟩), .int .i64 x2, .slice bits_a bits_n bits_e, .int .i64 i, .int .i64 (IntKind.wrap .i64 (i - 1)), .pointer (some ⟨b3, f3 + (IntKind.wrap .i64 (i - 1) : Int).toNat * 1, none⟩), .int .i64 x3, .bool (decide ((x2 : Int) ≤ x3)), .bool (decide ((x2 : Int) ≤ x3)), .bool (decide ((x2 : Int) ≤ x3)), .bool true, undef, undef, undef, undef, undef, undef, .bool true] H) ((0 : Int) ≤ i ∧ i < (misses_n : Int) ∧ ∃ b4 f4, (misses_a : Option Addr) = some ⟨b4, f4, none⟩ ∧ ∃ x4 : Nat,  rdC H b4 (f4 + (i : Int).toNat * 1) = some (.float .f32 x4) ∧ T_spec_l02Least x4 H fun (r1 : Bool) (H1 : AHeap) => Br (!r1) (R .ret [.slice bits_a bits_n bits_e, .slice misses_a misses_n misses_e, undef, undef, .bool false, .int .i64 i, .slice bits_a bits_n bits_e, .int .i64 (bits_n : Int), .bool (decide (((bits_n : Int) : Int) < 1)), .bool false, .slice bits_a bits_n bits_e, .int .i64 (bits_n : Int), .bool (decide ((64 : Int) < (bits_n : Int))), .bool (decide ((64 : Int) < (bits_n : Int))), .bool false, .slice misses_a misses_n misses_e, .int .i64 (misses_n : Int), .slice bits_a bits_n bits_e, .int .i64 (bits_n : Int), .bool (((misses_n : Int) : Int) != (bits_n : Int)), .bool (((misses_n : Int) : Int) != (bits_n : Int)), .int .i64 i, .slice bits_a bits_n bits_e, .int .i64 (bits_n : Int), .bool (decide ((i : Int) < (bits_n : Int))), g25, g26, .slice bits_a bits_n bits_e, .int .i64 i, .pointer (some ⟨b1, f1 + (i : Int).toNat * 1, none⟩), .int .i64 x1, .bool (decide ((x1 : Int) < 0)), .bool false, .int .i64 i, .bool (decide ((0 : Int) < i)), .bool true, .slice bits_a bits_n bits_e, .int .i64 i, .pointer (some ⟨b2, f2 + (i : Int).toNat * 1, none⟩), .int .i64 x2, .slice bits_a bits_n bits_e, .int .i64 i, .int .i64 (IntKind.wrap .i64 (i - 1)), .pointer (some ⟨b3, f3 + (IntKind.wrap .i64 (i - 1) : Int).toNat * 1, none⟩), .int .i64 x3, .bool (decide ((x2 : Int) ≤ x3)), .bool (decide ((x2 : Int) ≤ x3)), .bool (decide ((x2 : Int) ≤ x3)), .bool false, .slice misses_a misses_n misses_e, .int .i64 i, .pointer (some ⟨b4, f4 + (i : Int).toNat * 1, none⟩), .float .f32 x4, .bool r1, .bool (!r1), .bool (!r1)] H1) (R .normal [.slice bits_a bits_n bits_e, .slice misses_a misses_n misses_e, undef, undef, .bool t4, .int .i64 (IntKind.wrap .i64 (i + 1)), .slice bits_a bits_n bits_e, .int .i64 (bits_n : Int), .bool (decide (((bits_n : Int) : Int) < 1)), .bool false, .slice bits_a bits_n bits_e, .int .i64 (bits_n : Int), .bool (decide ((64 : Int) < (bits_n : Int))), .bool (decide ((64 : Int) < (bits_n : Int))), .bool false, .slice misses_a misses_n misses_e, .int .i64 (misses_n : Int), .slice bits_a bits_n bits_e, .int .i64 (bits_n : Int), .bool (((misses_n : Int) : Int) != (bits_n : Int)), .bool (((misses_n : Int) : Int) != (bits_n : Int)), .int .i64 i, .slice bits_a bits_n bits_e, .int .i64 (bits_n : Int), .bool (decide ((i : Int) < (bits_n : Int))), .int .i64 i, .int .i64 (IntKind.wrap .i64 (i + 1)), .slice bits_a bits_n bits_e, .int .i64 i, .pointer (some ⟨b1, f1 + (i : Int).toNat * 1, none⟩), .int .i64 x1, .bool (decide ((x1 : Int) < 0)), .bool false, .int .i64 i, .bool (decide ((0 : Int) < i)), .bool true, .slice bits_a bits_n bits_e, .int .i64 i, .pointer (some ⟨b2, f2 + (i : Int).toNat * 1, none⟩), .int .i64 x2, .slice bits_a bits_n bits_e, .int .i64 i, .int .i64 (IntKind.wrap .i64 (i - 1)), .pointer (some ⟨b3, f3 + (IntKind.wrap .i64 (i - 1) : Int).toNat * 1, none⟩), .int .i64 x3, .bool (decide ((x2 : Int) ≤ x3)), .bool (decide ((x2 : Int) ≤ x3)), .bool (decide ((x2 : Int) ≤ x3)), .bool false, .slice misses_a misses_n misses_e, .int .i64 i, .pointer (some ⟨b4, f4 + (i : Int).toNat * 1, none⟩), .float .f32 x4, .bool r1, .bool (!r1), .bool (!r1)] H1))) ((0 : Int) ≤ i ∧ i < (misses_n : Int) ∧ ∃ b5 f5, (misses_a : Option Addr) = some ⟨b5, f5, none⟩ ∧ ∃ x5 : Nat,  rdC H b5 (f5 + (i : Int).toNat * 1) = some (.float .f32 x5) ∧ T_spec_l02Least x5 H fun (r2 : Bool) (H2 : AHeap) => Br (!r2) (R .ret [.slice bits_a bits_n bits_e, .slice misses_a misses_n misses_e, undef, undef, .bool false, .int .i64 i, .slice bits_a bits_n bits_e, .int .i64 (bits_n : Int), .bool (decide (((bits_n : Int) : Int) < 1)), .bool false, .slice bits_a bits_n bits_e, .int .i64 (bits_n : Int), .bool (decide ((64 : Int) < (bits_n : Int))), .bool (decide ((64 : Int) < (bits_n : Int))), .bool false, .slice misses_a misses_n misses_e, .int .i64 (misses_n : Int), .slice bits_a bits_n bits_e, .int .i64 (bits_n : Int), .bool (((misses_n : Int) : Int) != (bits_n : Int)), .bool (((misses_n : Int) : Int) != (bits_n : Int)), .int .i64 i, .slice bits_a bits_n bits_e, .int .i64 (bits_n : Int), .bool (decide ((i : Int) < (bits_n : Int))), g25, g26, .slice bits_a bits_n bits_e, .int .i64 i, .pointer (some ⟨b1, f1 + (i : Int).toNat * 1, none⟩), .int .i64 x1, .bool (decide ((x1 : Int) < 0)), .bool false, .int .i64 i, .bool (decide ((0 : Int) < i)), .bool false, undef, undef, undef, undef, undef, undef, undef, undef, undef, undef, .bool false, .bool false, .bool false, .slice misses_a misses_n misses_e, .int .i64 i, .pointer (some ⟨b5, f5 + (i : Int).toNat * 1, none⟩), .float .f32 x5, .bool r2, .bool (!r2), .bool (!r2)] H2) (R .normal [.slice bits_a bits_n bits_e, .slice misses_a misses_n misses_e, undef, undef, .bool t4, .int .i64 (IntKind.wrap .i64 (i + 1)), .slice bits_a bits_n bits_e, .int .i64 (bits_n : Int), .bool (decide (((bits_n : Int) : Int) < 1)), .bool false, .slice bits_a bits_n bits_e, .int .i64 (bits_n : Int), .bool (decide ((64 : Int) < (bits_n : Int))), .bool (decide ((64 : Int) < (bits_n : Int))), .bool false, .slice misses_a misses_n misses_e, .int .i64 (misses_n : Int), .slice bits_a bits_n bits_e, .int .i64 (bits_n : Int), .bool (((misses_n : Int) : Int) != (bits_n : Int)), .bool (((misses_n : Int) : Int) != (bits_n : Int)), .int .i64 i, .slice bits_a bits_n bits_e, .int .i64 (bits_n : Int), .bool (decide ((i : Int) < (bits_n : Int))), .int .i64 i, .int .i64 (IntKind.wrap .i64 (i + 1)), .slice bits_a bits_n bits_e, .int .i64 i, .pointer (some ⟨b1, f1 + (i : Int).toNat * 1, none⟩), .int .i64 x1, .bool (decide ((x1 : Int) < 0)), .bool false, .int .i64 i, .bool (decide ((0 : Int) < i)), .bool false, undef, undef, undef, undef, undef, undef, undef, undef, undef, undef, .bool false, .bool false, .bool false, .slice misses_a misses_n misses_e, .int .i64 i, .pointer (some ⟨b5, f5 + (i : Int).toNat * 1, none⟩), .float .f32 x5, .bool r2, .bool (!r2), .bool (!r2)] H2)))) (R (.exit 0) [.slice bits_a bits_n bits_e, .slice misses_a misses_n misses_e, undef, undef, .bool t4, .int .i64 i, .slice bits_a bits_n bits_e, .int .i64 (bits_n : Int), .bool (decide (((bits_n : Int) : Int) < 1)), .bool false, .slice bits_a bits_n bits_e, .int .i64 (bits_n : Int), .bool (decide ((64 : Int) < (bits_n : Int))), .bool (decide ((64 : Int) < (bits_n : Int))), .bool false, .slice misses_a misses_n misses_e, .int .i64 (misses_n : Int), .slice bits_a bits_n bits_e, .int .i64 (bits_n : Int), .bool (((misses_n : Int) : Int) != (bits_n : Int)), .bool (((misses_n : Int) : Int) != (bits_n : Int)), .int .i64 i, .slice bits_a bits_n bits_e, .int .i64 (bits_n : Int), .bool (decide ((i : Int) < (bits_n : Int))), g25, g26, g27, g28, g29, g30, g31, g32, g33, g34, g35, g36, g37, g38, g39, g40, g41, g42, g43, g44, g45, g46, g47, g48, g49, g50, g51, g52, g53, g54, g55] H)) := by kernel_rfl
def spec_l06Table_I1 (bits_a : Option Addr) (bits_e : Nat) (bits_n : Nat) (misses_a : Option Addr) (misses_e : Nat) (misses_n : Nat) (Inv : Nat → Bool → Int → AHeap → Prop) : Nat → List Value → AHeap → Prop := fun μ tm H => ∃ (t4 : Bool), ∃ (i : Int), ∃ g21 g22 g23 g24 g25 g26 g27 g28 g29 g30 g31 g32 g33 g34 g35 g36 g37 g38 g39 g40 g41 g42 g43 g44 g45 g46 g47 g48 g49 g50 g51 g52 g53 g54 g55, tm = [.slice bits_a bits_n bits_e, .slice misses_a misses_n misses_e, undef, undef, .bool t4, .int .i64 i, .slice bits_a bits_n bits_e, .int .i64 (bits_n : Int), .bool (decide (((bits_n : Int) : Int) < 1)), .bool false, .slice bits_a bits_n bits_e, .int .i64 (bits_n : Int), .bool (decide ((64 : Int) < (bits_n : Int))), .bool (decide ((64 : Int) < (bits_n : Int))), .bool false, .slice misses_a misses_n misses_e, .int .i64 (misses_n : Int), .slice bits_a bits_n bits_e, .int .i64 (bits_n : Int), .bool (((misses_n : Int) : Int) != (bits_n : Int)), .bool (((misses_n : Int) : Int) != (bits_n : Int)), g21, g22, g23, g24, g25, g26, g27, g28, g29, g30, g31, g32, g33, g34, g35, g36, g37, g38, g39, g40, g41, g42, g43, g44, g45, g46, g47, g48, g49, g50, g51, g52, g53, g54, g55] ∧ Inv μ t4 i H
theorem spec_l06Table_L1 (bits_a : Option Addr) (bits_e : Nat) (bits_n : Nat) (misses_a : Option Addr) (misses_e : Nat) (misses_n : Nat) {Q : Post} (Inv : Nat → Bool → Int → AHeap → Prop) (ν : Nat) (t4 : Bool) (i : Int) (g21 g22 g23 g24 g25 g26 g27 g28 g29 g30 g31 g32 g33 g34 g35 g36 g37 g38 g39 g40 g41 g42 g43 g44 g45 g46 g47 g48 g49 g50 g51 g52 g53 g54 g55 : Value) (H : AHeap) (h0 : Inv ν t4 i H)
    (hs : ∀ (μ : Nat) (t4 : Bool) (i : Int) (g21 g22 g23 g24 g25 g26 g27 g28 g29 g30 g31 g32 g33 g34 g35 g36 g37 g38 g39 g40 g41 g42 g43 g44 g45 g46 g47 g48 g49 g50 g51 g52 g53 g54 g55 : Value) (H : AHeap), Inv μ t4 i H → exK Try.prog E_spec_l06Table (cl (cl (cr (cl (cr (cr (bodyC Try.f53))))))) [.slice bits_a bits_n bits_e, .slice misses_a misses_n misses_e, undef, undef, .bool t4, .int .i64 i, .slice bits_a bits_n bits_e, .int .i64 (bits_n : Int), .bool (decide (((bits_n : Int) : Int) < 1)), .bool false, .slice bits_a bits_n bits_e, .int .i64 (bits_n : Int), .bool (decide ((64 : Int) < (bits_n : Int))), .bool (decide ((64 : Int) < (bits_n : Int))), .bool false, .slice misses_a misses_n misses_e, .int .i64 (misses_n : Int), .slice bits_a bits_n bits_e, .int .i64 (bits_n : Int), .bool (((misses_n : Int) : Int) != (bits_n : Int)), .bool (((misses_n : Int) : Int) != (bits_n : Int)), g21, g22, g23, g24, g25, g26, g27, g28, g29, g30, g31, g32, g33, g34, g35, g36, g37, g38, g39, g40, g41, g42, g43, g44, g45, g46, g47, g48, g49, g50, g51, g52, g53, g54, g55] H (loopQ (spec_l06Table_I1 bits_a bits_e bits_n misses_a misses_e misses_n Inv) μ Q)) : loopK (exK Try.prog E_spec_l06Table (cl (cl (cr (cl (cr (cr (bodyC Try.f53)))))))) [.slice bits_a bits_n bits_e, .slice misses_a misses_n misses_e, undef, undef, .bool t4, .int .i64 i, .slice bits_a bits_n bits_e, .int .i64 (bits_n : Int), .bool (decide (((bits_n : Int) : Int) < 1)), .bool false, .slice bits_a bits_n bits_e, .int .i64 (bits_n : Int), .bool (decide ((64 : Int) < (bits_n : Int))), .bool (decide ((64 : Int) < (bits_n : Int))), .bool false, .slice misses_a misses_n misses_e, .int .i64 (misses_n : Int), .slice bits_a bits_n bits_e, .int .i64 (bits_n : Int), .bool (((misses_n : Int) : Int) != (bits_n : Int)), .bool (((misses_n : Int) : Int) != (bits_n : Int)), g21, g22, g23, g24, g25, g26, g27, g28, g29, g30, g31, g32, g33, g34, g35, g36, g37, g38, g39, g40, g41, g42, g43, g44, g45, g46, g47, g48, g49, g50, g51, g52, g53, g54, g55] H Q :=
  ⟨spec_l06Table_I1 bits_a bits_e bits_n misses_a misses_e misses_n Inv, ν, ⟨t4, i, g21, g22, g23, g24, g25, g26, g27, g28, g29, g30, g31, g32, g33, g34, g35, g36, g37, g38, g39, g40, g41, g42, g43, g44, g45, g46, g47, g48, g49, g50, g51, g52, g53, g54, g55, rfl, h0⟩, fun μ tm H h => by obtain ⟨t4, i, g21, g22, g23, g24, g25, g26, g27, g28, g29, g30, g31, g32, g33, g34, g35, g36, g37, g38, g39, g40, g41, g42, g43, g44, g45, g46, g47, g48, g49, g50, g51, g52, g53, g54, g55, rfl, hI⟩ := h; exact hs μ t4 i g21 g22 g23 g24 g25 g26 g27 g28 g29 g30 g31 g32 g33 g34 g35 g36 g37 g38 g39 g40 g41 g42 g43 g44 g45 g46 g47 g48 g49 g50 g51 g52 g53 g54 g55 H hI⟩
theorem spec_l06Table_n1 {bits_a : Option Addr} {bits_e : Nat} {bits_n : Nat} {misses_a : Option Addr} {misses_e : Nat} {misses_n : Nat} {Q : Post} {Inv : Nat → Bool → Int → AHeap → Prop} {μ : Nat} (μ' : Nat) {t4 : Bool} {i : Int} {g21 g22 g23 g24 g25 g26 g27 g28 g29 g30 g31 g32 g33 g34 g35 g36 g37 g38 g39 g40 g41 g42 g43 g44 g45 g46 g47 g48 g49 g50 g51 g52 g53 g54 g55 : Value} {H : AHeap} (hm : μ' < μ) (hI : Inv μ' t4 i H) : loopQ (spec_l06Table_I1 bits_a bits_e bits_n misses_a misses_e misses_n Inv) μ Q .normal [.slice bits_a bits_n bits_e, .slice misses_a misses_n misses_e, undef, undef, .bool t4, .int .i64 i, .slice bits_a bits_n bits_e, .int .i64 (bits_n : Int), .bool (decide (((bits_n : Int) : Int) < 1)), .bool false, .slice bits_a bits_n bits_e, .int .i64 (bits_n : Int), .bool (decide ((64 : Int) < (bits_n : Int))), .bool (decide ((64 : Int) < (bits_n : Int))), .bool false, .slice misses_a misses_n misses_e, .int .i64 (misses_n : Int), .slice bits_a bits_n bits_e, .int .i64 (bits_n : Int), .bool (((misses_n : Int) : Int) != (bits_n : Int)), .bool (((misses_n : Int) : Int) != (bits_n : Int)), g21, g22, g23, g24, g25, g26, g27, g28, g29, g30, g31, g32, g33, g34, g35, g36, g37, g38, g39, g40, g41, g42, g43, g44, g45, g46, g47, g48, g49, g50, g51, g52, g53, g54, g55] H := ⟨μ', hm, t4, i, g21, g22, g23, g24, g25, g26, g27, g28, g29, g30, g31, g32, g33, g34, g35, g36, g37, g38, g39, g40, g41, g42, g43, g44, g45, g46, g47, g48, g49, g50, g51, g52, g53, g54, g55, rfl, hI⟩
theorem spec_l06Table_x1_0 (bits_a : Option Addr) (bits_e : Nat) (bits_n : Nat) (misses_a : Option Addr) (misses_e : Nat) (misses_n : Nat) (t4 : Bool) (i : Int) (g21 g22 g23 g24 g25 g26 g27 g28 g29 g30 g31 g32 g33 g34 g35 g36 g37 g38 g39 g40 g41 g42 g43 g44 g45 g46 g47 g48 g49 g50 g51 g52 g53 g54 g55 : Value) (H : AHeap) (K : Value → AHeap → Prop)  {I : Nat → List Value → AHeap → Prop} {μ : Nat} : loopQ I μ (blockQ 0 (seqQ (exK Try.prog E_spec_l06Table (cr (cr (cr (bodyC Try.f53))))) (retK Try.prog Try.f53 K))) (.exit 0) [.slice bits_a bits_n bits_e, .slice misses_a misses_n misses_e, undef, undef, .bool t4, .int .i64 i, .slice bits_a bits_n bits_e, .int .i64 (bits_n : Int), .bool (decide (((bits_n : Int) : Int) < 1)), .bool false, .slice bits_a bits_n bits_e, .int .i64 (bits_n : Int), .bool (decide ((64 : Int) < (bits_n : Int))), .bool (decide ((64 : Int) < (bits_n : Int))), .bool false, .slice misses_a misses_n misses_e, .int .i64 (misses_n : Int), .slice bits_a bits_n bits_e, .int .i64 (bits_n : Int), .bool (((misses_n : Int) : Int) != (bits_n : Int)), .bool (((misses_n : Int) : Int) != (bits_n : Int)), g21, g22, g23, g24, g25, g26, g27, g28, g29, g30, g31, g32, g33, g34, g35, g36, g37, g38, g39, g40, g41, g42, g43, g44, g45, g46, g47, g48, g49, g50, g51, g52, g53, g54, g55] H =
  (K (.bool true) H) := by kernel_rfl
theorem spec_l06Table_x1_ret (bits_a : Option Addr) (bits_e : Nat) (bits_n : Nat) (misses_a : Option Addr) (misses_e : Nat) (misses_n : Nat) (t4 : Bool) (i : Int) (g21 g22 g23 g24 g25 g26 g27 g28 g29 g30 g31 g32 g33 g34 g35 g36 g37 g38 g39 g40 g41 g42 g43 g44 g45 g46 g47 g48 g49 g50 g51 g52 g53 g54 g55 : Value) (H : AHeap) (K : Value → AHeap → Prop)  {I : Nat → List Value → AHeap → Prop} {μ : Nat} : loopQ I μ (blockQ 0 (seqQ (exK Try.prog E_spec_l06Table (cr (cr (cr (bodyC Try.f53))))) (retK Try.prog Try.f53 K))) .ret [.slice bits_a bits_n bits_e, .slice misses_a misses_n misses_e, undef, undef, .bool t4, .int .i64 i, .slice bits_a bits_n bits_e, .int .i64 (bits_n : Int), .bool (decide (((bits_n : Int) : Int) < 1)), .bool false, .slice bits_a bits_n bits_e, .int .i64 (bits_n : Int), .bool (decide ((64 : Int) < (bits_n : Int))), .bool (decide ((64 : Int) < (bits_n : Int))), .bool false, .slice misses_a misses_n misses_e, .int .i64 (misses_n : Int), .slice bits_a bits_n bits_e, .int .i64 (bits_n : Int), .bool (((misses_n : Int) : Int) != (bits_n : Int)), .bool (((misses_n : Int) : Int) != (bits_n : Int)), g21, g22, g23, g24, g25, g26, g27, g28, g29, g30, g31, g32, g33, g34, g35, g36, g37, g38, g39, g40, g41, g42, g43, g44, g45, g46, g47, g48, g49, g50, g51, g52, g53, g54, g55] H =
  (K (.bool t4) H) := by kernel_rfl
theorem E_spec_l06Table_ok : ∀ g, FnOk Try.prog g (E_spec_l06Table g) := FnOk.envOf (by
  intro x hx
  simp only [List.mem_cons, List.not_mem_nil, or_false] at hx
  subst hx; exact spec_l02Least_ok)
set_option maxHeartbeats 1000000 in
theorem spec_l06Table_main (bits_a : Option Addr) (bits_n : Nat) (bits_e : Nat) (misses_a : Option Addr) (misses_n : Nat) (misses_e : Nat) (H : AHeap) (K : Value → AHeap → Prop) (h : T_spec_l06Table bits_a bits_n bits_e misses_a misses_n misses_e H fun (r1 : Bool) (H' : AHeap) => K (.bool r1) H') : bodyK Try.prog E_spec_l06Table Try.f53 [.slice bits_a bits_n bits_e, .slice misses_a misses_n misses_e] H K := by
  rw [spec_l06Table_vc]
  obtain ⟨l_bits, l_misses, i_bits, i_misses, bd_28, bd_29, hk⟩ := h
  obtain rfl := i_bits.eqn
  obtain rfl := i_misses.eqn
  have e : (p_spec_l06Table l_bits l_misses) = _ := rfl
  have e := e.trans (p_spec_l06Table_eq l_bits l_misses)
  have g0 := Grow.refl H
  refine Br.intro (fun c_1 => ?_) (fun c_1 => ?_)
  · have e := e.trans (cond_t c_1)
    have c_1' := of_decide_eq_true c_1
    rw [e] at hk
    exact hk
  · have e := e.trans (cond_f c_1)
    have c_1' := of_decide_eq_false c_1
    refine Br.intro (fun c_2 => ?_) (fun c_2 => ?_)
    · have e := e.trans (cond_t c_2)
      have c_2' := of_decide_eq_true c_2
      rw [e] at hk
      exact hk
    · have e := e.trans (cond_f c_2)
      have c_2' := of_decide_eq_false c_2
      refine Br.intro (fun c_3 => ?_) (fun c_3 => ?_)
      · have e := e.trans (cond_t c_3)
        have c_3' := ine_t c_3
        rw [e] at hk
        exact hk
      · have e := e.trans (cond_f c_3)
        have c_3' := ine_f c_3
        refine spec_l06Table_L1 _ _ _ _ _ _ (fun (μ : Nat) (t4 : Bool) (i : Int) (H_1 : AHeap) => H = H_1 ∧ (0 : Int) ≤ i ∧ i ≤ (l_bits.length : Int) ∧ (l_bits.length : Int) - i ≤ (μ : Int) ∧ p_spec_l06Table l_bits l_misses = p_spec_l06Table_l1 l_bits l_misses (μ + 1) t4 i) (Int.toNat ((l_bits.length : Int) - (0 : Int))) _ _ _ _ _ _ _ _ _ _ _ _ _ _ _ _ _ _ _ _ _ _ _ _ _ _ _ _ _ _ _ _ _ _ _ _ _ H ?_ ?_
        · exact ⟨rfl, (by first | omega | (simp; done) | (simp; omega)), (by first | omega | (simp; done) | (simp; omega)), (by omega), e⟩
        · intro μ t4 i g21 g22 g23 g24 g25 g26 g27 g28 g29 g30 g31 g32 g33 g34 g35 g36 g37 g38 g39 g40 g41 g42 g43 g44 g45 g46 g47 g48 g49 g50 g51 g52 g53 g54 g55 H_1 hI
          obtain ⟨rfl, v_4, v_5, hμ, e⟩ := hI
          rw [spec_l06Table_r1]
          have e := e.trans (p_spec_l06Table_l1_s l_bits l_misses μ t4 i)
          have l_6 := g0.1
          refine Br.intro (fun c_7 => ?_) (fun c_7 => ?_)
          · have e := e.trans (cond_t c_7)
            have c_7' := of_decide_eq_true c_7
            obtain ⟨b_8, f_9, q_10⟩ := ((i_bits.grow g0)).pos (by first | omega | (simp only [List.length_set, List.length_replicate, List.length_append, List.length_cons, List.length_nil, List.length_take, List.length_drop, marks_length]; done) | (simp only [List.length_set, List.length_replicate, List.length_append, List.length_cons, List.length_nil, List.length_take, List.length_drop, marks_length]; omega))
            refine ⟨by omega, by omega, b_8, f_9, q_10, ?_⟩
            refine ⟨((l_bits).getD (i : Int).toNat 0), (i_bits).rd g0 q_10 (by omega) _, ?_⟩
            refine Br.intro (fun c_11 => ?_) (fun c_11 => ?_)
            · have e := e.trans (cond_t c_11)
              have c_11' := of_decide_eq_true c_11
              rw [spec_l06Table_x1_ret]
              rw [e] at hk
              exact hk
            · have e := e.trans (cond_f c_11)
              have c_11' := of_decide_eq_false c_11
              refine Br.intro (fun c_12 => ?_) (fun c_12 => ?_)
              · have e := e.trans (cond_t c_12)
                have c_12' := of_decide_eq_true c_12
                obtain ⟨b_13, f_14, q_15⟩ := ((i_bits.grow g0)).pos (by first | omega | (simp only [List.length_set, List.length_replicate, List.length_append, List.length_cons, List.length_nil, List.length_take, List.length_drop, marks_length]; done) | (simp only [List.length_set, List.length_replicate, List.length_append, List.length_cons, List.length_nil, List.length_take, List.length_drop, marks_length]; omega))
                refine ⟨by omega, by omega, b_13, f_14, q_15, ?_⟩
                refine ⟨((l_bits).getD (i : Int).toNat 0), (i_bits).rd g0 q_15 (by omega) _, ?_⟩
                rw [show IntKind.wrap .i64 (i - 1) = (i - 1) from wrap64 (by omega) (by omega)]
                obtain ⟨b_16, f_17, q_18⟩ := ((i_bits.grow g0)).pos (by first | omega | (simp only [List.length_set, List.length_replicate, List.length_append, List.length_cons, List.length_nil, List.length_take, List.length_drop, marks_length]; done) | (simp only [List.length_set, List.length_replicate, List.length_append, List.length_cons, List.length_nil, List.length_take, List.length_drop, marks_length]; omega))
                refine ⟨by omega, by omega, b_16, f_17, q_18, ?_⟩
                refine ⟨((l_bits).getD ((i - 1) : Int).toNat 0), (i_bits).rd g0 q_18 (by omega) _, ?_⟩
                refine Br.intro (fun c_19 => ?_) (fun c_19 => ?_)
                · have e := e.trans (cond_t c_19)
                  have c_19' := of_decide_eq_true c_19
                  rw [spec_l06Table_x1_ret]
                  rw [e] at hk
                  exact hk
                · have e := e.trans (cond_f c_19)
                  have c_19' := of_decide_eq_false c_19
                  obtain ⟨b_20, f_21, q_22⟩ := ((i_misses.grow g0)).pos (by first | omega | (simp only [List.length_set, List.length_replicate, List.length_append, List.length_cons, List.length_nil, List.length_take, List.length_drop, marks_length]; done) | (simp only [List.length_set, List.length_replicate, List.length_append, List.length_cons, List.length_nil, List.length_take, List.length_drop, marks_length]; omega))
                  refine ⟨by omega, by omega, b_20, f_21, q_22, ?_⟩
                  refine ⟨((l_misses).getD (i : Int).toNat 0), (i_misses).rd g0 q_22 (by omega) _, ?_⟩
                  refine T_spec_l02Least_i ?_
                  refine Br.intro (fun c_23 => ?_) (fun c_23 => ?_)
                  · have e := e.trans (cond_t c_23)
                    have c_23n := nf_of_t c_23
                    rw [spec_l06Table_x1_ret]
                    rw [e] at hk
                    exact hk
                  · have e := e.trans (cond_f c_23)
                    have c_23n := nt_of_f c_23
                    rw [show IntKind.wrap .i64 (i + 1) = (i + 1) from wrap64 (by omega) (by omega)]
                    refine spec_l06Table_n1 (μ - 1) (by omega) ⟨rfl, (by first | omega | (simp only [List.length_append, List.length_cons, List.length_nil, List.length_set]; done) | (simp only [List.length_append, List.length_cons, List.length_nil, List.length_set]; omega)), (by first | omega | (simp only [List.length_append, List.length_cons, List.length_nil, List.length_set]; done) | (simp only [List.length_append, List.length_cons, List.length_nil, List.length_set]; omega)), (by omega), (by rw [show μ - 1 + 1 = μ from by omega]; exact e)⟩
              · have e := e.trans (cond_f c_12)
                have c_12' := of_decide_eq_false c_12
                obtain ⟨b_24, f_25, q_26⟩ := ((i_misses.grow g0)).pos (by first | omega | (simp only [List.length_set, List.length_replicate, List.length_append, List.length_cons, List.length_nil, List.length_take, List.length_drop, marks_length]; done) | (simp only [List.length_set, List.length_replicate, List.length_append, List.length_cons, List.length_nil, List.length_take, List.length_drop, marks_length]; omega))
                refine ⟨by omega, by omega, b_24, f_25, q_26, ?_⟩
                refine ⟨((l_misses).getD (i : Int).toNat 0), (i_misses).rd g0 q_26 (by omega) _, ?_⟩
                refine T_spec_l02Least_i ?_
                refine Br.intro (fun c_27 => ?_) (fun c_27 => ?_)
                · have e := e.trans (cond_t c_27)
                  have c_27n := nf_of_t c_27
                  rw [spec_l06Table_x1_ret]
                  rw [e] at hk
                  exact hk
                · have e := e.trans (cond_f c_27)
                  have c_27n := nt_of_f c_27
                  rw [show IntKind.wrap .i64 (i + 1) = (i + 1) from wrap64 (by omega) (by omega)]
                  refine spec_l06Table_n1 (μ - 1) (by omega) ⟨rfl, (by first | omega | (simp only [List.length_append, List.length_cons, List.length_nil, List.length_set]; done) | (simp only [List.length_append, List.length_cons, List.length_nil, List.length_set]; omega)), (by first | omega | (simp only [List.length_append, List.length_cons, List.length_nil, List.length_set]; done) | (simp only [List.length_append, List.length_cons, List.length_nil, List.length_set]; omega)), (by omega), (by rw [show μ - 1 + 1 = μ from by omega]; exact e)⟩
          · have e := e.trans (cond_f c_7)
            have c_7' := of_decide_eq_false c_7
            rw [spec_l06Table_x1_0]
            rw [e] at hk
            exact hk
theorem spec_l06Table_ok : FnOk Try.prog 53 S_spec_l06Table := by
  refine FnOk.body mix_ok E_spec_l06Table_ok Try.func53 rfl (by kernel_rfl) (by kernel_rfl) ?_ ?_ ?_ ?_ ?_
  · intro args H K K' h hk
    simp only [S_spec_l06Table] at *
    unfold F_spec_l06Table at *
    split at hk
    · obtain ⟨l_bits, l_misses, i_bits, i_misses, bd_28, bd_29, k⟩ := hk
      exact ⟨l_bits, l_misses, i_bits, i_misses, bd_28, bd_29, h _ _ k⟩
    · exact hk.elim
  · intro _ args H K hk
    simp only [S_spec_l06Table] at *
    unfold F_spec_l06Table at *
    split at hk
    · obtain ⟨l_bits, l_misses, i_bits, i_misses, bd_28, bd_29, k⟩ := hk
      exact ⟨_, k, fun K' k' => ⟨l_bits, l_misses, i_bits, i_misses, bd_28, bd_29, k'⟩⟩
    · exact hk.elim
  · intro args H K hk
    simp only [S_spec_l06Table] at *
    unfold F_spec_l06Table at *
    split at hk
    · obtain ⟨l_bits, l_misses, i_bits, i_misses, bd_28, bd_29, k⟩ := hk
      exact ⟨_, _, k⟩
    · exact hk.elim
  · intro hq; cases hq
  · have mm := @spec_l06Table_main
    revert mm
    generalize bodyK Try.prog E_spec_l06Table Try.f53 = Q
    intro mm args H K hk
    simp only [S_spec_l06Table] at *
    unfold F_spec_l06Table at *
    split at hk
    · exact mm _ _ _ _ _ _ H K hk
    · exact hk.elim
def p_spec_l06Hull_l2 (l_bits : List Int) (l_misses : List Nat) (l_vout : List Int) (vat : Int) (k2_2 : Int → Nat → Int → (List Int) → (List Int)) : Nat → Int → Nat → Int → (List Int) → (List Int)
  | 0, _, _, _, _ => []
  | μ2 + 1, best, vmost, i, y2_1 => (bif decide ((i : Int) < (l_bits.length : Int)) then (bif flt .f32 0 (fdiv .f32 (fsub .f32 (((l_misses).getD (vat : Int).toNat 0)) (((l_misses).getD (i : Int).toNat 0))) (FloatKind.nearest .f32 (IntKind.wrap .i64 ((((l_bits).getD (i : Int).toNat 0)) - (((l_bits).getD (vat : Int).toNat 0)))))) then (bif fle .f32 vmost (fdiv .f32 (fsub .f32 (((l_misses).getD (vat : Int).toNat 0)) (((l_misses).getD (i : Int).toNat 0))) (FloatKind.nearest .f32 (IntKind.wrap .i64 ((((l_bits).getD (i : Int).toNat 0)) - (((l_bits).getD (vat : Int).toNat 0)))))) then (p_spec_l06Hull_l2 l_bits l_misses l_vout vat k2_2 μ2 i (fdiv .f32 (fsub .f32 (((l_misses).getD (vat : Int).toNat 0)) (((l_misses).getD (i : Int).toNat 0))) (FloatKind.nearest .f32 (IntKind.wrap .i64 ((((l_bits).getD (i : Int).toNat 0)) - (((l_bits).getD (vat : Int).toNat 0)))))) (i + 1) y2_1) else (p_spec_l06Hull_l2 l_bits l_misses l_vout vat k2_2 μ2 best vmost (i + 1) y2_1)) else (p_spec_l06Hull_l2 l_bits l_misses l_vout vat k2_2 μ2 best vmost (i + 1) y2_1)) else (k2_2 best vmost i y2_1))
theorem p_spec_l06Hull_l2_s (l_bits : List Int) (l_misses : List Nat) (l_vout : List Int) (vat : Int) (k2_2 : Int → Nat → Int → (List Int) → (List Int)) (μ2 : Nat) (best : Int) (vmost : Nat) (i : Int) (y2_1 : List Int) : p_spec_l06Hull_l2 l_bits l_misses l_vout vat k2_2 (μ2 + 1) best vmost i y2_1 = (bif decide ((i : Int) < (l_bits.length : Int)) then (bif flt .f32 0 (fdiv .f32 (fsub .f32 (((l_misses).getD (vat : Int).toNat 0)) (((l_misses).getD (i : Int).toNat 0))) (FloatKind.nearest .f32 (IntKind.wrap .i64 ((((l_bits).getD (i : Int).toNat 0)) - (((l_bits).getD (vat : Int).toNat 0)))))) then (bif fle .f32 vmost (fdiv .f32 (fsub .f32 (((l_misses).getD (vat : Int).toNat 0)) (((l_misses).getD (i : Int).toNat 0))) (FloatKind.nearest .f32 (IntKind.wrap .i64 ((((l_bits).getD (i : Int).toNat 0)) - (((l_bits).getD (vat : Int).toNat 0)))))) then (p_spec_l06Hull_l2 l_bits l_misses l_vout vat k2_2 μ2 i (fdiv .f32 (fsub .f32 (((l_misses).getD (vat : Int).toNat 0)) (((l_misses).getD (i : Int).toNat 0))) (FloatKind.nearest .f32 (IntKind.wrap .i64 ((((l_bits).getD (i : Int).toNat 0)) - (((l_bits).getD (vat : Int).toNat 0)))))) (i + 1) y2_1) else (p_spec_l06Hull_l2 l_bits l_misses l_vout vat k2_2 μ2 best vmost (i + 1) y2_1)) else (p_spec_l06Hull_l2 l_bits l_misses l_vout vat k2_2 μ2 best vmost (i + 1) y2_1)) else (k2_2 best vmost i y2_1)) := rfl
def p_spec_l06Hull_l1 (l_bits : List Int) (l_misses : List Nat) : Nat → (List Int) → Int → (List Int)
  | 0, _, _ => []
  | μ + 1, l_vout, vat => (p_spec_l06Hull_l2 l_bits l_misses l_vout vat (fun (best : Int) (vmost : Nat) (i : Int) (y2_1 : List Int) => (bif decide ((best : Int) < 0) then y2_1 else (p_spec_l06Hull_l1 l_bits l_misses μ ((y2_1 ++ [(best : Int)])) best))) (Int.toNat ((l_bits.length : Int) - (vat + 1)) + 1) (((-1) : Int)) 0 (vat + 1) l_vout)
theorem p_spec_l06Hull_l1_s (l_bits : List Int) (l_misses : List Nat) (μ : Nat) (l_vout : List Int) (vat : Int) : p_spec_l06Hull_l1 l_bits l_misses (μ + 1) l_vout vat = (p_spec_l06Hull_l2 l_bits l_misses l_vout vat (fun (best : Int) (vmost : Nat) (i : Int) (y2_1 : List Int) => (bif decide ((best : Int) < 0) then y2_1 else (p_spec_l06Hull_l1 l_bits l_misses μ ((y2_1 ++ [(best : Int)])) best))) (Int.toNat ((l_bits.length : Int) - (vat + 1)) + 1) (((-1) : Int)) 0 (vat + 1) l_vout) := rfl
def p_spec_l06Hull (l_bits : List Int) (l_misses : List Nat) : (List Int) := (p_spec_l06Hull_l1 l_bits l_misses (Int.toNat ((l_bits.length : Int) - (0 : Int)) + 1) ([(0 : Int)]) (0 : Int))
theorem p_spec_l06Hull_eq (l_bits : List Int) (l_misses : List Nat) : p_spec_l06Hull l_bits l_misses = (p_spec_l06Hull_l1 l_bits l_misses (Int.toNat ((l_bits.length : Int) - (0 : Int)) + 1) ([(0 : Int)]) (0 : Int)) := rfl
def T_spec_l06Hull (bits_a : Option Addr) (bits_n : Nat) (bits_e : Nat) (misses_a : Option Addr) (misses_n : Nat) (misses_e : Nat) (H : AHeap) (K : (Option Addr) → Nat → Nat → AHeap → Prop) : Prop := ∃ (l_bits : List Int), ∃ (l_misses : List Nat), IsL fI H bits_a bits_n l_bits ∧ IsL fF H misses_a misses_n l_misses ∧ l_bits.length < 1073741824 ∧ l_misses.length < 1073741824 ∧ 1 ≤ (l_bits.length : Int) ∧ (l_bits.length : Int) ≤ 64 ∧ (l_misses.length : Int) = (l_bits.length : Int) ∧ ((∀ (r1_a : Option Addr) (r1_n r1_e : Nat), ∀ H' : AHeap, Grow H H' → OwnS fI H' H.length r1_a r1_n r1_e (p_spec_l06Hull l_bits l_misses) → K r1_a r1_n r1_e H'))
theorem T_spec_l06Hull_i {bits_a : Option Addr} {bits_n : Nat} {bits_e : Nat} {misses_a : Option Addr} {misses_n : Nat} {misses_e : Nat} {H : AHeap} {K : (Option Addr) → Nat → Nat → AHeap → Prop} (h : ∃ (l_bits : List Int), ∃ (l_misses : List Nat), IsL fI H bits_a bits_n l_bits ∧ IsL fF H misses_a misses_n l_misses ∧ l_bits.length < 1073741824 ∧ l_misses.length < 1073741824 ∧ 1 ≤ (l_bits.length : Int) ∧ (l_bits.length : Int) ≤ 64 ∧ (l_misses.length : Int) = (l_bits.length : Int) ∧ ((∀ (r1_a : Option Addr) (r1_n r1_e : Nat), ∀ H' : AHeap, Grow H H' → OwnS fI H' H.length r1_a r1_n r1_e (p_spec_l06Hull l_bits l_misses) → K r1_a r1_n r1_e H'))) : T_spec_l06Hull bits_a bits_n bits_e misses_a misses_n misses_e H K := h
theorem spec_hull_P {P : List Int → Prop} {l : List Int} {r : List Nat} {o : List Int} {a : Int} {k : Int → Nat → Int → List Int → List Int} {y : List Int} (hk : ∀ b m i, (b < 0 ∨ (a < b ∧ b < (l.length : Int))) → P (k b m i y)) :
    ∀ (μ : Nat) (b : Int) (m : Nat) (i : Int), (b < 0 ∨ (a < b ∧ b < i)) → a < i → i ≤ (l.length : Int) → (l.length : Int) - i ≤ μ → P (p_spec_l06Hull_l2 l r o a k (μ + 1) b m i y) := by
  intro μ
  induction μ with
  | zero =>
    intro b m i hb ha hi h
    rw [p_spec_l06Hull_l2_s, decide_eq_false (by omega), cond_false]; exact hk _ _ _ (by omega)
  | succ μ ih =>
    intro b m i hb ha hi h
    rw [p_spec_l06Hull_l2_s]
    by_cases hc : i < (l.length : Int)
    · rw [decide_eq_true hc, cond_true]
      have e1 := fun m => ih i m (i + 1) (by omega) (by omega) (by omega) (by omega)
      have e2 := fun m => ih b m (i + 1) (by omega) (by omega) (by omega) (by omega)
      generalize fdiv .f32 (fsub .f32 (r.getD a.toNat 0) (r.getD i.toNat 0)) (FloatKind.nearest .f32 (IntKind.wrap .i64 (l.getD i.toNat 0 - l.getD a.toNat 0))) = q
      cases flt .f32 0 q
      · exact e2 _
      · cases fle .f32 m q
        · exact e2 _
        · exact e1 _
    · rw [decide_eq_false hc, cond_false]; exact hk _ _ _ (by omega)
theorem spec_hull_go (l : List Int) (r : List Nat) : ∀ (μ : Nat) (o : List Int) (a : Int), 0 ≤ a → a < (l.length : Int) → 1 ≤ o.length → (o.length : Int) ≤ a + 1 → (l.length : Int) - a ≤ μ + 1 → 1 ≤ (p_spec_l06Hull_l1 l r (μ + 1) o a).length ∧ (p_spec_l06Hull_l1 l r (μ + 1) o a).length ≤ l.length := by
  intro μ
  induction μ with
  | zero =>
    intro o a h0 h1 h2 h3 h4
    rw [p_spec_l06Hull_l1_s]
    refine spec_hull_P (P := fun x => 1 ≤ x.length ∧ x.length ≤ l.length) (fun b m i hb => ?_) _ _ _ _ (by omega) (by omega) (by omega) (by omega)
    rcases hb with hb | hb
    · rw [decide_eq_true hb, cond_true]; exact ⟨h2, by omega⟩
    · omega
  | succ μ ih =>
    intro o a h0 h1 h2 h3 h4
    rw [p_spec_l06Hull_l1_s]
    refine spec_hull_P (P := fun x => 1 ≤ x.length ∧ x.length ≤ l.length) (fun b m i hb => ?_) _ _ _ _ (by omega) (by omega) (by omega) (by omega)
    by_cases hc : b < 0
    · rw [decide_eq_true hc, cond_true]; exact ⟨h2, by omega⟩
    · rw [decide_eq_false hc, cond_false]
      exact ih _ _ (by omega) (by omega) (by simp) (by simp; omega) (by omega)
theorem spec_l06Hull_len (l : List Int) (r : List Nat) : 1 ≤ (l.length : Int) → 1 ≤ (p_spec_l06Hull l r).length ∧ (p_spec_l06Hull l r).length ≤ l.length := by
  intro h
  rw [p_spec_l06Hull_eq]
  exact spec_hull_go l r _ _ _ (by omega) (by omega) (by simp) (by simp) (by omega)
/-! spec_l06Hull: function 54 -/
def E_spec_l06Hull : Env := envOf []
def F_spec_l06Hull : List Value → AHeap → (Value → AHeap → Prop) → Prop
  | [.slice bits_a bits_n bits_e, .slice misses_a misses_n misses_e], H, K => T_spec_l06Hull bits_a bits_n bits_e misses_a misses_n misses_e H fun (r1_a : Option Addr) (r1_n : Nat) (r1_e : Nat) (H' : AHeap) => K (.slice r1_a r1_n r1_e) H'
  | _, _, _ => False
def S_spec_l06Hull : FSpec := { F := F_spec_l06Hull, quiet := false, tame := true }
theorem spec_l06Hull_vc (bits_a : Option Addr) (bits_n : Nat) (bits_e : Nat) (misses_a : Option Addr) (misses_n : Nat) (misses_e : Nat) (H : AHeap) (K : Value → AHeap → Prop) : bodyK Try.prog E_spec_l06Hull Try.f54 [.slice bits_a bits_n bits_e, .slice misses_a misses_n misses_e] H K =
  (Al [.int .i64 0] H fun b1 H1 => loopK (exK Try.prog E_spec_l06Hull (cl (cl (cr (cr (cr (bodyC Try.f54))))))) [.slice bits_a bits_n bits_e, .slice misses_a misses_n misses_e, undef, undef, .slice none 0 0, .slice (some ⟨b1, 0, none⟩) 1 1, .int .i64 0, undef, undef, undef, undef, .slice (some ⟨b1, 0, none⟩) 1 1, undef, undef, undef, undef, undef, undef, undef, undef, undef, undef, undef, undef, undef, undef, undef, undef, undef, undef, undef, undef, undef, undef, undef, undef, undef, undef, undef, undef, undef, undef, undef, undef, undef, undef, undef, undef, undef, undef, undef, undef, undef, undef, undef, undef, undef] H1 (blockQ 0 (retK Try.prog Try.f54 K))) := by kernel_rfl
theorem spec_l06Hull_r1 (b1 : Nat) (bits_a : Option Addr) (bits_e : Nat) (bits_n : Nat) (misses_a : Option Addr) (misses_e : Nat) (misses_n : Nat) (t4_a : Option Addr) (t4_n : Nat) (t4_e : Nat) (vout_a : Option Addr) (vout_n : Nat) (vout_e : Nat) (vat : Int) (g7 g8 g9 g10 g12 g13 g14 g15 g16 g17 g18 g19 g20 g21 g22 g23 g24 g25 g26 g27 g28 g29 g30 g31 g32 g33 g34 g35 g36 g37 g38 g39 g40 g41 g42 g43 g44 g45 g46 g47 g48 g49 g50 g51 g52 g53 g54 g55 g56 : Value) (H : AHeap) (R : Post) : exK Try.prog E_spec_l06Hull (cl (cl (cr (cr (cr (bodyC Try.f54)))))) [.slice bits_a bits_n bits_e, .slice misses_a misses_n misses_e, undef, undef, .slice t4_a t4_n t4_e, .slice vout_a vout_n vout_e, .int .i64 vat, g7, g8, g9, g10, .slice (some ⟨b1, 0, none⟩) 1 1, g12, g13, g14, g15, g16, g17, g18, g19, g20, g21, g22, g23, g24, g25, g26, g27, g28, g29, g30, g31, g32, g33, g34, g35, g36, g37, g38, g39, g40, g41, g42, g43, g44, g45, g46, g47, g48, g49, g50, g51, g52, g53, g54, g55, g56] H R =
  (loopK (exK Try.prog E_spec_l06Hull (cl (cl (cr (cl (cr (cr (cl (cl (cl (cr (cr (cr (bodyC Try.f54)))))))))))))) [.slice bits_a bits_n bits_e, .slice misses_a misses_n misses_e, undef, undef, .slice t4_a t4_n t4_e, .slice vout_a vout_n vout_e, .int .i64 vat, .int .i64 (-1), .float .f32 0, .int .i64 (IntKind.wrap .i64 (vat + 1)), g10, .slice (some ⟨b1, 0, none⟩) 1 1, .int .i64 vat, .int .i64 (IntKind.wrap .i64 (vat + 1)), g14, g15, g16, g17, g18, g19, g20, g21, g22, g23, g24, g25, g26, g27, g28, g29, g30, g31, g32, g33, g34, g35, g36, g37, g38, g39, g40, g41, g42, g43, g44, g45, g46, g47, g48, g49, g50, g51, g52, g53, g54, g55, g56] H (blockQ 2 (seqQ (exK Try.prog E_spec_l06Hull (cr (cr (cr (cl (cl (cl (cr (cr (cr (bodyC Try.f54))))))))))) (blockQ 1 (R))))) := by kernel_rfl
def spec_l06Hull_I1 (b1 : Nat) (bits_a : Option Addr) (bits_e : Nat) (bits_n : Nat) (misses_a : Option Addr) (misses_e : Nat) (misses_n : Nat) (Inv : Nat → (Option Addr) → Nat → Nat → (Option Addr) → Nat → Nat → Int → AHeap → Prop) : Nat → List Value → AHeap → Prop := fun μ tm H => ∃ (t4_a : Option Addr), ∃ (t4_n : Nat), ∃ (t4_e : Nat), ∃ (vout_a : Option Addr), ∃ (vout_n : Nat), ∃ (vout_e : Nat), ∃ (vat : Int), ∃ g7 g8 g9 g10 g12 g13 g14 g15 g16 g17 g18 g19 g20 g21 g22 g23 g24 g25 g26 g27 g28 g29 g30 g31 g32 g33 g34 g35 g36 g37 g38 g39 g40 g41 g42 g43 g44 g45 g46 g47 g48 g49 g50 g51 g52 g53 g54 g55 g56, tm = [.slice bits_a bits_n bits_e, .slice misses_a misses_n misses_e, undef, undef, .slice t4_a t4_n t4_e, .slice vout_a vout_n vout_e, .int .i64 vat, g7, g8, g9, g10, .slice (some ⟨b1, 0, none⟩) 1 1, g12, g13, g14, g15, g16, g17, g18, g19, g20, g21, g22, g23, g24, g25, g26, g27, g28, g29, g30, g31, g32, g33, g34, g35, g36, g37, g38, g39, g40, g41, g42, g43, g44, g45, g46, g47, g48, g49, g50, g51, g52, g53, g54, g55, g56] ∧ Inv μ t4_a t4_n t4_e vout_a vout_n vout_e vat H
theorem spec_l06Hull_L1 (b1 : Nat) (bits_a : Option Addr) (bits_e : Nat) (bits_n : Nat) (misses_a : Option Addr) (misses_e : Nat) (misses_n : Nat) {Q : Post} (Inv : Nat → (Option Addr) → Nat → Nat → (Option Addr) → Nat → Nat → Int → AHeap → Prop) (ν : Nat) (t4_a : Option Addr) (t4_n : Nat) (t4_e : Nat) (vout_a : Option Addr) (vout_n : Nat) (vout_e : Nat) (vat : Int) (g7 g8 g9 g10 g12 g13 g14 g15 g16 g17 g18 g19 g20 g21 g22 g23 g24 g25 g26 g27 g28 g29 g30 g31 g32 g33 g34 g35 g36 g37 g38 g39 g40 g41 g42 g43 g44 g45 g46 g47 g48 g49 g50 g51 g52 g53 g54 g55 g56 : Value) (H : AHeap) (h0 : Inv ν t4_a t4_n t4_e vout_a vout_n vout_e vat H)
    (hs : ∀ (μ : Nat) (t4_a : Option Addr) (t4_n : Nat) (t4_e : Nat) (vout_a : Option Addr) (vout_n : Nat) (vout_e : Nat) (vat : Int) (g7 g8 g9 g10 g12 g13 g14 g15 g16 g17 g18 g19 g20 g21 g22 g23 g24 g25 g26 g27 g28 g29 g30 g31 g32 g33 g34 g35 g36 g37 g38 g39 g40 g41 g42 g43 g44 g45 g46 g47 g48 g49 g50 g51 g52 g53 g54 g55 g56 : Value) (H : AHeap), Inv μ t4_a t4_n t4_e vout_a vout_n vout_e vat H → exK Try.prog E_spec_l06Hull (cl (cl (cr (cr (cr (bodyC Try.f54)))))) [.slice bits_a bits_n bits_e, .slice misses_a misses_n misses_e, undef, undef, .slice t4_a t4_n t4_e, .slice vout_a vout_n vout_e, .int .i64 vat, g7, g8, g9, g10, .slice (some ⟨b1, 0, none⟩) 1 1, g12, g13, g14, g15, g16, g17, g18, g19, g20, g21, g22, g23, g24, g25, g26, g27, g28, g29, g30, g31, g32, g33, g34, g35, g36, g37, g38, g39, g40, g41, g42, g43, g44, g45, g46, g47, g48, g49, g50, g51, g52, g53, g54, g55, g56] H (loopQ (spec_l06Hull_I1 b1 bits_a bits_e bits_n misses_a misses_e misses_n Inv) μ Q)) : loopK (exK Try.prog E_spec_l06Hull (cl (cl (cr (cr (cr (bodyC Try.f54))))))) [.slice bits_a bits_n bits_e, .slice misses_a misses_n misses_e, undef, undef, .slice t4_a t4_n t4_e, .slice vout_a vout_n vout_e, .int .i64 vat, g7, g8, g9, g10, .slice (some ⟨b1, 0, none⟩) 1 1, g12, g13, g14, g15, g16, g17, g18, g19, g20, g21, g22, g23, g24, g25, g26, g27, g28, g29, g30, g31, g32, g33, g34, g35, g36, g37, g38, g39, g40, g41, g42, g43, g44, g45, g46, g47, g48, g49, g50, g51, g52, g53, g54, g55, g56] H Q :=
  ⟨spec_l06Hull_I1 b1 bits_a bits_e bits_n misses_a misses_e misses_n Inv, ν, ⟨t4_a, t4_n, t4_e, vout_a, vout_n, vout_e, vat, g7, g8, g9, g10, g12, g13, g14, g15, g16, g17, g18, g19, g20, g21, g22, g23, g24, g25, g26, g27, g28, g29, g30, g31, g32, g33, g34, g35, g36, g37, g38, g39, g40, g41, g42, g43, g44, g45, g46, g47, g48, g49, g50, g51, g52, g53, g54, g55, g56, rfl, h0⟩, fun μ tm H h => by obtain ⟨t4_a, t4_n, t4_e, vout_a, vout_n, vout_e, vat, g7, g8, g9, g10, g12, g13, g14, g15, g16, g17, g18, g19, g20, g21, g22, g23, g24, g25, g26, g27, g28, g29, g30, g31, g32, g33, g34, g35, g36, g37, g38, g39, g40, g41, g42, g43, g44, g45, g46, g47, g48, g49, g50, g51, g52, g53, g54, g55, g56, rfl, hI⟩ := h; exact hs μ t4_a t4_n t4_e vout_a vout_n vout_e vat g7 g8 g9 g10 g12 g13 g14 g15 g16 g17 g18 g19 g20 g21 g22 g23 g24 g25 g26 g27 g28 g29 g30 g31 g32 g33 g34 g35 g36 g37 g38 g39 g40 g41 g42 g43 g44 g45 g46 g47 g48 g49 g50 g51 g52 g53 g54 g55 g56 H hI⟩
theorem spec_l06Hull_n1 {b1 : Nat} {bits_a : Option Addr} {bits_e : Nat} {bits_n : Nat} {misses_a : Option Addr} {misses_e : Nat} {misses_n : Nat} {Q : Post} {Inv : Nat → (Option Addr) → Nat → Nat → (Option Addr) → Nat → Nat → Int → AHeap → Prop} {μ : Nat} (μ' : Nat) {t4_a : Option Addr} {t4_n : Nat} {t4_e : Nat} {vout_a : Option Addr} {vout_n : Nat} {vout_e : Nat} {vat : Int} {g7 g8 g9 g10 g12 g13 g14 g15 g16 g17 g18 g19 g20 g21 g22 g23 g24 g25 g26 g27 g28 g29 g30 g31 g32 g33 g34 g35 g36 g37 g38 g39 g40 g41 g42 g43 g44 g45 g46 g47 g48 g49 g50 g51 g52 g53 g54 g55 g56 : Value} {H : AHeap} (hm : μ' < μ) (hI : Inv μ' t4_a t4_n t4_e vout_a vout_n vout_e vat H) : loopQ (spec_l06Hull_I1 b1 bits_a bits_e bits_n misses_a misses_e misses_n Inv) μ Q .normal [.slice bits_a bits_n bits_e, .slice misses_a misses_n misses_e, undef, undef, .slice t4_a t4_n t4_e, .slice vout_a vout_n vout_e, .int .i64 vat, g7, g8, g9, g10, .slice (some ⟨b1, 0, none⟩) 1 1, g12, g13, g14, g15, g16, g17, g18, g19, g20, g21, g22, g23, g24, g25, g26, g27, g28, g29, g30, g31, g32, g33, g34, g35, g36, g37, g38, g39, g40, g41, g42, g43, g44, g45, g46, g47, g48, g49, g50, g51, g52, g53, g54, g55, g56] H := ⟨μ', hm, t4_a, t4_n, t4_e, vout_a, vout_n, vout_e, vat, g7, g8, g9, g10, g12, g13, g14, g15, g16, g17, g18, g19, g20, g21, g22, g23, g24, g25, g26, g27, g28, g29, g30, g31, g32, g33, g34, g35, g36, g37, g38, g39, g40, g41, g42, g43, g44, g45, g46, g47, g48, g49, g50, g51, g52, g53, g54, g55, g56, rfl, hI⟩
theorem spec_l06Hull_x1_ret (b1 : Nat) (bits_a : Option Addr) (bits_e : Nat) (bits_n : Nat) (misses_a : Option Addr) (misses_e : Nat) (misses_n : Nat) (t4_a : Option Addr) (t4_n : Nat) (t4_e : Nat) (vout_a : Option Addr) (vout_n : Nat) (vout_e : Nat) (vat : Int) (g7 g8 g9 g10 g12 g13 g14 g15 g16 g17 g18 g19 g20 g21 g22 g23 g24 g25 g26 g27 g28 g29 g30 g31 g32 g33 g34 g35 g36 g37 g38 g39 g40 g41 g42 g43 g44 g45 g46 g47 g48 g49 g50 g51 g52 g53 g54 g55 g56 : Value) (H : AHeap) (K : Value → AHeap → Prop)  {I : Nat → List Value → AHeap → Prop} {μ : Nat} : loopQ I μ (blockQ 0 (retK Try.prog Try.f54 K)) .ret [.slice bits_a bits_n bits_e, .slice misses_a misses_n misses_e, undef, undef, .slice t4_a t4_n t4_e, .slice vout_a vout_n vout_e, .int .i64 vat, g7, g8, g9, g10, .slice (some ⟨b1, 0, none⟩) 1 1, g12, g13, g14, g15, g16, g17, g18, g19, g20, g21, g22, g23, g24, g25, g26, g27, g28, g29, g30, g31, g32, g33, g34, g35, g36, g37, g38, g39, g40, g41, g42, g43, g44, g45, g46, g47, g48, g49, g50, g51, g52, g53, g54, g55, g56] H =
  (K (.slice t4_a t4_n t4_e) H) := by kernel_rfl
theorem spec_l06Hull_r2 (b1 : Nat) (bits_a : Option Addr) (bits_e : Nat) (bits_n : Nat) (g49 : Value) (g50 : Value) (g51 : Value) (g52 : Value) (g53 : Value) (g54 : Value) (g55 : Value) (g56 : Value) (misses_a : Option Addr) (misses_e : Nat) (misses_n : Nat) (t4_a : Option Addr) (t4_e : Nat) (t4_n : Nat) (vat : Int) (vout_a : Option Addr) (vout_e : Nat) (vout_n : Nat) (z2_13 : Int) (best : Int) (vmost : Nat) (i : Int) (g10 g14 g15 g16 g17 g18 g19 g20 g21 g22 g23 g24 g25 g26 g27 g28 g29 g30 g31 g32 g33 g34 g35 g36 g37 g38 g39 g40 g41 g42 g43 g44 g45 g46 g47 g48 : Value) (H : AHeap) (R : Post) : exK Try.prog E_spec_l06Hull (cl (cl (cr (cl (cr (cr (cl (cl (cl (cr (cr (cr (bodyC Try.f54))))))))))))) [.slice bits_a bits_n bits_e, .slice misses_a misses_n misses_e, undef, undef, .slice t4_a t4_n t4_e, .slice vout_a vout_n vout_e, .int .i64 vat, .int .i64 best, .float .f32 vmost, .int .i64 i, g10, .slice (some ⟨b1, 0, none⟩) 1 1, .int .i64 vat, .int .i64 z2_13, g14, g15, g16, g17, g18, g19, g20, g21, g22, g23, g24, g25, g26, g27, g28, g29, g30, g31, g32, g33, g34, g35, g36, g37, g38, g39, g40, g41, g42, g43, g44, g45, g46, g47, g48, g49, g50, g51, g52, g53, g54, g55, g56] H R =
  (Br (decide ((i : Int) < (bits_n : Int))) ((0 : Int) ≤ vat ∧ vat < (misses_n : Int) ∧ ∃ b2 f1, (misses_a : Option Addr) = some ⟨b2, f1, none⟩ ∧ ∃ x1 : Nat,  rdC H b2 (f1 + (vat : Int).toNat * 1) = some (.float .f32 x1) ∧ (0 : Int) ≤ i ∧ i < (misses_n : Int) ∧ ∃ b3 f2, (misses_a : Option Addr) = some ⟨b3, f2, none⟩ ∧ ∃ x2 : Nat,  rdC H b3 (f2 + (i : Int).toNat * 1) = some (.float .f32 x2) ∧ (0 : Int) ≤ i ∧ i < (bits_n : Int) ∧ ∃ b4 f3, (bits_a : Option Addr) = some ⟨b4, f3, none⟩ ∧ ∃ x3 : Int,  rdC H b4 (f3 + (i : Int).toNat * 1) = some (.int .i64 x3) ∧ (0 : Int) ≤ vat ∧ vat < (bits_n : Int) ∧ ∃ b5 f4, (bits_a : Option Addr) = some ⟨b5, f4, none⟩ ∧ ∃ x4 : Int,  rdC H b5 (f4 + (vat : Int).toNat * 1) = some (.int .i64 x4) ∧ Br (flt .f32 0 (fdiv .f32 (fsub .f32 x1 x2) (FloatKind.nearest .f32 (IntKind.wrap .i64 (x3 - x4))))) (Br (fle .f32 vmost (fdiv .f32 (fsub .f32 x1 x2) (FloatKind.nearest .f32 (IntKind.wrap .i64 (x3 - x4))))) (R .normal [.slice bits_a bits_n bits_e, .slice misses_a misses_n misses_e, undef, undef, .slice t4_a t4_n t4_e, .slice vout_a vout_n vout_e, .int .i64 vat, .int .i64 i, .float .f32 (fdiv .f32 (fsub .f32 x1 x2) (FloatKind.nearest .f32 (IntKind.wrap .i64 (x3 - x4)))), .int .i64 (IntKind.wrap .i64 (i + 1)), .float .f32 (fdiv .f32 (fsub .f32 x1 x2) (FloatKind.nearest .f32 (IntKind.wrap .i64 (x3 - x4)))), .slice (some ⟨b1, 0, none⟩) 1 1, .int .i64 vat, .int .i64 z2_13, .int .i64 i, .slice bits_a bits_n bits_e, .int .i64 (bits_n : Int), .bool (decide ((i : Int) < (bits_n : Int))), .int .i64 i, .int .i64 (IntKind.wrap .i64 (i + 1)), .slice misses_a misses_n misses_e, .int .i64 vat, .pointer (some ⟨b2, f1 + (vat : Int).toNat * 1, none⟩), .float .f32 x1, .slice misses_a misses_n misses_e, .int .i64 i, .pointer (some ⟨b3, f2 + (i : Int).toNat * 1, none⟩), .float .f32 x2, .float .f32 (fsub .f32 x1 x2), .slice bits_a bits_n bits_e, .int .i64 i, .pointer (some ⟨b4, f3 + (i : Int).toNat * 1, none⟩), .int .i64 x3, .slice bits_a bits_n bits_e, .int .i64 vat, .pointer (some ⟨b5, f4 + (vat : Int).toNat * 1, none⟩), .int .i64 x4, .int .i64 (IntKind.wrap .i64 (x3 - x4)), .float .f32 (FloatKind.nearest .f32 (IntKind.wrap .i64 (x3 - x4))), .float .f32 (fdiv .f32 (fsub .f32 x1 x2) (FloatKind.nearest .f32 (IntKind.wrap .i64 (x3 - x4)))), .float .f32 (fdiv .f32 (fsub .f32 x1 x2) (FloatKind.nearest .f32 (IntKind.wrap .i64 (x3 - x4)))), .bool (flt .f32 0 (fdiv .f32 (fsub .f32 x1 x2) (FloatKind.nearest .f32 (IntKind.wrap .i64 (x3 - x4))))), .bool true, .float .f32 (fdiv .f32 (fsub .f32 x1 x2) (FloatKind.nearest .f32 (IntKind.wrap .i64 (x3 - x4)))), .float .f32 vmost, .bool (fle .f32 vmost (fdiv .f32 (fsub .f32 x1 x2) (FloatKind.nearest .f32 (IntKind.wrap .i64 (x3 - x4))))), .bool (fle .f32 vmost (fdiv .f32 (fsub .f32 x1 x2) (FloatKind.nearest .f32 (IntKind.wrap .i64 (x3 - x4))))), .int .i64 i, .float .f32 (fdiv .f32 (fsub .f32 x1 x2) (FloatKind.nearest .f32 (IntKind.wrap .i64 (x3 - x4)))), g49, g50, g51, g52, g53, g54, g55, g56] H) (R .normal [.slice bits_a bits_n bits_e, .slice misses_a misses_n misses_e, undef, undef, .slice t4_a t4_n t4_e, .slice vout_a vout_n vout_e, .int .i64 vat, .int .i64 best, .float .f32 vmost, .int .i64 (IntKind.wrap .i64 (i + 1)), .float .f32 (fdiv .f32 (fsub .f32 x1 x2) (FloatKind.nearest .f32 (IntKind.wrap .i64 (x3 - x4)))), .slice (some ⟨b1, 0, none⟩) 1 1, .int .i64 vat, .int .i64 z2_13, .int .i64 i, .slice bits_a bits_n bits_e, .int .i64 (bits_n : Int), .bool (decide ((i : Int) < (bits_n : Int))), .int .i64 i, .int .i64 (IntKind.wrap .i64 (i + 1)), .slice misses_a misses_n misses_e, .int .i64 vat, .pointer (some ⟨b2, f1 + (vat : Int).toNat * 1, none⟩), .float .f32 x1, .slice misses_a misses_n misses_e, .int .i64 i, .pointer (some ⟨b3, f2 + (i : Int).toNat * 1, none⟩), .float .f32 x2, .float .f32 (fsub .f32 x1 x2), .slice bits_a bits_n bits_e, .int .i64 i, .pointer (some ⟨b4, f3 + (i : Int).toNat * 1, none⟩), .int .i64 x3, .slice bits_a bits_n bits_e, .int .i64 vat, .pointer (some ⟨b5, f4 + (vat : Int).toNat * 1, none⟩), .int .i64 x4, .int .i64 (IntKind.wrap .i64 (x3 - x4)), .float .f32 (FloatKind.nearest .f32 (IntKind.wrap .i64 (x3 - x4))), .float .f32 (fdiv .f32 (fsub .f32 x1 x2) (FloatKind.nearest .f32 (IntKind.wrap .i64 (x3 - x4)))), .float .f32 (fdiv .f32 (fsub .f32 x1 x2) (FloatKind.nearest .f32 (IntKind.wrap .i64 (x3 - x4)))), .bool (flt .f32 0 (fdiv .f32 (fsub .f32 x1 x2) (FloatKind.nearest .f32 (IntKind.wrap .i64 (x3 - x4))))), .bool true, .float .f32 (fdiv .f32 (fsub .f32 x1 x2) (FloatKind.nearest .f32 (IntKind.wrap .i64 (x3 - x4)))), .float .f32 vmost, .bool (fle .f32 vmost (fdiv .f32 (fsub .f32 x1 x2) (FloatKind.nearest .f32 (IntKind.wrap .i64 (x3 - x4))))), .bool (fle .f32 vmost (fdiv .f32 (fsub .f32 x1 x2) (FloatKind.nearest .f32 (IntKind.wrap .i64 (x3 - x4))))), g47, g48, g49, g50, g51, g52, g53, g54, g55, g56] H)) (R .normal [.slice bits_a bits_n bits_e, .slice misses_a misses_n misses_e, undef, undef, .slice t4_a t4_n t4_e, .slice vout_a vout_n vout_e, .int .i64 vat, .int .i64 best, .float .f32 vmost, .int .i64 (IntKind.wrap .i64 (i + 1)), .float .f32 (fdiv .f32 (fsub .f32 x1 x2) (FloatKind.nearest .f32 (IntKind.wrap .i64 (x3 - x4)))), .slice (some ⟨b1, 0, none⟩) 1 1, .int .i64 vat, .int .i64 z2_13, .int .i64 i, .slice bits_a bits_n bits_e, .int .i64 (bits_n : Int), .bool (decide ((i : Int) < (bits_n : Int))), .int .i64 i, .int .i64 (IntKind.wrap .i64 (i + 1)), .slice misses_a misses_n misses_e, .int .i64 vat, .pointer (some ⟨b2, f1 + (vat : Int).toNat * 1, none⟩), .float .f32 x1, .slice misses_a misses_n misses_e, .int .i64 i, .pointer (some ⟨b3, f2 + (i : Int).toNat * 1, none⟩), .float .f32 x2, .float .f32 (fsub .f32 x1 x2), .slice bits_a bits_n bits_e, .int .i64 i, .pointer (some ⟨b4, f3 + (i : Int).toNat * 1, none⟩), .int .i64 x3, .slice bits_a bits_n bits_e, .int .i64 vat, .pointer (some ⟨b5, f4 + (vat : Int).toNat * 1, none⟩), .int .i64 x4, .int .i64 (IntKind.wrap .i64 (x3 - x4)), .float .f32 (FloatKind.nearest .f32 (IntKind.wrap .i64 (x3 - x4))), .float .f32 (fdiv .f32 (fsub .f32 x1 x2) (FloatKind.nearest .f32 (IntKind.wrap .i64 (x3 - x4)))), .float .f32 (fdiv .f32 (fsub .f32 x1 x2) (FloatKind.nearest .f32 (IntKind.wrap .i64 (x3 - x4)))), .bool (flt .f32 0 (fdiv .f32 (fsub .f32 x1 x2) (FloatKind.nearest .f32 (IntKind.wrap .i64 (x3 - x4))))), .bool false, undef, undef, undef, .bool false, g47, g48, g49, g50, g51, g52, g53, g54, g55, g56] H)) (R (.exit 2) [.slice bits_a bits_n bits_e, .slice misses_a misses_n misses_e, undef, undef, .slice t4_a t4_n t4_e, .slice vout_a vout_n vout_e, .int .i64 vat, .int .i64 best, .float .f32 vmost, .int .i64 i, g10, .slice (some ⟨b1, 0, none⟩) 1 1, .int .i64 vat, .int .i64 z2_13, .int .i64 i, .slice bits_a bits_n bits_e, .int .i64 (bits_n : Int), .bool (decide ((i : Int) < (bits_n : Int))), g18, g19, g20, g21, g22, g23, g24, g25, g26, g27, g28, g29, g30, g31, g32, g33, g34, g35, g36, g37, g38, g39, g40, g41, g42, g43, g44, g45, g46, g47, g48, g49, g50, g51, g52, g53, g54, g55, g56] H)) := by kernel_rfl
def spec_l06Hull_I2 (b1 : Nat) (bits_a : Option Addr) (bits_e : Nat) (bits_n : Nat) (g49 : Value) (g50 : Value) (g51 : Value) (g52 : Value) (g53 : Value) (g54 : Value) (g55 : Value) (g56 : Value) (misses_a : Option Addr) (misses_e : Nat) (misses_n : Nat) (t4_a : Option Addr) (t4_e : Nat) (t4_n : Nat) (vat : Int) (vout_a : Option Addr) (vout_e : Nat) (vout_n : Nat) (z2_13 : Int) (Inv : Nat → Int → Nat → Int → AHeap → Prop) : Nat → List Value → AHeap → Prop := fun μ tm H => ∃ (best : Int), ∃ (vmost : Nat), ∃ (i : Int), ∃ g10 g14 g15 g16 g17 g18 g19 g20 g21 g22 g23 g24 g25 g26 g27 g28 g29 g30 g31 g32 g33 g34 g35 g36 g37 g38 g39 g40 g41 g42 g43 g44 g45 g46 g47 g48, tm = [.slice bits_a bits_n bits_e, .slice misses_a misses_n misses_e, undef, undef, .slice t4_a t4_n t4_e, .slice vout_a vout_n vout_e, .int .i64 vat, .int .i64 best, .float .f32 vmost, .int .i64 i, g10, .slice (some ⟨b1, 0, none⟩) 1 1, .int .i64 vat, .int .i64 z2_13, g14, g15, g16, g17, g18, g19, g20, g21, g22, g23, g24, g25, g26, g27, g28, g29, g30, g31, g32, g33, g34, g35, g36, g37, g38, g39, g40, g41, g42, g43, g44, g45, g46, g47, g48, g49, g50, g51, g52, g53, g54, g55, g56] ∧ Inv μ best vmost i H
theorem spec_l06Hull_L2 (b1 : Nat) (bits_a : Option Addr) (bits_e : Nat) (bits_n : Nat) (g49 : Value) (g50 : Value) (g51 : Value) (g52 : Value) (g53 : Value) (g54 : Value) (g55 : Value) (g56 : Value) (misses_a : Option Addr) (misses_e : Nat) (misses_n : Nat) (t4_a : Option Addr) (t4_e : Nat) (t4_n : Nat) (vat : Int) (vout_a : Option Addr) (vout_e : Nat) (vout_n : Nat) (z2_13 : Int) {Q : Post} (Inv : Nat → Int → Nat → Int → AHeap → Prop) (ν : Nat) (best : Int) (vmost : Nat) (i : Int) (g10 g14 g15 g16 g17 g18 g19 g20 g21 g22 g23 g24 g25 g26 g27 g28 g29 g30 g31 g32 g33 g34 g35 g36 g37 g38 g39 g40 g41 g42 g43 g44 g45 g46 g47 g48 : Value) (H : AHeap) (h0 : Inv ν best vmost i H)
    (hs : ∀ (μ : Nat) (best : Int) (vmost : Nat) (i : Int) (g10 g14 g15 g16 g17 g18 g19 g20 g21 g22 g23 g24 g25 g26 g27 g28 g29 g30 g31 g32 g33 g34 g35 g36 g37 g38 g39 g40 g41 g42 g43 g44 g45 g46 g47 g48 : Value) (H : AHeap), Inv μ best vmost i H → exK Try.prog E_spec_l06Hull (cl (cl (cr (cl (cr (cr (cl (cl (cl (cr (cr (cr (bodyC Try.f54))))))))))))) [.slice bits_a bits_n bits_e, .slice misses_a misses_n misses_e, undef, undef, .slice t4_a t4_n t4_e, .slice vout_a vout_n vout_e, .int .i64 vat, .int .i64 best, .float .f32 vmost, .int .i64 i, g10, .slice (some ⟨b1, 0, none⟩) 1 1, .int .i64 vat, .int .i64 z2_13, g14, g15, g16, g17, g18, g19, g20, g21, g22, g23, g24, g25, g26, g27, g28, g29, g30, g31, g32, g33, g34, g35, g36, g37, g38, g39, g40, g41, g42, g43, g44, g45, g46, g47, g48, g49, g50, g51, g52, g53, g54, g55, g56] H (loopQ (spec_l06Hull_I2 b1 bits_a bits_e bits_n g49 g50 g51 g52 g53 g54 g55 g56 misses_a misses_e misses_n t4_a t4_e t4_n vat vout_a vout_e vout_n z2_13 Inv) μ Q)) : loopK (exK Try.prog E_spec_l06Hull (cl (cl (cr (cl (cr (cr (cl (cl (cl (cr (cr (cr (bodyC Try.f54)))))))))))))) [.slice bits_a bits_n bits_e, .slice misses_a misses_n misses_e, undef, undef, .slice t4_a t4_n t4_e, .slice vout_a vout_n vout_e, .int .i64 vat, .int .i64 best, .float .f32 vmost, .int .i64 i, g10, .slice (some ⟨b1, 0, none⟩) 1 1, .int .i64 vat, .int .i64 z2_13, g14, g15, g16, g17, g18, g19, g20, g21, g22, g23, g24, g25, g26, g27, g28, g29, g30, g31, g32, g33, g34, g35, g36, g37, g38, g39, g40, g41, g42, g43, g44, g45, g46, g47, g48, g49, g50, g51, g52, g53, g54, g55, g56] H Q :=
  ⟨spec_l06Hull_I2 b1 bits_a bits_e bits_n g49 g50 g51 g52 g53 g54 g55 g56 misses_a misses_e misses_n t4_a t4_e t4_n vat vout_a vout_e vout_n z2_13 Inv, ν, ⟨best, vmost, i, g10, g14, g15, g16, g17, g18, g19, g20, g21, g22, g23, g24, g25, g26, g27, g28, g29, g30, g31, g32, g33, g34, g35, g36, g37, g38, g39, g40, g41, g42, g43, g44, g45, g46, g47, g48, rfl, h0⟩, fun μ tm H h => by obtain ⟨best, vmost, i, g10, g14, g15, g16, g17, g18, g19, g20, g21, g22, g23, g24, g25, g26, g27, g28, g29, g30, g31, g32, g33, g34, g35, g36, g37, g38, g39, g40, g41, g42, g43, g44, g45, g46, g47, g48, rfl, hI⟩ := h; exact hs μ best vmost i g10 g14 g15 g16 g17 g18 g19 g20 g21 g22 g23 g24 g25 g26 g27 g28 g29 g30 g31 g32 g33 g34 g35 g36 g37 g38 g39 g40 g41 g42 g43 g44 g45 g46 g47 g48 H hI⟩
theorem spec_l06Hull_n2 {b1 : Nat} {bits_a : Option Addr} {bits_e : Nat} {bits_n : Nat} {g49 : Value} {g50 : Value} {g51 : Value} {g52 : Value} {g53 : Value} {g54 : Value} {g55 : Value} {g56 : Value} {misses_a : Option Addr} {misses_e : Nat} {misses_n : Nat} {t4_a : Option Addr} {t4_e : Nat} {t4_n : Nat} {vat : Int} {vout_a : Option Addr} {vout_e : Nat} {vout_n : Nat} {z2_13 : Int} {Q : Post} {Inv : Nat → Int → Nat → Int → AHeap → Prop} {μ : Nat} (μ' : Nat) {best : Int} {vmost : Nat} {i : Int} {g10 g14 g15 g16 g17 g18 g19 g20 g21 g22 g23 g24 g25 g26 g27 g28 g29 g30 g31 g32 g33 g34 g35 g36 g37 g38 g39 g40 g41 g42 g43 g44 g45 g46 g47 g48 : Value} {H : AHeap} (hm : μ' < μ) (hI : Inv μ' best vmost i H) : loopQ (spec_l06Hull_I2 b1 bits_a bits_e bits_n g49 g50 g51 g52 g53 g54 g55 g56 misses_a misses_e misses_n t4_a t4_e t4_n vat vout_a vout_e vout_n z2_13 Inv) μ Q .normal [.slice bits_a bits_n bits_e, .slice misses_a misses_n misses_e, undef, undef, .slice t4_a t4_n t4_e, .slice vout_a vout_n vout_e, .int .i64 vat, .int .i64 best, .float .f32 vmost, .int .i64 i, g10, .slice (some ⟨b1, 0, none⟩) 1 1, .int .i64 vat, .int .i64 z2_13, g14, g15, g16, g17, g18, g19, g20, g21, g22, g23, g24, g25, g26, g27, g28, g29, g30, g31, g32, g33, g34, g35, g36, g37, g38, g39, g40, g41, g42, g43, g44, g45, g46, g47, g48, g49, g50, g51, g52, g53, g54, g55, g56] H := ⟨μ', hm, best, vmost, i, g10, g14, g15, g16, g17, g18, g19, g20, g21, g22, g23, g24, g25, g26, g27, g28, g29, g30, g31, g32, g33, g34, g35, g36, g37, g38, g39, g40, g41, g42, g43, g44, g45, g46, g47, g48, rfl, hI⟩
theorem spec_l06Hull_x2_2 (b1 : Nat) (bits_a : Option Addr) (bits_e : Nat) (bits_n : Nat) (g49 : Value) (g50 : Value) (g51 : Value) (g52 : Value) (g53 : Value) (g54 : Value) (g55 : Value) (g56 : Value) (misses_a : Option Addr) (misses_e : Nat) (misses_n : Nat) (t4_a : Option Addr) (t4_e : Nat) (t4_n : Nat) (vat : Int) (vout_a : Option Addr) (vout_e : Nat) (vout_n : Nat) (z2_13 : Int) (best : Int) (vmost : Nat) (i : Int) (g10 g14 g15 g16 g17 g18 g19 g20 g21 g22 g23 g24 g25 g26 g27 g28 g29 g30 g31 g32 g33 g34 g35 g36 g37 g38 g39 g40 g41 g42 g43 g44 g45 g46 g47 g48 : Value) (H : AHeap)  (R : Post) {I : Nat → List Value → AHeap → Prop} {μ : Nat} : loopQ I μ (blockQ 2 (seqQ (exK Try.prog E_spec_l06Hull (cr (cr (cr (cl (cl (cl (cr (cr (cr (bodyC Try.f54))))))))))) (blockQ 1 (R)))) (.exit 2) [.slice bits_a bits_n bits_e, .slice misses_a misses_n misses_e, undef, undef, .slice t4_a t4_n t4_e, .slice vout_a vout_n vout_e, .int .i64 vat, .int .i64 best, .float .f32 vmost, .int .i64 i, g10, .slice (some ⟨b1, 0, none⟩) 1 1, .int .i64 vat, .int .i64 z2_13, g14, g15, g16, g17, g18, g19, g20, g21, g22, g23, g24, g25, g26, g27, g28, g29, g30, g31, g32, g33, g34, g35, g36, g37, g38, g39, g40, g41, g42, g43, g44, g45, g46, g47, g48, g49, g50, g51, g52, g53, g54, g55, g56] H =
  (Br (decide ((best : Int) < 0)) (R .ret [.slice bits_a bits_n bits_e, .slice misses_a misses_n misses_e, undef, undef, .slice vout_a vout_n vout_e, .slice vout_a vout_n vout_e, .int .i64 vat, .int .i64 best, .float .f32 vmost, .int .i64 i, g10, .slice (some ⟨b1, 0, none⟩) 1 1, .int .i64 vat, .int .i64 z2_13, g14, g15, g16, g17, g18, g19, g20, g21, g22, g23, g24, g25, g26, g27, g28, g29, g30, g31, g32, g33, g34, g35, g36, g37, g38, g39, g40, g41, g42, g43, g44, g45, g46, g47, g48, .int .i64 best, .bool (decide ((best : Int) < 0)), .slice vout_a vout_n vout_e, g52, g53, g54, g55, g56] H) (Al [.int .i64 best] H fun b6 H2 => ∃ o1 w1 : List Value, ownB H2 vout_a vout_n vout_e 1 = some o1 ∧ rdS H2 (some ⟨b6, 0, none⟩) (1 * 1) = some w1 ∧ ((vout_a : Option Addr) = none → 0 < (1 : Nat)) ∧ (vout_n : Nat) + 1 < most ∧ Ap H2 (killB H2 vout_a ++ [some ⟨o1 ++ w1, true⟩]) fun b7 H3 => R .normal [.slice bits_a bits_n bits_e, .slice misses_a misses_n misses_e, undef, undef, .slice t4_a t4_n t4_e, .slice (some ⟨b7, 0, none⟩) (vout_n + 1) 1, .int .i64 best, .int .i64 best, .float .f32 vmost, .int .i64 i, g10, .slice (some ⟨b1, 0, none⟩) 1 1, .int .i64 vat, .int .i64 z2_13, g14, g15, g16, g17, g18, g19, g20, g21, g22, g23, g24, g25, g26, g27, g28, g29, g30, g31, g32, g33, g34, g35, g36, g37, g38, g39, g40, g41, g42, g43, g44, g45, g46, g47, g48, .int .i64 best, .bool (decide ((best : Int) < 0)), g51, .int .i64 best, .slice vout_a vout_n vout_e, .int .i64 best, .slice (some ⟨b6, 0, none⟩) 1 1, .slice (some ⟨b7, 0, none⟩) (vout_n + 1) 1] H3)) := by kernel_rfl
theorem E_spec_l06Hull_ok : ∀ g, FnOk Try.prog g (E_spec_l06Hull g) := FnOk.envOf (by
  intro x hx; cases hx)
set_option maxHeartbeats 1000000 in
theorem spec_l06Hull_main (bits_a : Option Addr) (bits_n : Nat) (bits_e : Nat) (misses_a : Option Addr) (misses_n : Nat) (misses_e : Nat) (H : AHeap) (K : Value → AHeap → Prop) (h : T_spec_l06Hull bits_a bits_n bits_e misses_a misses_n misses_e H fun (r1_a : Option Addr) (r1_n : Nat) (r1_e : Nat) (H' : AHeap) => K (.slice r1_a r1_n r1_e) H') : bodyK Try.prog E_spec_l06Hull Try.f54 [.slice bits_a bits_n bits_e, .slice misses_a misses_n misses_e] H K := by
  rw [spec_l06Hull_vc]
  obtain ⟨l_bits, l_misses, i_bits, i_misses, bd_68, bd_69, pr0, pr1, pr2, hk⟩ := h
  obtain rfl := i_bits.eqn
  obtain rfl := i_misses.eqn
  have e : (p_spec_l06Hull l_bits l_misses) = _ := rfl
  have e := e.trans (p_spec_l06Hull_eq l_bits l_misses)
  have g0 := Grow.refl H
  refine Al.intro (fun b_1 H_1 hb_2 hl_3 g_4 o_5 => ?_)
  have o_5 : Own H_1 b_1 (([(0 : Int)]).map fI) := o_5
  have l_7 := g_4.1
  have g_8 := g0.trans g_4
  have l_9 := g_8.1
  have w_67 := o_5.lt
  refine spec_l06Hull_L1 _ _ _ _ _ _ _ (fun (μ : Nat) (t4_a : Option Addr) (t4_n : Nat) (t4_e : Nat) (vout_a : Option Addr) (vout_n : Nat) (vout_e : Nat) (vat : Int) (H_2 : AHeap) => ∃ (l_vout : List Int), ∃ (b_10 : Nat), t4_a = none ∧ t4_n = 0 ∧ t4_e = 0 ∧ vout_a = some ⟨b_10, 0, none⟩ ∧ vout_n = l_vout.length ∧ vout_e = 1 ∧ Own H_2 b_10 (l_vout.map fI) ∧ Grow H H_2 ∧ H.length ≤ b_10 ∧ 0 ≤ vat ∧ vat < (l_bits.length : Int) ∧ (l_vout.length : Int) ≤ vat + 1 ∧ (l_bits.length : Int) - vat ≤ (μ : Int) ∧ p_spec_l06Hull l_bits l_misses = p_spec_l06Hull_l1 l_bits l_misses (μ + 1) l_vout vat) (Int.toNat ((l_bits.length : Int) - (0 : Int))) _ _ _ _ _ _ _ _ _ _ _ _ _ _ _ _ _ _ _ _ _ _ _ _ _ _ _ _ _ _ _ _ _ _ _ _ _ _ _ _ _ _ _ _ _ _ _ _ _ _ _ _ _ _ _ _ H_1 ?_ ?_
  · exact ⟨_, _, rfl, rfl, rfl, rfl, (by first | rfl | omega | (simp only [List.length_set]; done) | (simp only [List.length_set, List.length_replicate]; omega)), rfl, o_5, g_8, (by omega), (by first | omega | (simp; done) | (simp; omega)), (by first | omega | (simp; done) | (simp; omega)), (by first | omega | (simp; done) | (simp; omega)), (by omega), e⟩
  · intro μ t4_a t4_n t4_e vout_a vout_n vout_e vat g7 g8 g9 g10 g12 g13 g14 g15 g16 g17 g18 g19 g20 g21 g22 g23 g24 g25 g26 g27 g28 g29 g30 g31 g32 g33 g34 g35 g36 g37 g38 g39 g40 g41 g42 g43 g44 g45 g46 g47 g48 g49 g50 g51 g52 g53 g54 g55 g56 H_2 hI
    obtain ⟨l_vout, b_10, rfl, rfl, rfl, rfl, rfl, rfl, o_11, g_12, l_13, v_14, v_15, v_16, hμ, e⟩ := hI
    rw [spec_l06Hull_r1]
    have e := e.trans (p_spec_l06Hull_l1_s l_bits l_misses μ l_vout vat)
    have w_17 := o_11.lt
    have l_18 := g_12.1
    rw [show IntKind.wrap .i64 (vat + 1) = (vat + 1) from wrap64 (by omega) (by omega)]
    refine spec_l06Hull_L2 _ _ _ _ _ _ _ _ _ _ _ _ _ _ _ _ _ _ _ _ _ _ _ (fun (μ2 : Nat) (best : Int) (vmost : Nat) (i : Int) (H_3 : AHeap) => ∃ (y2_1 : List Int), Own H_3 b_10 (y2_1.map fI) ∧ y2_1.length = l_vout.length ∧ Grow H H_3 ∧ (vat + 1) ≤ i ∧ ((i ≤ (l_bits.length : Int) ∨ i ≤ (vat + 1))) ∧ (best < 0 ∨ (vat < best ∧ best < i)) ∧ (l_bits.length : Int) - i ≤ (μ2 : Int) ∧ p_spec_l06Hull l_bits l_misses = p_spec_l06Hull_l2 l_bits l_misses l_vout vat (fun (best : Int) (vmost : Nat) (i : Int) (y2_1 : List Int) => (bif decide ((best : Int) < 0) then y2_1 else (p_spec_l06Hull_l1 l_bits l_misses μ ((y2_1 ++ [(best : Int)])) best))) (μ2 + 1) best vmost i y2_1) (Int.toNat ((l_bits.length : Int) - (vat + 1))) _ _ _ _ _ _ _ _ _ _ _ _ _ _ _ _ _ _ _ _ _ _ _ _ _ _ _ _ _ _ _ _ _ _ _ _ _ _ _ H_2 ?_ ?_
    · exact ⟨_, o_11, (by first | rfl | (simp; done)), g_12, (by first | omega | (simp; done) | (simp; omega)), (by first | omega | (simp; done) | (simp; omega)), (by first | omega | (simp; done) | (simp; omega)), (by omega), e⟩
    · intro μ2 best vmost i g10 g14 g15 g16 g17 g18 g19 g20 g21 g22 g23 g24 g25 g26 g27 g28 g29 g30 g31 g32 g33 g34 g35 g36 g37 g38 g39 g40 g41 g42 g43 g44 g45 g46 g47 g48 H_3 hI
      obtain ⟨y2_1, o_19, y_20, g_21, v_22, v_23, v_24, hμ, e⟩ := hI
      rw [spec_l06Hull_r2]
      have e := e.trans (p_spec_l06Hull_l2_s l_bits l_misses l_vout vat (fun (best : Int) (vmost : Nat) (i : Int) (y2_1 : List Int) => (bif decide ((best : Int) < 0) then y2_1 else (p_spec_l06Hull_l1 l_bits l_misses μ ((y2_1 ++ [(best : Int)])) best))) μ2 best vmost i y2_1)
      have w_25 := o_19.lt
      have l_26 := g_21.1
      refine Br.intro (fun c_27 => ?_) (fun c_27 => ?_)
      · have e := e.trans (cond_t c_27)
        have c_27' := of_decide_eq_true c_27
        obtain ⟨b_28, f_29, q_30⟩ := ((i_misses.grow g_21)).pos (by first | omega | (simp only [List.length_set, List.length_replicate, List.length_append, List.length_cons, List.length_nil, List.length_take, List.length_drop, marks_length]; done) | (simp only [List.length_set, List.length_replicate, List.length_append, List.length_cons, List.length_nil, List.length_take, List.length_drop, marks_length]; omega))
        refine ⟨by omega, by omega, b_28, f_29, q_30, ?_⟩
        refine ⟨((l_misses).getD (vat : Int).toNat 0), (i_misses).rd g_21 q_30 (by omega) _, ?_⟩
        obtain ⟨b_31, f_32, q_33⟩ := ((i_misses.grow g_21)).pos (by first | omega | (simp only [List.length_set, List.length_replicate, List.length_append, List.length_cons, List.length_nil, List.length_take, List.length_drop, marks_length]; done) | (simp only [List.length_set, List.length_replicate, List.length_append, List.length_cons, List.length_nil, List.length_take, List.length_drop, marks_length]; omega))
        refine ⟨by omega, by omega, b_31, f_32, q_33, ?_⟩
        refine ⟨((l_misses).getD (i : Int).toNat 0), (i_misses).rd g_21 q_33 (by omega) _, ?_⟩
        obtain ⟨b_34, f_35, q_36⟩ := ((i_bits.grow g_21)).pos (by first | omega | (simp only [List.length_set, List.length_replicate, List.length_append, List.length_cons, List.length_nil, List.length_take, List.length_drop, marks_length]; done) | (simp only [List.length_set, List.length_replicate, List.length_append, List.length_cons, List.length_nil, List.length_take, List.length_drop, marks_length]; omega))
        refine ⟨by omega, by omega, b_34, f_35, q_36, ?_⟩
        refine ⟨((l_bits).getD (i : Int).toNat 0), (i_bits).rd g_21 q_36 (by omega) _, ?_⟩
        obtain ⟨b_37, f_38, q_39⟩ := ((i_bits.grow g_21)).pos (by first | omega | (simp only [List.length_set, List.length_replicate, List.length_append, List.length_cons, List.length_nil, List.length_take, List.length_drop, marks_length]; done) | (simp only [List.length_set, List.length_replicate, List.length_append, List.length_cons, List.length_nil, List.length_take, List.length_drop, marks_length]; omega))
        refine ⟨by omega, by omega, b_37, f_38, q_39, ?_⟩
        refine ⟨((l_bits).getD (vat : Int).toNat 0), (i_bits).rd g_21 q_39 (by omega) _, ?_⟩
        refine Br.intro (fun c_40 => ?_) (fun c_40 => ?_)
        · have e := e.trans (cond_t c_40)
          refine Br.intro (fun c_41 => ?_) (fun c_41 => ?_)
          · have e := e.trans (cond_t c_41)
            rw [show IntKind.wrap .i64 (i + 1) = (i + 1) from wrap64 (by omega) (by omega)]
            refine spec_l06Hull_n2 (μ2 - 1) (by omega) ⟨_, o_19, (by first | assumption | omega | (simp only [List.length_set]; first | rfl | assumption | omega)), g_21, (by first | omega | (simp only [List.length_append, List.length_cons, List.length_nil, List.length_set]; done) | (simp only [List.length_append, List.length_cons, List.length_nil, List.length_set]; omega)), (by first | omega | (simp only [List.length_append, List.length_cons, List.length_nil, List.length_set]; done) | (simp only [List.length_append, List.length_cons, List.length_nil, List.length_set]; omega)), (by first | omega | (simp only [List.length_append, List.length_cons, List.length_nil, List.length_set]; done) | (simp only [List.length_append, List.length_cons, List.length_nil, List.length_set]; omega)), (by omega), (by rw [show μ2 - 1 + 1 = μ2 from by omega]; exact e)⟩
          · have e := e.trans (cond_f c_41)
            rw [show IntKind.wrap .i64 (i + 1) = (i + 1) from wrap64 (by omega) (by omega)]
            refine spec_l06Hull_n2 (μ2 - 1) (by omega) ⟨_, o_19, (by first | assumption | omega | (simp only [List.length_set]; first | rfl | assumption | omega)), g_21, (by first | omega | (simp only [List.length_append, List.length_cons, List.length_nil, List.length_set]; done) | (simp only [List.length_append, List.length_cons, List.length_nil, List.length_set]; omega)), (by first | omega | (simp only [List.length_append, List.length_cons, List.length_nil, List.length_set]; done) | (simp only [List.length_append, List.length_cons, List.length_nil, List.length_set]; omega)), (by first | omega | (simp only [List.length_append, List.length_cons, List.length_nil, List.length_set]; done) | (simp only [List.length_append, List.length_cons, List.length_nil, List.length_set]; omega)), (by omega), (by rw [show μ2 - 1 + 1 = μ2 from by omega]; exact e)⟩
        · have e := e.trans (cond_f c_40)
          rw [show IntKind.wrap .i64 (i + 1) = (i + 1) from wrap64 (by omega) (by omega)]
          refine spec_l06Hull_n2 (μ2 - 1) (by omega) ⟨_, o_19, (by first | assumption | omega | (simp only [List.length_set]; first | rfl | assumption | omega)), g_21, (by first | omega | (simp only [List.length_append, List.length_cons, List.length_nil, List.length_set]; done) | (simp only [List.length_append, List.length_cons, List.length_nil, List.length_set]; omega)), (by first | omega | (simp only [List.length_append, List.length_cons, List.length_nil, List.length_set]; done) | (simp only [List.length_append, List.length_cons, List.length_nil, List.length_set]; omega)), (by first | omega | (simp only [List.length_append, List.length_cons, List.length_nil, List.length_set]; done) | (simp only [List.length_append, List.length_cons, List.length_nil, List.length_set]; omega)), (by omega), (by rw [show μ2 - 1 + 1 = μ2 from by omega]; exact e)⟩
      · have e := e.trans (cond_f c_27)
        have c_27' := of_decide_eq_false c_27
        rw [spec_l06Hull_x2_2]
        refine Br.intro (fun c_42 => ?_) (fun c_42 => ?_)
        · have e := e.trans (cond_t c_42)
          have c_42' := of_decide_eq_true c_42
          rw [spec_l06Hull_x1_ret]
          rw [e] at hk
          exact hk _ _ _ H_3 g_21 (o_19.ownS (by first | rfl | omega | (simp only [List.length_set]; done) | (simp only [List.length_set, List.length_replicate]; omega)) (by omega))
        · have e := e.trans (cond_f c_42)
          have c_42' := of_decide_eq_false c_42
          refine Al.intro (fun b_43 H_4 hb_44 hl_45 g_46 o_47 => ?_)
          have o_47 : Own H_4 b_43 (([(best : Int)]).map fI) := o_47
          have l_49 := g_46.1
          have g_50 := g_21.trans g_46
          have l_51 := g_50.1
          have o_52 := o_19.grow g_46
          have w_53 := o_52.lt
          have w_66 := o_47.lt
          refine ⟨_, _, o_52.ownB (by first | (simp only [List.length_map, List.length_cons, List.length_nil, List.length_append]; done) | (simp only [List.length_map, List.length_cons, List.length_nil, List.length_append]; omega)) rfl, (isl_rdS (o_47.isL (by first | rfl | omega | (simp only [List.length_set]; done) | (simp only [List.length_set, List.length_replicate]; omega)))), (fun h => by cases h), (by have := most_eq; omega), ?_⟩
          refine Ap.app o_52 rfl rfl (fun b_58 H_5 q_64 hl_54 o_55 k_56 => ?_)
          have o_55 := map_snoc o_55
          have l_59 := k_56.1
          have g_60 := g_50.keep (b := b_10) (by omega) k_56
          have l_61 := g_60.1
          have o_62 := o_47.keep (by omega) k_56
          have w_63 := o_62.lt
          have w_65 := o_55.lt
          refine spec_l06Hull_n1 (μ - 1) (by omega) ⟨_, _, rfl, rfl, rfl, rfl, (by first | (simp only [List.length_append, List.length_cons, List.length_nil]; done) | (simp only [List.length_append, List.length_cons, List.length_nil]; omega)), rfl, o_55, g_60, (by omega), (by first | omega | (simp only [List.length_append, List.length_cons, List.length_nil, List.length_set]; done) | (simp only [List.length_append, List.length_cons, List.length_nil, List.length_set]; omega)), (by first | omega | (simp only [List.length_append, List.length_cons, List.length_nil, List.length_set]; done) | (simp only [List.length_append, List.length_cons, List.length_nil, List.length_set]; omega)), (by first | omega | (simp only [List.length_append, List.length_cons, List.length_nil, List.length_set]; done) | (simp only [List.length_append, List.length_cons, List.length_nil, List.length_set]; omega)), (by omega), (by rw [show μ - 1 + 1 = μ from by omega]; exact e)⟩
theorem spec_l06Hull_ok : FnOk Try.prog 54 S_spec_l06Hull := by
  refine FnOk.body mix_ok E_spec_l06Hull_ok Try.func54 rfl (by kernel_rfl) (by kernel_rfl) ?_ ?_ ?_ ?_ ?_
  · intro args H K K' h hk
    simp only [S_spec_l06Hull] at *
    unfold F_spec_l06Hull at *
    split at hk
    · obtain ⟨l_bits, l_misses, i_bits, i_misses, bd_68, bd_69, pr0, pr1, pr2, k⟩ := hk
      exact ⟨l_bits, l_misses, i_bits, i_misses, bd_68, bd_69, pr0, pr1, pr2, (fun r1_a r1_n r1_e H' gg ow0 => h _ _ (k r1_a r1_n r1_e H' gg ow0))⟩
    · exact hk.elim
  · intro hq; cases hq
  · intro args H K hk
    simp only [S_spec_l06Hull] at *
    unfold F_spec_l06Hull at *
    split at hk
    · obtain ⟨l_bits, l_misses, i_bits, i_misses, bd_68, bd_69, pr0, pr1, pr2, k⟩ := hk
      exact liveS fun a n e H1 g o => ⟨_, _, k a n e H1 g o⟩
    · exact hk.elim
  · intro _ args H K hk
    simp only [S_spec_l06Hull] at *
    unfold F_spec_l06Hull at *
    split at hk
    · obtain ⟨l_bits, l_misses, i_bits, i_misses, bd_68, bd_69, pr0, pr1, pr2, k⟩ := hk
      exact ⟨l_bits, l_misses, i_bits, i_misses, bd_68, bd_69, pr0, pr1, pr2, (fun r1_a r1_n r1_e H' gg ow0 => ⟨gg, k r1_a r1_n r1_e H' gg ow0⟩)⟩
    · exact hk.elim
  · have mm := @spec_l06Hull_main
    revert mm
    generalize bodyK Try.prog E_spec_l06Hull Try.f54 = Q
    intro mm args H K hk
    simp only [S_spec_l06Hull] at *
    unfold F_spec_l06Hull at *
    split at hk
    · exact mm _ _ _ _ _ _ H K hk
    · exact hk.elim
def p_spec_LastOfHull (l_bits : List Int) (l_misses : List Nat) : Int × Bool := (bif !(p_spec_l06Table l_bits l_misses) then ((0 : Int), false) else ((((p_spec_l06Hull l_bits l_misses)).getD ((((((p_spec_l06Hull l_bits l_misses)).length : Int)) - 1) : Int).toNat 0), true))
theorem p_spec_LastOfHull_eq (l_bits : List Int) (l_misses : List Nat) : p_spec_LastOfHull l_bits l_misses = (bif !(p_spec_l06Table l_bits l_misses) then ((0 : Int), false) else ((((p_spec_l06Hull l_bits l_misses)).getD ((((((p_spec_l06Hull l_bits l_misses)).length : Int)) - 1) : Int).toNat 0), true)) := rfl
def T_spec_LastOfHull (bits_a : Option Addr) (bits_n : Nat) (bits_e : Nat) (misses_a : Option Addr) (misses_n : Nat) (misses_e : Nat) (H : AHeap) (K : Int → Bool → AHeap → Prop) : Prop := ∃ (l_bits : List Int), ∃ (l_misses : List Nat), IsL fI H bits_a bits_n l_bits ∧ IsL fF H misses_a misses_n l_misses ∧ l_bits.length < 1073741824 ∧ l_misses.length < 1073741824 ∧ ((∀ H' : AHeap, Grow H H' → K ((p_spec_LastOfHull l_bits l_misses).1) ((p_spec_LastOfHull l_bits l_misses).2) H'))
theorem T_spec_LastOfHull_i {bits_a : Option Addr} {bits_n : Nat} {bits_e : Nat} {misses_a : Option Addr} {misses_n : Nat} {misses_e : Nat} {H : AHeap} {K : Int → Bool → AHeap → Prop} (h : ∃ (l_bits : List Int), ∃ (l_misses : List Nat), IsL fI H bits_a bits_n l_bits ∧ IsL fF H misses_a misses_n l_misses ∧ l_bits.length < 1073741824 ∧ l_misses.length < 1073741824 ∧ ((∀ H' : AHeap, Grow H H' → K ((p_spec_LastOfHull l_bits l_misses).1) ((p_spec_LastOfHull l_bits l_misses).2) H'))) : T_spec_LastOfHull bits_a bits_n bits_e misses_a misses_n misses_e H K := h

/-! spec_LastOfHull: function 26 -/
def E_spec_LastOfHull : Env := envOf [(53, S_spec_l06Table), (54, S_spec_l06Hull)]
def F_spec_LastOfHull : List Value → AHeap → (Value → AHeap → Prop) → Prop
  | [.slice bits_a bits_n bits_e, .slice misses_a misses_n misses_e], H, K => T_spec_LastOfHull bits_a bits_n bits_e misses_a misses_n misses_e H fun (r1 : Int) (r2 : Bool) (H' : AHeap) => K (.tuple #[.int .i64 r1, .bool r2]) H'
  | _, _, _ => False
def S_spec_LastOfHull : FSpec := { F := F_spec_LastOfHull, quiet := false, tame := true }
theorem spec_LastOfHull_vc (bits_a : Option Addr) (bits_n : Nat) (bits_e : Nat) (misses_a : Option Addr) (misses_n : Nat) (misses_e : Nat) (H : AHeap) (K : Value → AHeap → Prop) : bodyK Try.prog E_spec_LastOfHull Try.f26 [.slice bits_a bits_n bits_e, .slice misses_a misses_n misses_e] H K =
  (T_spec_l06Table bits_a bits_n bits_e misses_a misses_n misses_e H fun (r1 : Bool) (H1 : AHeap) => Br (!r1) (K (.tuple #[.int .i64 0, .bool false]) H1) (T_spec_l06Hull bits_a bits_n bits_e misses_a misses_n misses_e H1 fun (a1 : Option Addr) (r2 : Nat) (r3 : Nat) (H2 : AHeap) => (0 : Int) ≤ IntKind.wrap .i64 ((r2 : Int) - 1) ∧ IntKind.wrap .i64 ((r2 : Int) - 1) < (r2 : Int) ∧ ∃ b1 f1, (a1 : Option Addr) = some ⟨b1, f1, none⟩ ∧ ∃ x1 : Int,  rdC H2 b1 (f1 + (IntKind.wrap .i64 ((r2 : Int) - 1) : Int).toNat * 1) = some (.int .i64 x1) ∧ K (.tuple #[.int .i64 x1, .bool true]) H2)) := by kernel_rfl
theorem E_spec_LastOfHull_ok : ∀ g, FnOk Try.prog g (E_spec_LastOfHull g) := FnOk.envOf (by
  intro x hx
  simp only [List.mem_cons, List.not_mem_nil, or_false] at hx
  rcases hx with rfl | rfl
  · exact spec_l06Table_ok
  · exact spec_l06Hull_ok)
set_option maxHeartbeats 1000000 in
theorem spec_LastOfHull_main (bits_a : Option Addr) (bits_n : Nat) (bits_e : Nat) (misses_a : Option Addr) (misses_n : Nat) (misses_e : Nat) (H : AHeap) (K : Value → AHeap → Prop) (h : T_spec_LastOfHull bits_a bits_n bits_e misses_a misses_n misses_e H fun (r1 : Int) (r2 : Bool) (H' : AHeap) => K (.tuple #[.int .i64 r1, .bool r2]) H') : bodyK Try.prog E_spec_LastOfHull Try.f26 [.slice bits_a bits_n bits_e, .slice misses_a misses_n misses_e] H K := by
  rw [spec_LastOfHull_vc]
  obtain ⟨l_bits, l_misses, i_bits, i_misses, bd_17, bd_18, hk⟩ := h
  obtain rfl := i_bits.eqn
  obtain rfl := i_misses.eqn
  have e : (p_spec_LastOfHull l_bits l_misses) = _ := rfl
  have e := e.trans (p_spec_LastOfHull_eq l_bits l_misses)
  have g0 := Grow.refl H
  refine T_spec_l06Table_i ⟨_, _, (i_bits.grow g0), (i_misses.grow g0), (by first | omega | (simp only [List.length_set, List.length_replicate, List.length_append, List.length_cons, List.length_nil, List.length_take, List.length_drop, marks_length]; done) | (simp only [List.length_set, List.length_replicate, List.length_append, List.length_cons, List.length_nil, List.length_take, List.length_drop, marks_length]; omega)), (by first | omega | (simp only [List.length_set, List.length_replicate, List.length_append, List.length_cons, List.length_nil, List.length_take, List.length_drop, marks_length]; done) | (simp only [List.length_set, List.length_replicate, List.length_append, List.length_cons, List.length_nil, List.length_take, List.length_drop, marks_length]; omega)), ?_⟩
  refine Br.intro (fun c_1 => ?_) (fun c_1 => ?_)
  · have e := e.trans (cond_t c_1)
    have c_1n := nf_of_t c_1
    rw [e] at hk
    exact hk  H g0 
  · have e := e.trans (cond_f c_1)
    have c_1n := nt_of_f c_1
    have c_1n' := spec_l06Table_t c_1n
    refine T_spec_l06Hull_i ⟨_, _, (i_bits.grow g0), (i_misses.grow g0), (by first | omega | (simp only [List.length_set, List.length_replicate, List.length_append, List.length_cons, List.length_nil, List.length_take, List.length_drop, marks_length]; done) | (simp only [List.length_set, List.length_replicate, List.length_append, List.length_cons, List.length_nil, List.length_take, List.length_drop, marks_length]; omega)), (by first | omega | (simp only [List.length_set, List.length_replicate, List.length_append, List.length_cons, List.length_nil, List.length_take, List.length_drop, marks_length]; done) | (simp only [List.length_set, List.length_replicate, List.length_append, List.length_cons, List.length_nil, List.length_take, List.length_drop, marks_length]; omega)), (by first | assumption | omega | (simp; omega)), (by first | assumption | omega | (simp; omega)), (by first | assumption | omega | (simp; omega)), fun a_2 n_3 e_4 H_1 g_7 r_5 => ?_⟩
    have z_6 := spec_l06Hull_len l_bits l_misses
    have l_8 := g_7.1
    have g_9 := g0.trans g_7
    have l_10 := g_9.1
    obtain rfl := r_5.isL.eqn
    have u_11 := r_5.up
    have u_12 := r_5.lo
    rw [show IntKind.wrap .i64 (((((p_spec_l06Hull l_bits l_misses)).length : Int)) - 1) = (((((p_spec_l06Hull l_bits l_misses)).length : Int)) - 1) from wrap64 (by omega) (by omega)]
    obtain ⟨b_14, f_15, q_16⟩ := (r_5.isL).pos (by first | omega | (simp only [List.length_set, List.length_replicate, List.length_append, List.length_cons, List.length_nil, List.length_take, List.length_drop, marks_length]; done) | (simp only [List.length_set, List.length_replicate, List.length_append, List.length_cons, List.length_nil, List.length_take, List.length_drop, marks_length]; omega))
    refine ⟨by omega, by omega, b_14, f_15, q_16, ?_⟩
    refine ⟨(((p_spec_l06Hull l_bits l_misses)).getD ((((((p_spec_l06Hull l_bits l_misses)).length : Int)) - 1) : Int).toNat 0), (r_5.isL).rd (Grow.refl _) q_16 (by omega) _, ?_⟩
    rw [e] at hk
    exact hk  H_1 g_9 
theorem spec_LastOfHull_ok : FnOk Try.prog 26 S_spec_LastOfHull := by
  refine FnOk.body mix_ok E_spec_LastOfHull_ok Try.func26 rfl (by kernel_rfl) (by kernel_rfl) ?_ ?_ ?_ ?_ ?_
  · intro args H K K' h hk
    simp only [S_spec_LastOfHull] at *
    unfold F_spec_LastOfHull at *
    split at hk
    · obtain ⟨l_bits, l_misses, i_bits, i_misses, bd_17, bd_18, k⟩ := hk
      exact ⟨l_bits, l_misses, i_bits, i_misses, bd_17, bd_18, (fun  H' gg  => h _ _ (k  H' gg ))⟩
    · exact hk.elim
  · intro hq; cases hq
  · intro args H K hk
    simp only [S_spec_LastOfHull] at *
    unfold F_spec_LastOfHull at *
    split at hk
    · obtain ⟨l_bits, l_misses, i_bits, i_misses, bd_17, bd_18, k⟩ := hk
      exact ⟨_, _, k H (Grow.refl H)⟩
    · exact hk.elim
  · intro _ args H K hk
    simp only [S_spec_LastOfHull] at *
    unfold F_spec_LastOfHull at *
    split at hk
    · obtain ⟨l_bits, l_misses, i_bits, i_misses, bd_17, bd_18, k⟩ := hk
      exact ⟨l_bits, l_misses, i_bits, i_misses, bd_17, bd_18, (fun  H' gg  => ⟨gg, k  H' gg ⟩)⟩
    · exact hk.elim
  · have mm := @spec_LastOfHull_main
    revert mm
    generalize bodyK Try.prog E_spec_LastOfHull Try.f26 = Q
    intro mm args H K hk
    simp only [S_spec_LastOfHull] at *
    unfold F_spec_LastOfHull at *
    split at hk
    · exact mm _ _ _ _ _ _ H K hk
    · exact hk.elim
def p_impl_within (n : Int) (low : Int) (high : Int) : Bool := (bif decide ((low : Int) ≤ n) then decide ((n : Int) ≤ high) else false)
theorem p_impl_within_eq (n : Int) (low : Int) (high : Int) : p_impl_within n low high = (bif decide ((low : Int) ≤ n) then decide ((n : Int) ≤ high) else false) := rfl
def T_impl_within (n : Int) (low : Int) (high : Int) (H : AHeap) (K : Bool → AHeap → Prop) : Prop := K (p_impl_within n low high) H
theorem impl_within_t {n a b : Int} (h : p_impl_within n a b = true) : a ≤ n ∧ n ≤ b := by
  unfold p_impl_within at h
  by_cases h1 : a ≤ n
  · rw [decide_eq_true h1, cond_true] at h; exact ⟨h1, of_decide_eq_true h⟩
  · rw [decide_eq_false h1] at h; cases h
theorem T_impl_within_i {n : Int} {low : Int} {high : Int} {H : AHeap} {K : Bool → AHeap → Prop} (h : K (p_impl_within n low high) H) : T_impl_within n low high H K := h
/-! impl_within: function 52 -/
def E_impl_within : Env := envOf []
def F_impl_within : List Value → AHeap → (Value → AHeap → Prop) → Prop
  | [.int .i64 n, .int .i64 low, .int .i64 high], H, K => T_impl_within n low high H fun (r1 : Bool) (H' : AHeap) => K (.bool r1) H'
  | _, _, _ => False
def S_impl_within : FSpec := { F := F_impl_within, quiet := true, tame := false }
theorem impl_within_vc (n : Int) (low : Int) (high : Int) (H : AHeap) (K : Value → AHeap → Prop) : bodyK Try.prog E_impl_within Try.f52 [.int .i64 n, .int .i64 low, .int .i64 high] H K =
  (Br (decide ((low : Int) ≤ n)) (K (.bool (decide ((n : Int) ≤ high))) H) (K (.bool false) H)) := by kernel_rfl
theorem E_impl_within_ok : ∀ g, FnOk Try.prog g (E_impl_within g) := FnOk.envOf (by
  intro x hx; cases hx)
set_option maxHeartbeats 1000000 in
theorem impl_within_main (n : Int) (low : Int) (high : Int) (H : AHeap) (K : Value → AHeap → Prop) (h : T_impl_within n low high H fun (r1 : Bool) (H' : AHeap) => K (.bool r1) H') : bodyK Try.prog E_impl_within Try.f52 [.int .i64 n, .int .i64 low, .int .i64 high] H K := by
  rw [impl_within_vc]
  unfold T_impl_within p_impl_within at h
  repeat' (first | exact h | (exfalso; simp_all; done) | (refine ⟨by decide, ?_⟩) | (refine Br.intro (fun hb => ?_) (fun hb => ?_) <;> (try simp only [hb, cond_true, cond_false, Bool.not_true, Bool.not_false] at h)))
theorem impl_within_ok : FnOk Try.prog 52 S_impl_within := by
  refine FnOk.body mix_ok E_impl_within_ok Try.func52 rfl (by kernel_rfl) (by kernel_rfl) ?_ ?_ ?_ ?_ ?_
  · intro args H K K' h hk
    simp only [S_impl_within] at *
    unfold F_impl_within at *
    split at hk
    · have k := hk
      exact h _ _ k
    · exact hk.elim
  · intro _ args H K hk
    simp only [S_impl_within] at *
    unfold F_impl_within at *
    split at hk
    · have k := hk
      exact ⟨_, k, fun K' k' => k'⟩
    · exact hk.elim
  · intro args H K hk
    simp only [S_impl_within] at *
    unfold F_impl_within at *
    split at hk
    · have k := hk
      exact ⟨_, _, k⟩
    · exact hk.elim
  · intro hq; cases hq
  · have mm := @impl_within_main
    revert mm
    generalize bodyK Try.prog E_impl_within Try.f52 = Q
    intro mm args H K hk
    simp only [S_impl_within] at *
    unfold F_impl_within at *
    split at hk
    · exact mm _ _ _ H K hk
    · exact hk.elim
def p_impl_IsFinite (x : Nat) : Bool := feq .f32 (fsub .f32 x x) 0
theorem p_impl_IsFinite_eq (x : Nat) : p_impl_IsFinite x = feq .f32 (fsub .f32 x x) 0 := rfl
def T_impl_IsFinite (x : Nat) (H : AHeap) (K : Bool → AHeap → Prop) : Prop := K (p_impl_IsFinite x) H

theorem T_impl_IsFinite_i {x : Nat} {H : AHeap} {K : Bool → AHeap → Prop} (h : K (p_impl_IsFinite x) H) : T_impl_IsFinite x H K := h
/-! impl_IsFinite: function 59 -/
def E_impl_IsFinite : Env := envOf []
def F_impl_IsFinite : List Value → AHeap → (Value → AHeap → Prop) → Prop
  | [.float .f32 x], H, K => T_impl_IsFinite x H fun (r1 : Bool) (H' : AHeap) => K (.bool r1) H'
  | _, _, _ => False
def S_impl_IsFinite : FSpec := { F := F_impl_IsFinite, quiet := true, tame := false }
theorem impl_IsFinite_vc (x : Nat) (H : AHeap) (K : Value → AHeap → Prop) : bodyK Try.prog E_impl_IsFinite Try.f59 [.float .f32 x] H K =
  (K (.bool (feq .f32 (fsub .f32 x x) 0)) H) := by kernel_rfl
theorem E_impl_IsFinite_ok : ∀ g, FnOk Try.prog g (E_impl_IsFinite g) := FnOk.envOf (by
  intro x hx; cases hx)
set_option maxHeartbeats 1000000 in
theorem impl_IsFinite_main (x : Nat) (H : AHeap) (K : Value → AHeap → Prop) (h : T_impl_IsFinite x H fun (r1 : Bool) (H' : AHeap) => K (.bool r1) H') : bodyK Try.prog E_impl_IsFinite Try.f59 [.float .f32 x] H K := by
  rw [impl_IsFinite_vc]
  unfold T_impl_IsFinite p_impl_IsFinite at h
  repeat' (first | exact h | (exfalso; simp_all; done) | (refine ⟨by decide, ?_⟩) | (refine Br.intro (fun hb => ?_) (fun hb => ?_) <;> (try simp only [hb, cond_true, cond_false, Bool.not_true, Bool.not_false] at h)))
theorem impl_IsFinite_ok : FnOk Try.prog 59 S_impl_IsFinite := by
  refine FnOk.body mix_ok E_impl_IsFinite_ok Try.func59 rfl (by kernel_rfl) (by kernel_rfl) ?_ ?_ ?_ ?_ ?_
  · intro args H K K' h hk
    simp only [S_impl_IsFinite] at *
    unfold F_impl_IsFinite at *
    split at hk
    · have k := hk
      exact h _ _ k
    · exact hk.elim
  · intro _ args H K hk
    simp only [S_impl_IsFinite] at *
    unfold F_impl_IsFinite at *
    split at hk
    · have k := hk
      exact ⟨_, k, fun K' k' => k'⟩
    · exact hk.elim
  · intro args H K hk
    simp only [S_impl_IsFinite] at *
    unfold F_impl_IsFinite at *
    split at hk
    · have k := hk
      exact ⟨_, _, k⟩
    · exact hk.elim
  · intro hq; cases hq
  · have mm := @impl_IsFinite_main
    revert mm
    generalize bodyK Try.prog E_impl_IsFinite Try.f59 = Q
    intro mm args H K hk
    simp only [S_impl_IsFinite] at *
    unfold F_impl_IsFinite at *
    split at hk
    · exact mm _ H K hk
    · exact hk.elim
def p_impl_isLeast (x : Nat) : Bool := (bif (p_impl_IsFinite x) then fle .f32 0 x else false)
theorem p_impl_isLeast_eq (x : Nat) : p_impl_isLeast x = (bif (p_impl_IsFinite x) then fle .f32 0 x else false) := rfl
def T_impl_isLeast (x : Nat) (H : AHeap) (K : Bool → AHeap → Prop) : Prop := K (p_impl_isLeast x) H

theorem T_impl_isLeast_i {x : Nat} {H : AHeap} {K : Bool → AHeap → Prop} (h : K (p_impl_isLeast x) H) : T_impl_isLeast x H K := h
/-! impl_isLeast: function 55 -/
def E_impl_isLeast : Env := envOf [(59, S_impl_IsFinite)]
def F_impl_isLeast : List Value → AHeap → (Value → AHeap → Prop) → Prop
  | [.float .f32 x], H, K => T_impl_isLeast x H fun (r1 : Bool) (H' : AHeap) => K (.bool r1) H'
  | _, _, _ => False
def S_impl_isLeast : FSpec := { F := F_impl_isLeast, quiet := true, tame := false }
theorem impl_isLeast_vc (x : Nat) (H : AHeap) (K : Value → AHeap → Prop) : bodyK Try.prog E_impl_isLeast Try.f55 [.float .f32 x] H K =
  (T_impl_IsFinite x H fun (r1 : Bool) (H1 : AHeap) => Br r1 (K (.bool (fle .f32 0 x)) H1) (K (.bool false) H1)) := by kernel_rfl
theorem E_impl_isLeast_ok : ∀ g, FnOk Try.prog g (E_impl_isLeast g) := FnOk.envOf (by
  intro x hx
  simp only [List.mem_cons, List.not_mem_nil, or_false] at hx
  subst hx; exact impl_IsFinite_ok)
set_option maxHeartbeats 1000000 in
theorem impl_isLeast_main (x : Nat) (H : AHeap) (K : Value → AHeap → Prop) (h : T_impl_isLeast x H fun (r1 : Bool) (H' : AHeap) => K (.bool r1) H') : bodyK Try.prog E_impl_isLeast Try.f55 [.float .f32 x] H K := by
  rw [impl_isLeast_vc]
  simp only [T_impl_IsFinite]
  unfold T_impl_isLeast p_impl_isLeast at h
  repeat' (first | exact h | (exfalso; simp_all; done) | (refine ⟨by decide, ?_⟩) | (refine Br.intro (fun hb => ?_) (fun hb => ?_) <;> (try simp only [hb, cond_true, cond_false, Bool.not_true, Bool.not_false] at h)))
theorem impl_isLeast_ok : FnOk Try.prog 55 S_impl_isLeast := by
  refine FnOk.body mix_ok E_impl_isLeast_ok Try.func55 rfl (by kernel_rfl) (by kernel_rfl) ?_ ?_ ?_ ?_ ?_
  · intro args H K K' h hk
    simp only [S_impl_isLeast] at *
    unfold F_impl_isLeast at *
    split at hk
    · have k := hk
      exact h _ _ k
    · exact hk.elim
  · intro _ args H K hk
    simp only [S_impl_isLeast] at *
    unfold F_impl_isLeast at *
    split at hk
    · have k := hk
      exact ⟨_, k, fun K' k' => k'⟩
    · exact hk.elim
  · intro args H K hk
    simp only [S_impl_isLeast] at *
    unfold F_impl_isLeast at *
    split at hk
    · have k := hk
      exact ⟨_, _, k⟩
    · exact hk.elim
  · intro hq; cases hq
  · have mm := @impl_isLeast_main
    revert mm
    generalize bodyK Try.prog E_impl_isLeast Try.f55 = Q
    intro mm args H K hk
    simp only [S_impl_isLeast] at *
    unfold F_impl_isLeast at *
    split at hk
    · exact mm _ H K hk
    · exact hk.elim
end Go.Proofs.Ytfofkmlohmodeab.Ai
