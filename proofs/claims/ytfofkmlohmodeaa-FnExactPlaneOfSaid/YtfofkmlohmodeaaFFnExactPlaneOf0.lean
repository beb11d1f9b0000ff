/- What functions of the program come to on the abstract machine, and that they do so; printed by a program of mine around proofs of mine. -/
import Derived.Test.YtfofkmlohmodeaaProg
import Derived.Test.YtfofkmlohmodeaaLibA
import Derived.Test.YtfofkmlohmodeaaOpen
import Derived.Test.YtfofkmlohmodeaaLibB
import Derived.Test.YtfofkmlohmodeaaFl
set_option linter.unusedVariables false
set_option linter.unusedSimpArgs false
set_option maxRecDepth 100000
namespace Go.Proofs.Ytfofkmlohmodeaa.Ai
open Go
attribute [local irreducible] bodyK
theorem mix_ok : Try.prog.follows .mixedOrders = true := by kernel_rfl
def p_laws_toInt64S_l1 (l_a : List Int) : Nat → Int → (List Int) → (List Int)
  | 0, _, _ => []
  | μ + 1, i, y1_1 => (bif decide ((i : Int) < (l_a.length : Int)) then (p_laws_toInt64S_l1 l_a μ (i + 1) (((y1_1).set (i : Int).toNat ((((l_a).getD (i : Int).toNat 0) : Int))))) else y1_1)
theorem p_laws_toInt64S_l1_s (l_a : List Int) (μ : Nat) (i : Int) (y1_1 : List Int) : p_laws_toInt64S_l1 l_a (μ + 1) i y1_1 = (bif decide ((i : Int) < (l_a.length : Int)) then (p_laws_toInt64S_l1 l_a μ (i + 1) (((y1_1).set (i : Int).toNat ((((l_a).getD (i : Int).toNat 0) : Int))))) else y1_1) := rfl
def p_laws_toInt64S (l_a : List Int) : (List Int) := (p_laws_toInt64S_l1 l_a (Int.toNat ((l_a.length : Int) - (0 : Int)) + 1) (0 : Int) (List.replicate (((l_a.length : Int)).toNat) 0))
theorem p_laws_toInt64S_eq (l_a : List Int) : p_laws_toInt64S l_a = (p_laws_toInt64S_l1 l_a (Int.toNat ((l_a.length : Int) - (0 : Int)) + 1) (0 : Int) (List.replicate (((l_a.length : Int)).toNat) 0)) := rfl
def T_laws_toInt64S (a_a : Option Addr) (a_n : Nat) (a_e : Nat) (H : AHeap) (K : (Option Addr) → Nat → Nat → AHeap → Prop) : Prop := ∃ (l_a : List Int), IsL fI H a_a a_n l_a ∧ l_a.length < 1073741824 ∧ ((∀ (r1_a : Option Addr) (r1_n r1_e : Nat), ∀ H' : AHeap, Grow H H' → OwnS fI H' H.length r1_a r1_n r1_e l_a → K r1_a r1_n r1_e H'))
theorem T_laws_toInt64S_i {a_a : Option Addr} {a_n : Nat} {a_e : Nat} {H : AHeap} {K : (Option Addr) → Nat → Nat → AHeap → Prop} (h : ∃ (l_a : List Int), IsL fI H a_a a_n l_a ∧ l_a.length < 1073741824 ∧ ((∀ (r1_a : Option Addr) (r1_n r1_e : Nat), ∀ H' : AHeap, Grow H H' → OwnS fI H' H.length r1_a r1_n r1_e l_a → K r1_a r1_n r1_e H'))) : T_laws_toInt64S a_a a_n a_e H K := h
theorem laws_toInt64S_go (l : List Int) : ∀ (μ : Nat) (i : Nat) (ys : List Int), ys.length = l.length → i ≤ l.length → l.length - i < μ →
    p_laws_toInt64S_l1 l μ (i : Int) (l.take i ++ ys.drop i) = l := by
  intro μ
  induction μ with
  | zero => intro i ys _ _ h; omega
  | succ μ ih =>
    intro i ys hy hi hm
    rw [p_laws_toInt64S_l1_s]
    by_cases h : i < l.length
    · rw [decide_eq_true (show (i : Int) < (l.length : Int) by omega), cond_true]
      have hx : l[i]? = some (l.getD i 0) := by rw [List.getD_eq_getElem?_getD, List.getElem?_eq_getElem h]; rfl
      rw [Int.toNat_natCast, set_front l ys i (by omega) hy.symm _ hx]
      exact ih (i + 1) ys hy (by omega) (by omega)
    · rw [decide_eq_false (show ¬ (i : Int) < (l.length : Int) by omega), cond_false]
      rw [List.take_of_length_le (by omega), List.drop_eq_nil_of_le (by omega), List.append_nil]
theorem laws_toInt64S_id (l : List Int) : p_laws_toInt64S l = l := by
  rw [p_laws_toInt64S_eq]
  have := laws_toInt64S_go l (Int.toNat ((l.length : Int) - 0) + 1) 0 (List.replicate ((l.length : Int)).toNat 0) (by simp) (by omega) (by omega)
  simpa using this
/-! laws_toInt64S: function 33 -/
def E_laws_toInt64S : Env := envOf []
def F_laws_toInt64S : List Value → AHeap → (Value → AHeap → Prop) → Prop
  | [.slice a_a a_n a_e], H, K => T_laws_toInt64S a_a a_n a_e H fun (r1_a : Option Addr) (r1_n : Nat) (r1_e : Nat) (H' : AHeap) => K (.slice r1_a r1_n r1_e) H'
  | _, _, _ => False
def S_laws_toInt64S : FSpec := { F := F_laws_toInt64S, quiet := false, tame := true }
theorem laws_toInt64S_vc (a_a : Option Addr) (a_n : Nat) (a_e : Nat) (H : AHeap) (K : Value → AHeap → Prop) : bodyK Try.prog E_laws_toInt64S Try.f33 [.slice a_a a_n a_e] H K =
  ((0 : Int) ≤ (a_n : Int) ∧ (a_n : Int) = (a_n : Int) ∧ (a_n : Int) < (most : Int) ∧ Al (zerosOf (.int .i64 0) ((a_n : Int)).toNat) H fun b1 H1 => loopK (exK Try.prog E_laws_toInt64S (cl (cl (cr (cl (cr (cr (bodyC Try.f33)))))))) [.slice a_a a_n a_e, undef, .slice none 0 0, .slice (some ⟨b1, 0, none⟩) (((a_n : Int)).toNat) 1, .int .i64 0, .slice a_a a_n a_e, .int .i64 (a_n : Int), .slice (some ⟨b1, 0, none⟩) (((a_n : Int)).toNat) 1, undef, undef, undef, undef, undef, undef, undef, undef, undef, undef, undef, undef, undef, undef] H1 (blockQ 0 (seqQ (exK Try.prog E_laws_toInt64S (cr (cr (cr (bodyC Try.f33))))) (retK Try.prog Try.f33 K)))) := by kernel_rfl
theorem laws_toInt64S_r1 (a_a : Option Addr) (a_e : Nat) (a_n : Nat) (b1 : Nat) (i : Int) (g8 g9 g10 g11 g12 g13 g14 g15 g16 g17 g18 g19 g20 : Value) (H : AHeap) (R : Post) : exK Try.prog E_laws_toInt64S (cl (cl (cr (cl (cr (cr (bodyC Try.f33))))))) [.slice a_a a_n a_e, undef, .slice none 0 0, .slice (some ⟨b1, 0, none⟩) (((a_n : Int)).toNat) 1, .int .i64 i, .slice a_a a_n a_e, .int .i64 (a_n : Int), .slice (some ⟨b1, 0, none⟩) (((a_n : Int)).toNat) 1, g8, g9, g10, g11, g12, g13, g14, g15, g16, g17, g18, g19, g20, undef] H R =
  (Br (decide ((i : Int) < (a_n : Int))) ((0 : Int) ≤ i ∧ i < (a_n : Int) ∧ ∃ b2 f1, (a_a : Option Addr) = some ⟨b2, f1, none⟩ ∧ ∃ x1 : Int,  rdC H b2 (f1 + (i : Int).toNat * 1) = some (.int .i64 x1) ∧ (0 : Int) ≤ i ∧ i < (((a_n : Int)).toNat : Int) ∧ ∃ b3 f2, (some ⟨b1, 0, none⟩ : Option Addr) = some ⟨b3, f2, none⟩ ∧ isOwn H b3 ∧ (∃ l, rdN H b3 (f2 + (i : Int).toNat * 1) 1 = some l) ∧ Lt (setC H b3 (f2 + (i : Int).toNat * 1) (.int .i64 x1)) fun H2 => R .normal [.slice a_a a_n a_e, undef, .slice none 0 0, .slice (some ⟨b1, 0, none⟩) (((a_n : Int)).toNat) 1, .int .i64 (IntKind.wrap .i64 (i + 1)), .slice a_a a_n a_e, .int .i64 (a_n : Int), .slice (some ⟨b1, 0, none⟩) (((a_n : Int)).toNat) 1, .int .i64 i, .slice a_a a_n a_e, .int .i64 (a_n : Int), .bool (decide ((i : Int) < (a_n : Int))), .int .i64 i, .int .i64 (IntKind.wrap .i64 (i + 1)), .slice (some ⟨b1, 0, none⟩) (((a_n : Int)).toNat) 1, .int .i64 i, .slice a_a a_n a_e, .int .i64 i, .pointer (some ⟨b2, f1 + (i : Int).toNat * 1, none⟩), .int .i64 x1, .pointer (some ⟨b3, f2 + (i : Int).toNat * 1, none⟩), undef] H2) (R (.exit 0) [.slice a_a a_n a_e, undef, .slice none 0 0, .slice (some ⟨b1, 0, none⟩) (((a_n : Int)).toNat) 1, .int .i64 i, .slice a_a a_n a_e, .int .i64 (a_n : Int), .slice (some ⟨b1, 0, none⟩) (((a_n : Int)).toNat) 1, .int .i64 i, .slice a_a a_n a_e, .int .i64 (a_n : Int), .bool (decide ((i : Int) < (a_n : Int))), g12, g13, g14, g15, g16, g17, g18, g19, g20, undef] H)) := by kernel_rfl
def laws_toInt64S_I1 (a_a : Option Addr) (a_e : Nat) (a_n : Nat) (b1 : Nat) (Inv : Nat → Int → AHeap → Prop) : Nat → List Value → AHeap → Prop := fun μ tm H => ∃ (i : Int), ∃ g8 g9 g10 g11 g12 g13 g14 g15 g16 g17 g18 g19 g20, tm = [.slice a_a a_n a_e, undef, .slice none 0 0, .slice (some ⟨b1, 0, none⟩) (((a_n : Int)).toNat) 1, .int .i64 i, .slice a_a a_n a_e, .int .i64 (a_n : Int), .slice (some ⟨b1, 0, none⟩) (((a_n : Int)).toNat) 1, g8, g9, g10, g11, g12, g13, g14, g15, g16, g17, g18, g19, g20, undef] ∧ Inv μ i H
theorem laws_toInt64S_L1 (a_a : Option Addr) (a_e : Nat) (a_n : Nat) (b1 : Nat) {Q : Post} (Inv : Nat → Int → AHeap → Prop) (ν : Nat) (i : Int) (g8 g9 g10 g11 g12 g13 g14 g15 g16 g17 g18 g19 g20 : Value) (H : AHeap) (h0 : Inv ν i H)
    (hs : ∀ (μ : Nat) (i : Int) (g8 g9 g10 g11 g12 g13 g14 g15 g16 g17 g18 g19 g20 : Value) (H : AHeap), Inv μ i H → exK Try.prog E_laws_toInt64S (cl (cl (cr (cl (cr (cr (bodyC Try.f33))))))) [.slice a_a a_n a_e, undef, .slice none 0 0, .slice (some ⟨b1, 0, none⟩) (((a_n : Int)).toNat) 1, .int .i64 i, .slice a_a a_n a_e, .int .i64 (a_n : Int), .slice (some ⟨b1, 0, none⟩) (((a_n : Int)).toNat) 1, g8, g9, g10, g11, g12, g13, g14, g15, g16, g17, g18, g19, g20, undef] H (loopQ (laws_toInt64S_I1 a_a a_e a_n b1 Inv) μ Q)) : loopK (exK Try.prog E_laws_toInt64S (cl (cl (cr (cl (cr (cr (bodyC Try.f33)))))))) [.slice a_a a_n a_e, undef, .slice none 0 0, .slice (some ⟨b1, 0, none⟩) (((a_n : Int)).toNat) 1, .int .i64 i, .slice a_a a_n a_e, .int .i64 (a_n : Int), .slice (some ⟨b1, 0, none⟩) (((a_n : Int)).toNat) 1, g8, g9, g10, g11, g12, g13, g14, g15, g16, g17, g18, g19, g20, undef] H Q :=
  ⟨laws_toInt64S_I1 a_a a_e a_n b1 Inv, ν, ⟨i, g8, g9, g10, g11, g12, g13, g14, g15, g16, g17, g18, g19, g20, rfl, h0⟩, fun μ tm H h => by obtain ⟨i, g8, g9, g10, g11, g12, g13, g14, g15, g16, g17, g18, g19, g20, rfl, hI⟩ := h; exact hs μ i g8 g9 g10 g11 g12 g13 g14 g15 g16 g17 g18 g19 g20 H hI⟩
theorem laws_toInt64S_n1 {a_a : Option Addr} {a_e : Nat} {a_n : Nat} {b1 : Nat} {Q : Post} {Inv : Nat → Int → AHeap → Prop} {μ : Nat} (μ' : Nat) {i : Int} {g8 g9 g10 g11 g12 g13 g14 g15 g16 g17 g18 g19 g20 : Value} {H : AHeap} (hm : μ' < μ) (hI : Inv μ' i H) : loopQ (laws_toInt64S_I1 a_a a_e a_n b1 Inv) μ Q .normal [.slice a_a a_n a_e, undef, .slice none 0 0, .slice (some ⟨b1, 0, none⟩) (((a_n : Int)).toNat) 1, .int .i64 i, .slice a_a a_n a_e, .int .i64 (a_n : Int), .slice (some ⟨b1, 0, none⟩) (((a_n : Int)).toNat) 1, g8, g9, g10, g11, g12, g13, g14, g15, g16, g17, g18, g19, g20, undef] H := ⟨μ', hm, i, g8, g9, g10, g11, g12, g13, g14, g15, g16, g17, g18, g19, g20, rfl, hI⟩
theorem laws_toInt64S_x1_0 (a_a : Option Addr) (a_e : Nat) (a_n : Nat) (b1 : Nat) (i : Int) (g8 g9 g10 g11 g12 g13 g14 g15 g16 g17 g18 g19 g20 : Value) (H : AHeap) (K : Value → AHeap → Prop)  {I : Nat → List Value → AHeap → Prop} {μ : Nat} : loopQ I μ (blockQ 0 (seqQ (exK Try.prog E_laws_toInt64S (cr (cr (cr (bodyC Try.f33))))) (retK Try.prog Try.f33 K))) (.exit 0) [.slice a_a a_n a_e, undef, .slice none 0 0, .slice (some ⟨b1, 0, none⟩) (((a_n : Int)).toNat) 1, .int .i64 i, .slice a_a a_n a_e, .int .i64 (a_n : Int), .slice (some ⟨b1, 0, none⟩) (((a_n : Int)).toNat) 1, g8, g9, g10, g11, g12, g13, g14, g15, g16, g17, g18, g19, g20, undef] H =
  (K (.slice (some ⟨b1, 0, none⟩) (((a_n : Int)).toNat) 1) H) := by kernel_rfl
theorem E_laws_toInt64S_ok : ∀ g, FnOk Try.prog g (E_laws_toInt64S g) := FnOk.envOf (by
  intro x hx; cases hx)
set_option maxHeartbeats 1000000 in
theorem laws_toInt64S_main (a_a : Option Addr) (a_n : Nat) (a_e : Nat) (H : AHeap) (K : Value → AHeap → Prop) (h : T_laws_toInt64S a_a a_n a_e H fun (r1_a : Option Addr) (r1_n : Nat) (r1_e : Nat) (H' : AHeap) => K (.slice r1_a r1_n r1_e) H') : bodyK Try.prog E_laws_toInt64S Try.f33 [.slice a_a a_n a_e] H K := by
  rw [laws_toInt64S_vc]
  obtain ⟨l_a, i_a, bd_29, hk⟩ := h
  have hk : (∀ (r1_a : Option Addr) (r1_n r1_e : Nat), ∀ H' : AHeap, Grow H H' → OwnS fI H' H.length r1_a r1_n r1_e (p_laws_toInt64S l_a) → (fun (r1_a : Option Addr) (r1_n : Nat) (r1_e : Nat) (H' : AHeap) => K (.slice r1_a r1_n r1_e) H') r1_a r1_n r1_e H') := by rw [laws_toInt64S_id l_a]; exact hk
  obtain rfl := i_a.eqn
  have e : (p_laws_toInt64S l_a) = _ := rfl
  have e := e.trans (p_laws_toInt64S_eq l_a)
  have g0 := Grow.refl H
  refine ⟨by omega, rfl, (by have := most_eq; omega), ?_⟩
  refine Al.intro (fun b_1 H_1 hb_2 hl_3 g_4 o_5 => ?_)
  rw [zeros_map fI 0 _ rfl] at o_5
  have l_7 := g_4.1
  have g_8 := g0.trans g_4
  have l_9 := g_8.1
  have w_28 := o_5.lt
  refine laws_toInt64S_L1 _ _ _ _ (fun (μ : Nat) (i : Int) (H_2 : AHeap) => ∃ (y1_1 : List Int), Own H_2 b_1 (y1_1.map fI) ∧ y1_1.length = ((l_a.length : Int)).toNat ∧ Grow H H_2 ∧ (0 : Int) ≤ i ∧ i ≤ (l_a.length : Int) ∧ (l_a.length : Int) - i ≤ (μ : Int) ∧ p_laws_toInt64S l_a = p_laws_toInt64S_l1 l_a (μ + 1) i y1_1) (Int.toNat ((l_a.length : Int) - (0 : Int))) _ _ _ _ _ _ _ _ _ _ _ _ _ _ H_1 ?_ ?_
  · exact ⟨_, o_5, (by first | rfl | (simp; done)), g_8, (by first | omega | (simp; done) | (simp; omega)), (by first | omega | (simp; done) | (simp; omega)), (by omega), e⟩
  · intro μ i g8 g9 g10 g11 g12 g13 g14 g15 g16 g17 g18 g19 g20 H_2 hI
    obtain ⟨y1_1, o_10, y_11, g_12, v_13, v_14, hμ, e⟩ := hI
    rw [laws_toInt64S_r1]
    have e := e.trans (p_laws_toInt64S_l1_s l_a μ i y1_1)
    have w_15 := o_10.lt
    have l_16 := g_12.1
    refine Br.intro (fun c_17 => ?_) (fun c_17 => ?_)
    · have e := e.trans (cond_t c_17)
      have c_17' := of_decide_eq_true c_17
      obtain ⟨b_18, f_19, q_20⟩ := ((i_a.grow g_12)).pos (by first | omega | (simp only [List.length_set, List.length_replicate, List.length_append, List.length_cons, List.length_nil, List.length_take, List.length_drop, marks_length]; done) | (simp only [List.length_set, List.length_replicate, List.length_append, List.length_cons, List.length_nil, List.length_take, List.length_drop, marks_length]; omega))
      refine ⟨by omega, by omega, b_18, f_19, q_20, ?_⟩
      refine ⟨((l_a).getD (i : Int).toNat 0), (i_a).rd g_12 q_20 (by omega) _, ?_⟩
      refine ⟨by omega, (by omega), _, _, rfl, ?_⟩
      refine Lt.set o_10 (by simp only [List.length_map]; (first | omega | (simp only [List.length_set, List.length_replicate, List.length_append, List.length_cons, List.length_nil, List.length_take, List.length_drop, marks_length]; done) | (simp only [List.length_set, List.length_replicate, List.length_append, List.length_cons, List.length_nil, List.length_take, List.length_drop, marks_length]; omega))) (fun H_3 hl_21 o_23 k_22 => ?_)
      have o_23 := map_set o_23
      have l_24 := k_22.1
      have g_25 := g_12.keep (b := b_1) (by omega) k_22
      have l_26 := g_25.1
      have w_27 := o_23.lt
      rw [show IntKind.wrap .i64 (i + 1) = (i + 1) from wrap64 (by omega) (by omega)]
      refine laws_toInt64S_n1 (μ - 1) (by omega) ⟨_, o_23, (by first | assumption | omega | (simp only [List.length_set]; first | rfl | assumption | omega)), g_25, (by first | omega | (simp only [List.length_append, List.length_cons, List.length_nil, List.length_set]; done) | (simp only [List.length_append, List.length_cons, List.length_nil, List.length_set]; omega)), (by first | omega | (simp only [List.length_append, List.length_cons, List.length_nil, List.length_set]; done) | (simp only [List.length_append, List.length_cons, List.length_nil, List.length_set]; omega)), (by omega), (by rw [show μ - 1 + 1 = μ from by omega]; exact e)⟩
    · have e := e.trans (cond_f c_17)
      have c_17' := of_decide_eq_false c_17
      rw [laws_toInt64S_x1_0]
      rw [e] at hk
      exact hk _ _ _ H_2 g_12 (o_10.ownS (by first | (simp only [List.length_replicate]; done) | omega | (simp; omega)) (by omega))
theorem laws_toInt64S_ok : FnOk Try.prog 33 S_laws_toInt64S := by
  refine FnOk.body mix_ok E_laws_toInt64S_ok Try.func33 rfl (by kernel_rfl) (by kernel_rfl) ?_ ?_ ?_ ?_ ?_
  · intro args H K K' h hk
    simp only [S_laws_toInt64S] at *
    unfold F_laws_toInt64S at *
    split at hk
    · obtain ⟨l_a, i_a, bd_29, k⟩ := hk
      exact ⟨l_a, i_a, bd_29, (fun r1_a r1_n r1_e H' gg ow0 => h _ _ (k r1_a r1_n r1_e H' gg ow0))⟩
    · exact hk.elim
  · intro hq; cases hq
  · intro args H K hk
    simp only [S_laws_toInt64S] at *
    unfold F_laws_toInt64S at *
    split at hk
    · obtain ⟨l_a, i_a, bd_29, k⟩ := hk
      exact liveS fun a n e H1 g o => ⟨_, _, k a n e H1 g o⟩
    · exact hk.elim
  · intro _ args H K hk
    simp only [S_laws_toInt64S] at *
    unfold F_laws_toInt64S at *
    split at hk
    · obtain ⟨l_a, i_a, bd_29, k⟩ := hk
      exact ⟨l_a, i_a, bd_29, (fun r1_a r1_n r1_e H' gg ow0 => ⟨gg, k r1_a r1_n r1_e H' gg ow0⟩)⟩
    · exact hk.elim
  · have mm := @laws_toInt64S_main
    revert mm
    generalize bodyK Try.prog E_laws_toInt64S Try.f33 = Q
    intro mm args H K hk
    simp only [S_laws_toInt64S] at *
    unfold F_laws_toInt64S at *
    split at hk
    · exact mm _ _ _ H K hk
    · exact hk.elim
def p_spec_l00In (n : Int) (low : Int) (high : Int) : Bool := (bif decide ((low : Int) ≤ n) then decide ((n : Int) ≤ high) else false)
theorem p_spec_l00In_eq (n : Int) (low : Int) (high : Int) : p_spec_l00In n low high = (bif decide ((low : Int) ≤ n) then decide ((n : Int) ≤ high) else false) := rfl
def T_spec_l00In (n : Int) (low : Int) (high : Int) (H : AHeap) (K : Bool → AHeap → Prop) : Prop := K (p_spec_l00In n low high) H
theorem spec_l00In_t {n a b : Int} (h : p_spec_l00In n a b = true) : a ≤ n ∧ n ≤ b := by
  unfold p_spec_l00In at h
  by_cases h1 : a ≤ n
  · rw [decide_eq_true h1, cond_true] at h; exact ⟨h1, of_decide_eq_true h⟩
  · rw [decide_eq_false h1] at h; cases h
theorem T_spec_l00In_i {n : Int} {low : Int} {high : Int} {H : AHeap} {K : Bool → AHeap → Prop} (h : K (p_spec_l00In n low high) H) : T_spec_l00In n low high H K := h
/-! spec_l00In: function 51 -/
def E_spec_l00In : Env := envOf []
def F_spec_l00In : List Value → AHeap → (Value → AHeap → Prop) → Prop
  | [.int .i64 n, .int .i64 low, .int .i64 high], H, K => T_spec_l00In n low high H fun (r1 : Bool) (H' : AHeap) => K (.bool r1) H'
  | _, _, _ => False
def S_spec_l00In : FSpec := { F := F_spec_l00In, quiet := true, tame := false }
theorem spec_l00In_vc (n : Int) (low : Int) (high : Int) (H : AHeap) (K : Value → AHeap → Prop) : bodyK Try.prog E_spec_l00In Try.f51 [.int .i64 n, .int .i64 low, .int .i64 high] H K =
  (Br (decide ((low : Int) ≤ n)) (K (.bool (decide ((n : Int) ≤ high))) H) (K (.bool false) H)) := by kernel_rfl
theorem E_spec_l00In_ok : ∀ g, FnOk Try.prog g (E_spec_l00In g) := FnOk.envOf (by
  intro x hx; cases hx)
set_option maxHeartbeats 1000000 in
theorem spec_l00In_main (n : Int) (low : Int) (high : Int) (H : AHeap) (K : Value → AHeap → Prop) (h : T_spec_l00In n low high H fun (r1 : Bool) (H' : AHeap) => K (.bool r1) H') : bodyK Try.prog E_spec_l00In Try.f51 [.int .i64 n, .int .i64 low, .int .i64 high] H K := by
  rw [spec_l00In_vc]
  unfold T_spec_l00In p_spec_l00In at h
  repeat' (first | exact h | (exfalso; simp_all; done) | (refine ⟨by decide, ?_⟩) | (refine Br.intro (fun hb => ?_) (fun hb => ?_) <;> (try simp only [hb, cond_true, cond_false, Bool.not_true, Bool.not_false] at h)))
theorem spec_l00In_ok : FnOk Try.prog 51 S_spec_l00In := by
  refine FnOk.body mix_ok E_spec_l00In_ok Try.func51 rfl (by kernel_rfl) (by kernel_rfl) ?_ ?_ ?_ ?_ ?_
  · intro args H K K' h hk
    simp only [S_spec_l00In] at *
    unfold F_spec_l00In at *
    split at hk
    · have k := hk
      exact h _ _ k
    · exact hk.elim
  · intro _ args H K hk
    simp only [S_spec_l00In] at *
    unfold F_spec_l00In at *
    split at hk
    · have k := hk
      exact ⟨_, k, fun K' k' => k'⟩
    · exact hk.elim
  · intro args H K hk
    simp only [S_spec_l00In] at *
    unfold F_spec_l00In at *
    split at hk
    · have k := hk
      exact ⟨_, _, k⟩
    · exact hk.elim
  · intro hq; cases hq
  · have mm := @spec_l00In_main
    revert mm
    generalize bodyK Try.prog E_spec_l00In Try.f51 = Q
    intro mm args H K hk
    simp only [S_spec_l00In] at *
    unfold F_spec_l00In at *
    split at hk
    · exact mm _ _ _ H K hk
    · exact hk.elim
def p_spec_l02Bound_l1 (l_list : List Int) (vmost : Int) : Nat → Bool → Int → Bool
  | 0, _, _ => false
  | μ + 1, t4, i => (bif decide ((i : Int) < (l_list.length : Int)) then (bif !((p_spec_l00In (((l_list).getD (i : Int).toNat 0)) (IntKind.wrap .i64 (0 - vmost)) vmost)) then false else (p_spec_l02Bound_l1 l_list vmost μ t4 (i + 1))) else true)
theorem p_spec_l02Bound_l1_s (l_list : List Int) (vmost : Int) (μ : Nat) (t4 : Bool) (i : Int) : p_spec_l02Bound_l1 l_list vmost (μ + 1) t4 i = (bif decide ((i : Int) < (l_list.length : Int)) then (bif !((p_spec_l00In (((l_list).getD (i : Int).toNat 0)) (IntKind.wrap .i64 (0 - vmost)) vmost)) then false else (p_spec_l02Bound_l1 l_list vmost μ t4 (i + 1))) else true) := rfl
def p_spec_l02Bound (l_list : List Int) (vmost : Int) : Bool := (p_spec_l02Bound_l1 l_list vmost (Int.toNat ((l_list.length : Int) - (0 : Int)) + 1) false (0 : Int))
theorem p_spec_l02Bound_eq (l_list : List Int) (vmost : Int) : p_spec_l02Bound l_list vmost = (p_spec_l02Bound_l1 l_list vmost (Int.toNat ((l_list.length : Int) - (0 : Int)) + 1) false (0 : Int)) := rfl
def T_spec_l02Bound (list_a : Option Addr) (list_n : Nat) (list_e : Nat) (vmost : Int) (H : AHeap) (K : Bool → AHeap → Prop) : Prop := ∃ (l_list : List Int), IsL fI H list_a list_n l_list ∧ l_list.length < 1073741824 ∧ K (p_spec_l02Bound l_list vmost) H
theorem T_spec_l02Bound_i {list_a : Option Addr} {list_n : Nat} {list_e : Nat} {vmost : Int} {H : AHeap} {K : Bool → AHeap → Prop} (h : ∃ (l_list : List Int), IsL fI H list_a list_n l_list ∧ l_list.length < 1073741824 ∧ K (p_spec_l02Bound l_list vmost) H) : T_spec_l02Bound list_a list_n list_e vmost H K := h

/-! spec_l02Bound: function 83 -/
def E_spec_l02Bound : Env := envOf [(51, S_spec_l00In)]
def F_spec_l02Bound : List Value → AHeap → (Value → AHeap → Prop) → Prop
  | [.slice list_a list_n list_e, .int .i64 vmost], H, K => T_spec_l02Bound list_a list_n list_e vmost H fun (r1 : Bool) (H' : AHeap) => K (.bool r1) H'
  | _, _, _ => False
def S_spec_l02Bound : FSpec := { F := F_spec_l02Bound, quiet := true, tame := false }
theorem spec_l02Bound_vc (list_a : Option Addr) (list_n : Nat) (list_e : Nat) (vmost : Int) (H : AHeap) (K : Value → AHeap → Prop) : bodyK Try.prog E_spec_l02Bound Try.f83 [.slice list_a list_n list_e, .int .i64 vmost] H K =
  (loopK (exK Try.prog E_spec_l02Bound (cl (cl (cr (cl (cr (bodyC Try.f83))))))) [.slice list_a list_n list_e, .int .i64 vmost, undef, undef, .bool false, .int .i64 0, undef, undef, undef, undef, undef, undef, undef, undef, undef, undef, undef, undef, undef, undef, undef] H (blockQ 0 (seqQ (exK Try.prog E_spec_l02Bound (cr (cr (bodyC Try.f83)))) (retK Try.prog Try.f83 K)))) := by kernel_rfl
theorem spec_l02Bound_r1 (list_a : Option Addr) (list_e : Nat) (list_n : Nat) (vmost : Int) (t4 : Bool) (i : Int) (g6 g7 g8 g9 g10 g11 g12 g13 g14 g15 g16 g17 g18 g19 g20 : Value) (H : AHeap) (R : Post) : exK Try.prog E_spec_l02Bound (cl (cl (cr (cl (cr (bodyC Try.f83)))))) [.slice list_a list_n list_e, .int .i64 vmost, undef, undef, .bool t4, .int .i64 i, g6, g7, g8, g9, g10, g11, g12, g13, g14, g15, g16, g17, g18, g19, g20] H R =
  (Br (decide ((i : Int) < (list_n : Int))) ((0 : Int) ≤ i ∧ i < (list_n : Int) ∧ ∃ b1 f1, (list_a : Option Addr) = some ⟨b1, f1, none⟩ ∧ ∃ x1 : Int,  rdC H b1 (f1 + (i : Int).toNat * 1) = some (.int .i64 x1) ∧ T_spec_l00In x1 (IntKind.wrap .i64 (0 - vmost)) vmost H fun (r1 : Bool) (H1 : AHeap) => Br (!r1) (R .ret [.slice list_a list_n list_e, .int .i64 vmost, undef, undef, .bool false, .int .i64 i, .int .i64 i, .slice list_a list_n list_e, .int .i64 (list_n : Int), .bool (decide ((i : Int) < (list_n : Int))), g10, g11, .slice list_a list_n list_e, .int .i64 i, .pointer (some ⟨b1, f1 + (i : Int).toNat * 1, none⟩), .int .i64 x1, .int .i64 vmost, .int .i64 (IntKind.wrap .i64 (0 - vmost)), .int .i64 vmost, .bool r1, .bool (!r1)] H1) (R .normal [.slice list_a list_n list_e, .int .i64 vmost, undef, undef, .bool t4, .int .i64 (IntKind.wrap .i64 (i + 1)), .int .i64 i, .slice list_a list_n list_e, .int .i64 (list_n : Int), .bool (decide ((i : Int) < (list_n : Int))), .int .i64 i, .int .i64 (IntKind.wrap .i64 (i + 1)), .slice list_a list_n list_e, .int .i64 i, .pointer (some ⟨b1, f1 + (i : Int).toNat * 1, none⟩), .int .i64 x1, .int .i64 vmost, .int .i64 (IntKind.wrap .i64 (0 - vmost)), .int .i64 vmost, .bool r1, .bool (!r1)] H1)) (R (.exit 0) [.slice list_a list_n list_e, .int .i64 vmost, undef, undef, .bool t4, .int .i64 i, .int .i64 i, .slice list_a list_n list_e, .int .i64 (list_n : Int), .bool (decide ((i : Int) < (list_n : Int))), g10, g11, g12, g13, g14, g15, g16, g17, g18, g19, g20] H)) := by kernel_rfl
def spec_l02Bound_I1 (list_a : Option Addr) (list_e : Nat) (list_n : Nat) (vmost : Int) (Inv : Nat → Bool → Int → AHeap → Prop) : Nat → List Value → AHeap → Prop := fun μ tm H => ∃ (t4 : Bool), ∃ (i : Int), ∃ g6 g7 g8 g9 g10 g11 g12 g13 g14 g15 g16 g17 g18 g19 g20, tm = [.slice list_a list_n list_e, .int .i64 vmost, undef, undef, .bool t4, .int .i64 i, g6, g7, g8, g9, g10, g11, g12, g13, g14, g15, g16, g17, g18, g19, g20] ∧ Inv μ t4 i H
theorem spec_l02Bound_L1 (list_a : Option Addr) (list_e : Nat) (list_n : Nat) (vmost : Int) {Q : Post} (Inv : Nat → Bool → Int → AHeap → Prop) (ν : Nat) (t4 : Bool) (i : Int) (g6 g7 g8 g9 g10 g11 g12 g13 g14 g15 g16 g17 g18 g19 g20 : Value) (H : AHeap) (h0 : Inv ν t4 i H)
    (hs : ∀ (μ : Nat) (t4 : Bool) (i : Int) (g6 g7 g8 g9 g10 g11 g12 g13 g14 g15 g16 g17 g18 g19 g20 : Value) (H : AHeap), Inv μ t4 i H → exK Try.prog E_spec_l02Bound (cl (cl (cr (cl (cr (bodyC Try.f83)))))) [.slice list_a list_n list_e, .int .i64 vmost, undef, undef, .bool t4, .int .i64 i, g6, g7, g8, g9, g10, g11, g12, g13, g14, g15, g16, g17, g18, g19, g20] H (loopQ (spec_l02Bound_I1 list_a list_e list_n vmost Inv) μ Q)) : loopK (exK Try.prog E_spec_l02Bound (cl (cl (cr (cl (cr (bodyC Try.f83))))))) [.slice list_a list_n list_e, .int .i64 vmost, undef, undef, .bool t4, .int .i64 i, g6, g7, g8, g9, g10, g11, g12, g13, g14, g15, g16, g17, g18, g19, g20] H Q :=
  ⟨spec_l02Bound_I1 list_a list_e list_n vmost Inv, ν, ⟨t4, i, g6, g7, g8, g9, g10, g11, g12, g13, g14, g15, g16, g17, g18, g19, g20, rfl, h0⟩, fun μ tm H h => by obtain ⟨t4, i, g6, g7, g8, g9, g10, g11, g12, g13, g14, g15, g16, g17, g18, g19, g20, rfl, hI⟩ := h; exact hs μ t4 i g6 g7 g8 g9 g10 g11 g12 g13 g14 g15 g16 g17 g18 g19 g20 H hI⟩
theorem spec_l02Bound_n1 {list_a : Option Addr} {list_e : Nat} {list_n : Nat} {vmost : Int} {Q : Post} {Inv : Nat → Bool → Int → AHeap → Prop} {μ : Nat} (μ' : Nat) {t4 : Bool} {i : Int} {g6 g7 g8 g9 g10 g11 g12 g13 g14 g15 g16 g17 g18 g19 g20 : Value} {H : AHeap} (hm : μ' < μ) (hI : Inv μ' t4 i H) : loopQ (spec_l02Bound_I1 list_a list_e list_n vmost Inv) μ Q .normal [.slice list_a list_n list_e, .int .i64 vmost, undef, undef, .bool t4, .int .i64 i, g6, g7, g8, g9, g10, g11, g12, g13, g14, g15, g16, g17, g18, g19, g20] H := ⟨μ', hm, t4, i, g6, g7, g8, g9, g10, g11, g12, g13, g14, g15, g16, g17, g18, g19, g20, rfl, hI⟩
theorem spec_l02Bound_x1_0 (list_a : Option Addr) (list_e : Nat) (list_n : Nat) (vmost : Int) (t4 : Bool) (i : Int) (g6 g7 g8 g9 g10 g11 g12 g13 g14 g15 g16 g17 g18 g19 g20 : Value) (H : AHeap) (K : Value → AHeap → Prop)  {I : Nat → List Value → AHeap → Prop} {μ : Nat} : loopQ I μ (blockQ 0 (seqQ (exK Try.prog E_spec_l02Bound (cr (cr (bodyC Try.f83)))) (retK Try.prog Try.f83 K))) (.exit 0) [.slice list_a list_n list_e, .int .i64 vmost, undef, undef, .bool t4, .int .i64 i, g6, g7, g8, g9, g10, g11, g12, g13, g14, g15, g16, g17, g18, g19, g20] H =
  (K (.bool true) H) := by kernel_rfl
theorem spec_l02Bound_x1_ret (list_a : Option Addr) (list_e : Nat) (list_n : Nat) (vmost : Int) (t4 : Bool) (i : Int) (g6 g7 g8 g9 g10 g11 g12 g13 g14 g15 g16 g17 g18 g19 g20 : Value) (H : AHeap) (K : Value → AHeap → Prop)  {I : Nat → List Value → AHeap → Prop} {μ : Nat} : loopQ I μ (blockQ 0 (seqQ (exK Try.prog E_spec_l02Bound (cr (cr (bodyC Try.f83)))) (retK Try.prog Try.f83 K))) .ret [.slice list_a list_n list_e, .int .i64 vmost, undef, undef, .bool t4, .int .i64 i, g6, g7, g8, g9, g10, g11, g12, g13, g14, g15, g16, g17, g18, g19, g20] H =
  (K (.bool t4) H) := by kernel_rfl
theorem E_spec_l02Bound_ok : ∀ g, FnOk Try.prog g (E_spec_l02Bound g) := FnOk.envOf (by
  intro x hx
  simp only [List.mem_cons, List.not_mem_nil, or_false] at hx
  subst hx; exact spec_l00In_ok)
set_option maxHeartbeats 1000000 in
theorem spec_l02Bound_main (list_a : Option Addr) (list_n : Nat) (list_e : Nat) (vmost : Int) (H : AHeap) (K : Value → AHeap → Prop) (h : T_spec_l02Bound list_a list_n list_e vmost H fun (r1 : Bool) (H' : AHeap) => K (.bool r1) H') : bodyK Try.prog E_spec_l02Bound Try.f83 [.slice list_a list_n list_e, .int .i64 vmost] H K := by
  rw [spec_l02Bound_vc]
  obtain ⟨l_list, i_list, bd_9, hk⟩ := h
  obtain rfl := i_list.eqn
  have e : (p_spec_l02Bound l_list vmost) = _ := rfl
  have e := e.trans (p_spec_l02Bound_eq l_list vmost)
  have g0 := Grow.refl H
  refine spec_l02Bound_L1 _ _ _ _ (fun (μ : Nat) (t4 : Bool) (i : Int) (H_1 : AHeap) => H = H_1 ∧ (0 : Int) ≤ i ∧ i ≤ (l_list.length : Int) ∧ (l_list.length : Int) - i ≤ (μ : Int) ∧ p_spec_l02Bound l_list vmost = p_spec_l02Bound_l1 l_list vmost (μ + 1) t4 i) (Int.toNat ((l_list.length : Int) - (0 : Int))) _ _ _ _ _ _ _ _ _ _ _ _ _ _ _ _ _ H ?_ ?_
  · exact ⟨rfl, (by first | omega | (simp; done) | (simp; omega)), (by first | omega | (simp; done) | (simp; omega)), (by omega), e⟩
  · intro μ t4 i g6 g7 g8 g9 g10 g11 g12 g13 g14 g15 g16 g17 g18 g19 g20 H_1 hI
    obtain ⟨rfl, v_1, v_2, hμ, e⟩ := hI
    rw [spec_l02Bound_r1]
    have e := e.trans (p_spec_l02Bound_l1_s l_list vmost μ t4 i)
    have l_3 := g0.1
    refine Br.intro (fun c_4 => ?_) (fun c_4 => ?_)
    · have e := e.trans (cond_t c_4)
      have c_4' := of_decide_eq_true c_4
      obtain ⟨b_5, f_6, q_7⟩ := ((i_list.grow g0)).pos (by first | omega | (simp only [List.length_set, List.length_replicate, List.length_append, List.length_cons, List.length_nil, List.length_take, List.length_drop, marks_length]; done) | (simp only [List.length_set, List.length_replicate, List.length_append, List.length_cons, List.length_nil, List.length_take, List.length_drop, marks_length]; omega))
      refine ⟨by omega, by omega, b_5, f_6, q_7, ?_⟩
      refine ⟨((l_list).getD (i : Int).toNat 0), (i_list).rd g0 q_7 (by omega) _, ?_⟩
      refine T_spec_l00In_i ?_
      refine Br.intro (fun c_8 => ?_) (fun c_8 => ?_)
      · have e := e.trans (cond_t c_8)
        have c_8n := nf_of_t c_8
        rw [spec_l02Bound_x1_ret]
        rw [e] at hk
        exact hk
      · have e := e.trans (cond_f c_8)
        have c_8n := nt_of_f c_8
        have c_8n' := spec_l00In_t c_8n
        rw [show IntKind.wrap .i64 (i + 1) = (i + 1) from wrap64 (by omega) (by omega)]
        refine spec_l02Bound_n1 (μ - 1) (by omega) ⟨rfl, (by first | omega | (simp only [List.length_append, List.length_cons, List.length_nil, List.length_set]; done) | (simp only [List.length_append, List.length_cons, List.length_nil, List.length_set]; omega)), (by first | omega | (simp only [List.length_append, List.length_cons, List.length_nil, List.length_set]; done) | (simp only [List.length_append, List.length_cons, List.length_nil, List.length_set]; omega)), (by omega), (by rw [show μ - 1 + 1 = μ from by omega]; exact e)⟩
    · have e := e.trans (cond_f c_4)
      have c_4' := of_decide_eq_false c_4
      rw [spec_l02Bound_x1_0]
      rw [e] at hk
      exact hk
theorem spec_l02Bound_ok : FnOk Try.prog 83 S_spec_l02Bound := by
  refine FnOk.body mix_ok E_spec_l02Bound_ok Try.func83 rfl (by kernel_rfl) (by kernel_rfl) ?_ ?_ ?_ ?_ ?_
  · intro args H K K' h hk
    simp only [S_spec_l02Bound] at *
    unfold F_spec_l02Bound at *
    split at hk
    · obtain ⟨l_list, i_list, bd_9, k⟩ := hk
      exact ⟨l_list, i_list, bd_9, h _ _ k⟩
    · exact hk.elim
  · intro _ args H K hk
    simp only [S_spec_l02Bound] at *
    unfold F_spec_l02Bound at *
    split at hk
    · obtain ⟨l_list, i_list, bd_9, k⟩ := hk
      exact ⟨_, k, fun K' k' => ⟨l_list, i_list, bd_9, k'⟩⟩
    · exact hk.elim
  · intro args H K hk
    simp only [S_spec_l02Bound] at *
    unfold F_spec_l02Bound at *
    split at hk
    · obtain ⟨l_list, i_list, bd_9, k⟩ := hk
      exact ⟨_, _, k⟩
    · exact hk.elim
  · intro hq; cases hq
  · have mm := @spec_l02Bound_main
    revert mm
    generalize bodyK Try.prog E_spec_l02Bound Try.f83 = Q
    intro mm args H K hk
    simp only [S_spec_l02Bound] at *
    unfold F_spec_l02Bound at *
    split at hk
    · exact mm _ _ _ _ H K hk
    · exact hk.elim
def p_spec_l02Integers (l_list : List Int) : Bool := (bif decide ((1 : Int) ≤ (l_list.length : Int)) then (bif decide (((l_list.length : Int) : Int) ≤ 128) then (p_spec_l02Bound l_list (1000000 : Int)) else false) else false)
theorem p_spec_l02Integers_eq (l_list : List Int) : p_spec_l02Integers l_list = (bif decide ((1 : Int) ≤ (l_list.length : Int)) then (bif decide (((l_list.length : Int) : Int) ≤ 128) then (p_spec_l02Bound l_list (1000000 : Int)) else false) else false) := rfl
def T_spec_l02Integers (list_a : Option Addr) (list_n : Nat) (list_e : Nat) (H : AHeap) (K : Bool → AHeap → Prop) : Prop := ∃ (l_list : List Int), IsL fI H list_a list_n l_list ∧ l_list.length < 1073741824 ∧ K (p_spec_l02Integers l_list) H
theorem T_spec_l02Integers_i {list_a : Option Addr} {list_n : Nat} {list_e : Nat} {H : AHeap} {K : Bool → AHeap → Prop} (h : ∃ (l_list : List Int), IsL fI H list_a list_n l_list ∧ l_list.length < 1073741824 ∧ K (p_spec_l02Integers l_list) H) : T_spec_l02Integers list_a list_n list_e H K := h

/-! spec_l02Integers: function 68 -/
def E_spec_l02Integers : Env := envOf [(83, S_spec_l02Bound)]
def F_spec_l02Integers : List Value → AHeap → (Value → AHeap → Prop) → Prop
  | [.slice list_a list_n list_e], H, K => T_spec_l02Integers list_a list_n list_e H fun (r1 : Bool) (H' : AHeap) => K (.bool r1) H'
  | _, _, _ => False
def S_spec_l02Integers : FSpec := { F := F_spec_l02Integers, quiet := true, tame := false }
theorem spec_l02Integers_vc (list_a : Option Addr) (list_n : Nat) (list_e : Nat) (H : AHeap) (K : Value → AHeap → Prop) : bodyK Try.prog E_spec_l02Integers Try.f68 [.slice list_a list_n list_e] H K =
  (Br (decide ((1 : Int) ≤ (list_n : Int))) (Br (decide (((list_n : Int) : Int) ≤ 128)) (T_spec_l02Bound list_a list_n list_e 1000000 H fun (r1 : Bool) (H1 : AHeap) => K (.bool r1) H1) (K (.bool false) H)) (K (.bool false) H)) := by kernel_rfl
theorem E_spec_l02Integers_ok : ∀ g, FnOk Try.prog g (E_spec_l02Integers g) := FnOk.envOf (by
  intro x hx
  simp only [List.mem_cons, List.not_mem_nil, or_false] at hx
  subst hx; exact spec_l02Bound_ok)
set_option maxHeartbeats 1000000 in
theorem spec_l02Integers_main (list_a : Option Addr) (list_n : Nat) (list_e : Nat) (H : AHeap) (K : Value → AHeap → Prop) (h : T_spec_l02Integers list_a list_n list_e H fun (r1 : Bool) (H' : AHeap) => K (.bool r1) H') : bodyK Try.prog E_spec_l02Integers Try.f68 [.slice list_a list_n list_e] H K := by
  rw [spec_l02Integers_vc]
  obtain ⟨l_list, i_list, bd_3, hk⟩ := h
  obtain rfl := i_list.eqn
  have e : (p_spec_l02Integers l_list) = _ := rfl
  have e := e.trans (p_spec_l02Integers_eq l_list)
  have g0 := Grow.refl H
  refine Br.intro (fun c_1 => ?_) (fun c_1 => ?_)
  · have e := e.trans (cond_t c_1)
    have c_1' := of_decide_eq_true c_1
    refine Br.intro (fun c_2 => ?_) (fun c_2 => ?_)
    · have e := e.trans (cond_t c_2)
      have c_2' := of_decide_eq_true c_2
      refine T_spec_l02Bound_i ⟨_, (i_list.grow g0), (by first | omega | (simp only [List.length_set, List.length_replicate, List.length_append, List.length_cons, List.length_nil, List.length_take, List.length_drop, marks_length]; done) | (simp only [List.length_set, List.length_replicate, List.length_append, List.length_cons, List.length_nil, List.length_take, List.length_drop, marks_length]; omega)), ?_⟩
      rw [e] at hk
      exact hk
    · have e := e.trans (cond_f c_2)
      have c_2' := of_decide_eq_false c_2
      rw [e] at hk
      exact hk
  · have e := e.trans (cond_f c_1)
    have c_1' := of_decide_eq_false c_1
    rw [e] at hk
    exact hk
theorem spec_l02Integers_ok : FnOk Try.prog 68 S_spec_l02Integers := by
  refine FnOk.body mix_ok E_spec_l02Integers_ok Try.func68 rfl (by kernel_rfl) (by kernel_rfl) ?_ ?_ ?_ ?_ ?_
  · intro args H K K' h hk
    simp only [S_spec_l02Integers] at *
    unfold F_spec_l02Integers at *
    split at hk
    · obtain ⟨l_list, i_list, bd_3, k⟩ := hk
      exact ⟨l_list, i_list, bd_3, h _ _ k⟩
    · exact hk.elim
  · intro _ args H K hk
    simp only [S_spec_l02Integers] at *
    unfold F_spec_l02Integers at *
    split at hk
    · obtain ⟨l_list, i_list, bd_3, k⟩ := hk
      exact ⟨_, k, fun K' k' => ⟨l_list, i_list, bd_3, k'⟩⟩
    · exact hk.elim
  · intro args H K hk
    simp only [S_spec_l02Integers] at *
    unfold F_spec_l02Integers at *
    split at hk
    · obtain ⟨l_list, i_list, bd_3, k⟩ := hk
      exact ⟨_, _, k⟩
    · exact hk.elim
  · intro hq; cases hq
  · have mm := @spec_l02Integers_main
    revert mm
    generalize bodyK Try.prog E_spec_l02Integers Try.f68 = Q
    intro mm args H K hk
    simp only [S_spec_l02Integers] at *
    unfold F_spec_l02Integers at *
    split at hk
    · exact mm _ _ _ H K hk
    · exact hk.elim
def p_spec_l06Abs (n : Int) : Int := (bif decide ((n : Int) < 0) then IntKind.wrap .i64 (0 - n) else n)
theorem p_spec_l06Abs_eq (n : Int) : p_spec_l06Abs n = (bif decide ((n : Int) < 0) then IntKind.wrap .i64 (0 - n) else n) := rfl
def T_spec_l06Abs (n : Int) (H : AHeap) (K : Int → AHeap → Prop) : Prop := K (p_spec_l06Abs n) H

theorem T_spec_l06Abs_i {n : Int} {H : AHeap} {K : Int → AHeap → Prop} (h : K (p_spec_l06Abs n) H) : T_spec_l06Abs n H K := h
/-! spec_l06Abs: function 84 -/
def E_spec_l06Abs : Env := envOf []
def F_spec_l06Abs : List Value → AHeap → (Value → AHeap → Prop) → Prop
  | [.int .i64 n], H, K => T_spec_l06Abs n H fun (r1 : Int) (H' : AHeap) => K (.int .i64 r1) H'
  | _, _, _ => False
def S_spec_l06Abs : FSpec := { F := F_spec_l06Abs, quiet := true, tame := false }
theorem spec_l06Abs_vc (n : Int) (H : AHeap) (K : Value → AHeap → Prop) : bodyK Try.prog E_spec_l06Abs Try.f84 [.int .i64 n] H K =
  (Br (decide ((n : Int) < 0)) (K (.int .i64 (IntKind.wrap .i64 (0 - n))) H) (K (.int .i64 n) H)) := by kernel_rfl
theorem E_spec_l06Abs_ok : ∀ g, FnOk Try.prog g (E_spec_l06Abs g) := FnOk.envOf (by
  intro x hx; cases hx)
set_option maxHeartbeats 1000000 in
theorem spec_l06Abs_main (n : Int) (H : AHeap) (K : Value → AHeap → Prop) (h : T_spec_l06Abs n H fun (r1 : Int) (H' : AHeap) => K (.int .i64 r1) H') : bodyK Try.prog E_spec_l06Abs Try.f84 [.int .i64 n] H K := by
  rw [spec_l06Abs_vc]
  unfold T_spec_l06Abs p_spec_l06Abs at h
  repeat' (first | exact h | (exfalso; simp_all; done) | (refine ⟨by decide, ?_⟩) | (refine Br.intro (fun hb => ?_) (fun hb => ?_) <;> (try simp only [hb, cond_true, cond_false, Bool.not_true, Bool.not_false] at h)))
theorem spec_l06Abs_ok : FnOk Try.prog 84 S_spec_l06Abs := by
  refine FnOk.body mix_ok E_spec_l06Abs_ok Try.func84 rfl (by kernel_rfl) (by kernel_rfl) ?_ ?_ ?_ ?_ ?_
  · intro args H K K' h hk
    simp only [S_spec_l06Abs] at *
    unfold F_spec_l06Abs at *
    split at hk
    · have k := hk
      exact h _ _ k
    · exact hk.elim
  · intro _ args H K hk
    simp only [S_spec_l06Abs] at *
    unfold F_spec_l06Abs at *
    split at hk
    · have k := hk
      exact ⟨_, k, fun K' k' => k'⟩
    · exact hk.elim
  · intro args H K hk
    simp only [S_spec_l06Abs] at *
    unfold F_spec_l06Abs at *
    split at hk
    · have k := hk
      exact ⟨_, _, k⟩
    · exact hk.elim
  · intro hq; cases hq
  · have mm := @spec_l06Abs_main
    revert mm
    generalize bodyK Try.prog E_spec_l06Abs Try.f84 = Q
    intro mm args H K hk
    simp only [S_spec_l06Abs] at *
    unfold F_spec_l06Abs at *
    split at hk
    · exact mm _ H K hk
    · exact hk.elim
def p_spec_l06Digit (n : Int) (plane : Int) : Bool := ((IntKind.wrap .i64 (((BitVec.ofInt (IntKind.bits .i64) (Int.fdiv (p_spec_l06Abs n) (2 ^ (min (IntKind.wrap .u64 plane : Int).toNat (IntKind.bits .i64)))) &&& BitVec.ofInt (IntKind.bits .i64) 1).toNat : Int)) : Int) == 1)
theorem p_spec_l06Digit_eq (n : Int) (plane : Int) : p_spec_l06Digit n plane = ((IntKind.wrap .i64 (((BitVec.ofInt (IntKind.bits .i64) (Int.fdiv (p_spec_l06Abs n) (2 ^ (min (IntKind.wrap .u64 plane : Int).toNat (IntKind.bits .i64)))) &&& BitVec.ofInt (IntKind.bits .i64) 1).toNat : Int)) : Int) == 1) := rfl
def T_spec_l06Digit (n : Int) (plane : Int) (H : AHeap) (K : Bool → AHeap → Prop) : Prop := K (p_spec_l06Digit n plane) H
theorem T_spec_l06Digit_i {n : Int} {plane : Int} {H : AHeap} {K : Bool → AHeap → Prop} (h : K (p_spec_l06Digit n plane) H) : T_spec_l06Digit n plane H K := h

/-! spec_l06Digit: function 71 -/
def E_spec_l06Digit : Env := envOf [(84, S_spec_l06Abs)]
def F_spec_l06Digit : List Value → AHeap → (Value → AHeap → Prop) → Prop
  | [.int .i64 n, .int .i64 plane], H, K => T_spec_l06Digit n plane H fun (r1 : Bool) (H' : AHeap) => K (.bool r1) H'
  | _, _, _ => False
def S_spec_l06Digit : FSpec := { F := F_spec_l06Digit, quiet := true, tame := false }
theorem spec_l06Digit_vc (n : Int) (plane : Int) (H : AHeap) (K : Value → AHeap → Prop) : bodyK Try.prog E_spec_l06Digit Try.f71 [.int .i64 n, .int .i64 plane] H K =
  (T_spec_l06Abs n H fun (r1 : Int) (H1 : AHeap) => (0 : Int) ≤ IntKind.wrap .u64 plane ∧ K (.bool ((IntKind.wrap .i64 (((BitVec.ofInt (IntKind.bits .i64) (Int.fdiv r1 (2 ^ (min (IntKind.wrap .u64 plane : Int).toNat (IntKind.bits .i64)))) &&& BitVec.ofInt (IntKind.bits .i64) 1).toNat : Int)) : Int) == 1)) H1) := by kernel_rfl
theorem E_spec_l06Digit_ok : ∀ g, FnOk Try.prog g (E_spec_l06Digit g) := FnOk.envOf (by
  intro x hx
  simp only [List.mem_cons, List.not_mem_nil, or_false] at hx
  subst hx; exact spec_l06Abs_ok)
set_option maxHeartbeats 1000000 in
theorem spec_l06Digit_main (n : Int) (plane : Int) (H : AHeap) (K : Value → AHeap → Prop) (h : T_spec_l06Digit n plane H fun (r1 : Bool) (H' : AHeap) => K (.bool r1) H') : bodyK Try.prog E_spec_l06Digit Try.f71 [.int .i64 n, .int .i64 plane] H K := by
  rw [spec_l06Digit_vc]
  have hk := h
  unfold T_spec_l06Digit at hk
  have e : (p_spec_l06Digit n plane) = _ := rfl
  have e := e.trans (p_spec_l06Digit_eq n plane)
  have g0 := Grow.refl H
  refine T_spec_l06Abs_i ?_
  refine ⟨(wrapu_nonneg _), ?_⟩
  rw [e] at hk
  exact hk
theorem spec_l06Digit_ok : FnOk Try.prog 71 S_spec_l06Digit := by
  refine FnOk.body mix_ok E_spec_l06Digit_ok Try.func71 rfl (by kernel_rfl) (by kernel_rfl) ?_ ?_ ?_ ?_ ?_
  · intro args H K K' h hk
    simp only [S_spec_l06Digit] at *
    unfold F_spec_l06Digit at *
    split at hk
    · have k := hk
      exact h _ _ k
    · exact hk.elim
  · intro _ args H K hk
    simp only [S_spec_l06Digit] at *
    unfold F_spec_l06Digit at *
    split at hk
    · have k := hk
      exact ⟨_, k, fun K' k' => k'⟩
    · exact hk.elim
  · intro args H K hk
    simp only [S_spec_l06Digit] at *
    unfold F_spec_l06Digit at *
    split at hk
    · have k := hk
      exact ⟨_, _, k⟩
    · exact hk.elim
  · intro hq; cases hq
  · have mm := @spec_l06Digit_main
    revert mm
    generalize bodyK Try.prog E_spec_l06Digit Try.f71 = Q
    intro mm args H K hk
    simp only [S_spec_l06Digit] at *
    unfold F_spec_l06Digit at *
    split at hk
    · exact mm _ _ H K hk
    · exact hk.elim
def p_spec_PlaneOf_l1 (l_list : List Int) (plane : Int) : Nat → (List Bool) → Int → (List Bool) × Bool
  | 0, _, _ => ([], false)
  | μ + 1, l_vout, i => (bif decide ((i : Int) < (l_list.length : Int)) then (p_spec_PlaneOf_l1 l_list plane μ ((l_vout ++ [((p_spec_l06Digit (((l_list).getD (i : Int).toNat 0)) plane))])) (i + 1)) else (l_vout, true))
theorem p_spec_PlaneOf_l1_s (l_list : List Int) (plane : Int) (μ : Nat) (l_vout : List Bool) (i : Int) : p_spec_PlaneOf_l1 l_list plane (μ + 1) l_vout i = (bif decide ((i : Int) < (l_list.length : Int)) then (p_spec_PlaneOf_l1 l_list plane μ ((l_vout ++ [((p_spec_l06Digit (((l_list).getD (i : Int).toNat 0)) plane))])) (i + 1)) else (l_vout, true)) := rfl
def p_spec_PlaneOf (l_list : List Int) (plane : Int) : (List Bool) × Bool := (bif !(p_spec_l02Integers l_list) then ([], false) else (bif !((p_spec_l00In plane (0 : Int) (23 : Int))) then ([], false) else (p_spec_PlaneOf_l1 l_list plane (Int.toNat ((l_list.length : Int) - (0 : Int)) + 1) ([] : List Bool) (0 : Int))))
theorem p_spec_PlaneOf_eq (l_list : List Int) (plane : Int) : p_spec_PlaneOf l_list plane = (bif !(p_spec_l02Integers l_list) then ([], false) else (bif !((p_spec_l00In plane (0 : Int) (23 : Int))) then ([], false) else (p_spec_PlaneOf_l1 l_list plane (Int.toNat ((l_list.length : Int) - (0 : Int)) + 1) ([] : List Bool) (0 : Int)))) := rfl
def T_spec_PlaneOf (list_a : Option Addr) (list_n : Nat) (list_e : Nat) (plane : Int) (H : AHeap) (K : (Option Addr) → Nat → Nat → Bool → AHeap → Prop) : Prop := ∃ (l_list : List Int), IsL fI H list_a list_n l_list ∧ l_list.length < 1073741824 ∧ ((∀ (r1_a : Option Addr) (r1_n r1_e : Nat), ∀ H' : AHeap, Grow H H' → OwnS fB H' H.length r1_a r1_n r1_e ((p_spec_PlaneOf l_list plane).1) → K r1_a r1_n r1_e ((p_spec_PlaneOf l_list plane).2) H'))
theorem T_spec_PlaneOf_i {list_a : Option Addr} {list_n : Nat} {list_e : Nat} {plane : Int} {H : AHeap} {K : (Option Addr) → Nat → Nat → Bool → AHeap → Prop} (h : ∃ (l_list : List Int), IsL fI H list_a list_n l_list ∧ l_list.length < 1073741824 ∧ ((∀ (r1_a : Option Addr) (r1_n r1_e : Nat), ∀ H' : AHeap, Grow H H' → OwnS fB H' H.length r1_a r1_n r1_e ((p_spec_PlaneOf l_list plane).1) → K r1_a r1_n r1_e ((p_spec_PlaneOf l_list plane).2) H'))) : T_spec_PlaneOf list_a list_n list_e plane H K := h
theorem spec_PlaneOf_go (l : List Int) (plane : Int) : ∀ (μ : Nat) (o : List Bool) (i : Nat), i ≤ l.length → (p_spec_PlaneOf_l1 l plane μ o (i : Int)).1.length ≤ o.length + (l.length - i) := by
  intro μ
  induction μ with
  | zero => intro o i h; exact Nat.zero_le _
  | succ μ ih =>
    intro o i hm
    rw [p_spec_PlaneOf_l1_s]
    by_cases h : i < l.length
    · rw [decide_eq_true (show (i : Int) < (l.length : Int) by omega), cond_true]
      refine Nat.le_trans (ih _ (i + 1) (by omega)) ?_
      simp; omega
    · rw [decide_eq_false (show ¬ (i : Int) < (l.length : Int) by omega), cond_false]
      exact Nat.le_add_right _ _
theorem spec_PlaneOf_len (l : List Int) (plane : Int) : (p_spec_PlaneOf l plane).1.length ≤ l.length := by
  rw [p_spec_PlaneOf_eq]
  cases p_spec_l02Integers l
  · exact Nat.zero_le _
  · cases p_spec_l00In plane 0 23
    · exact Nat.zero_le _
    · have := spec_PlaneOf_go l plane (Int.toNat ((l.length : Int) - (0 : Int)) + 1) [] 0 (Nat.zero_le _)
      simpa using this
/-! spec_PlaneOf: function 44 -/
def E_spec_PlaneOf : Env := envOf [(68, S_spec_l02Integers), (51, S_spec_l00In), (71, S_spec_l06Digit)]
def F_spec_PlaneOf : List Value → AHeap → (Value → AHeap → Prop) → Prop
  | [.slice list_a list_n list_e, .int .i64 plane], H, K => T_spec_PlaneOf list_a list_n list_e plane H fun (r1_a : Option Addr) (r1_n : Nat) (r1_e : Nat) (r2 : Bool) (H' : AHeap) => K (.tuple #[.slice r1_a r1_n r1_e, .bool r2]) H'
  | _, _, _ => False
def S_spec_PlaneOf : FSpec := { F := F_spec_PlaneOf, quiet := false, tame := true }
theorem spec_PlaneOf_vc (list_a : Option Addr) (list_n : Nat) (list_e : Nat) (plane : Int) (H : AHeap) (K : Value → AHeap → Prop) : bodyK Try.prog E_spec_PlaneOf Try.f44 [.slice list_a list_n list_e, .int .i64 plane] H K =
  (T_spec_l02Integers list_a list_n list_e H fun (r1 : Bool) (H1 : AHeap) => Br (!r1) (K (.tuple #[.slice none 0 0, .bool false]) H1) (T_spec_l00In plane 0 23 H1 fun (r2 : Bool) (H2 : AHeap) => Br (!r2) (K (.tuple #[.slice none 0 0, .bool false]) H2) (Al [] H2 fun b1 H3 => loopK (exK Try.prog E_spec_PlaneOf (cl (cl (cr (cl (cr (cr (cr (bodyC Try.f44))))))))) [.slice list_a list_n list_e, .int .i64 plane, undef, undef, .slice none 0 0, .bool false, .slice (some ⟨b1, 0, none⟩) 0 1, .int .i64 0, .slice list_a list_n list_e, .bool r1, .bool (!r1), .bool false, .int .i64 plane, .bool r2, .bool (!r2), .bool (!r2), .slice (some ⟨b1, 0, none⟩) 0 1, undef, undef, undef, undef, undef, undef, undef, undef, undef, undef, undef, undef, undef, undef, undef, undef] H3 (blockQ 0 (seqQ (exK Try.prog E_spec_PlaneOf (cr (cr (cr (cr (bodyC Try.f44)))))) (retK Try.prog Try.f44 K)))))) := by kernel_rfl
theorem spec_PlaneOf_r1 (b1 : Nat) (list_a : Option Addr) (list_e : Nat) (list_n : Nat) (plane : Int) (r1 : Bool) (r2 : Bool) (vout_a : Option Addr) (vout_n : Nat) (vout_e : Nat) (i : Int) (g17 g18 g19 g20 g21 g22 g23 g24 g25 g26 g27 g28 g29 g30 g31 : Value) (H : AHeap) (R : Post) : exK Try.prog E_spec_PlaneOf (cl (cl (cr (cl (cr (cr (cr (bodyC Try.f44)))))))) [.slice list_a list_n list_e, .int .i64 plane, undef, undef, .slice none 0 0, .bool false, .slice vout_a vout_n vout_e, .int .i64 i, .slice list_a list_n list_e, .bool r1, .bool (!r1), .bool false, .int .i64 plane, .bool r2, .bool (!r2), .bool (!r2), .slice (some ⟨b1, 0, none⟩) 0 1, g17, g18, g19, g20, g21, g22, g23, g24, g25, g26, g27, g28, g29, g30, g31, undef] H R =
  (Br (decide ((i : Int) < (list_n : Int))) ((0 : Int) ≤ i ∧ i < (list_n : Int) ∧ ∃ b2 f1, (list_a : Option Addr) = some ⟨b2, f1, none⟩ ∧ ∃ x1 : Int,  rdC H b2 (f1 + (i : Int).toNat * 1) = some (.int .i64 x1) ∧ T_spec_l06Digit x1 plane H fun (r3 : Bool) (H4 : AHeap) => Al [.bool r3] H4 fun b3 H5 => ∃ o1 w1 : List Value, ownB H5 vout_a vout_n vout_e 1 = some o1 ∧ rdS H5 (some ⟨b3, 0, none⟩) (1 * 1) = some w1 ∧ ((vout_a : Option Addr) = none → 0 < (1 : Nat)) ∧ (vout_n : Nat) + 1 < most ∧ Ap H5 (killB H5 vout_a ++ [some ⟨o1 ++ w1, true⟩]) fun b4 H6 => R .normal [.slice list_a list_n list_e, .int .i64 plane, undef, undef, .slice none 0 0, .bool false, .slice (some ⟨b4, 0, none⟩) (vout_n + 1) 1, .int .i64 (IntKind.wrap .i64 (i + 1)), .slice list_a list_n list_e, .bool r1, .bool (!r1), .bool false, .int .i64 plane, .bool r2, .bool (!r2), .bool (!r2), .slice (some ⟨b1, 0, none⟩) 0 1, .int .i64 i, .slice list_a list_n list_e, .int .i64 (list_n : Int), .bool (decide ((i : Int) < (list_n : Int))), .int .i64 i, .int .i64 (IntKind.wrap .i64 (i + 1)), .slice vout_a vout_n vout_e, .slice list_a list_n list_e, .int .i64 i, .pointer (some ⟨b2, f1 + (i : Int).toNat * 1, none⟩), .int .i64 x1, .int .i64 plane, .bool r3, .slice (some ⟨b3, 0, none⟩) 1 1, .slice (some ⟨b4, 0, none⟩) (vout_n + 1) 1, undef] H6) (R (.exit 0) [.slice list_a list_n list_e, .int .i64 plane, undef, undef, .slice none 0 0, .bool false, .slice vout_a vout_n vout_e, .int .i64 i, .slice list_a list_n list_e, .bool r1, .bool (!r1), .bool false, .int .i64 plane, .bool r2, .bool (!r2), .bool (!r2), .slice (some ⟨b1, 0, none⟩) 0 1, .int .i64 i, .slice list_a list_n list_e, .int .i64 (list_n : Int), .bool (decide ((i : Int) < (list_n : Int))), g21, g22, g23, g24, g25, g26, g27, g28, g29, g30, g31, undef] H)) := by kernel_rfl
def spec_PlaneOf_I1 (b1 : Nat) (list_a : Option Addr) (list_e : Nat) (list_n : Nat) (plane : Int) (r1 : Bool) (r2 : Bool) (Inv : Nat → (Option Addr) → Nat → Nat → Int → AHeap → Prop) : Nat → List Value → AHeap → Prop := fun μ tm H => ∃ (vout_a : Option Addr), ∃ (vout_n : Nat), ∃ (vout_e : Nat), ∃ (i : Int), ∃ g17 g18 g19 g20 g21 g22 g23 g24 g25 g26 g27 g28 g29 g30 g31, tm = [.slice list_a list_n list_e, .int .i64 plane, undef, undef, .slice none 0 0, .bool false, .slice vout_a vout_n vout_e, .int .i64 i, .slice list_a list_n list_e, .bool r1, .bool (!r1), .bool false, .int .i64 plane, .bool r2, .bool (!r2), .bool (!r2), .slice (some ⟨b1, 0, none⟩) 0 1, g17, g18, g19, g20, g21, g22, g23, g24, g25, g26, g27, g28, g29, g30, g31, undef] ∧ Inv μ vout_a vout_n vout_e i H
theorem spec_PlaneOf_L1 (b1 : Nat) (list_a : Option Addr) (list_e : Nat) (list_n : Nat) (plane : Int) (r1 : Bool) (r2 : Bool) {Q : Post} (Inv : Nat → (Option Addr) → Nat → Nat → Int → AHeap → Prop) (ν : Nat) (vout_a : Option Addr) (vout_n : Nat) (vout_e : Nat) (i : Int) (g17 g18 g19 g20 g21 g22 g23 g24 g25 g26 g27 g28 g29 g30 g31 : Value) (H : AHeap) (h0 : Inv ν vout_a vout_n vout_e i H)
    (hs : ∀ (μ : Nat) (vout_a : Option Addr) (vout_n : Nat) (vout_e : Nat) (i : Int) (g17 g18 g19 g20 g21 g22 g23 g24 g25 g26 g27 g28 g29 g30 g31 : Value) (H : AHeap), Inv μ vout_a vout_n vout_e i H → exK Try.prog E_spec_PlaneOf (cl (cl (cr (cl (cr (cr (cr (bodyC Try.f44)))))))) [.slice list_a list_n list_e, .int .i64 plane, undef, undef, .slice none 0 0, .bool false, .slice vout_a vout_n vout_e, .int .i64 i, .slice list_a list_n list_e, .bool r1, .bool (!r1), .bool false, .int .i64 plane, .bool r2, .bool (!r2), .bool (!r2), .slice (some ⟨b1, 0, none⟩) 0 1, g17, g18, g19, g20, g21, g22, g23, g24, g25, g26, g27, g28, g29, g30, g31, undef] H (loopQ (spec_PlaneOf_I1 b1 list_a list_e list_n plane r1 r2 Inv) μ Q)) : loopK (exK Try.prog E_spec_PlaneOf (cl (cl (cr (cl (cr (cr (cr (bodyC Try.f44))))))))) [.slice list_a list_n list_e, .int .i64 plane, undef, undef, .slice none 0 0, .bool false, .slice vout_a vout_n vout_e, .int .i64 i, .slice list_a list_n list_e, .bool r1, .bool (!r1), .bool false, .int .i64 plane, .bool r2, .bool (!r2), .bool (!r2), .slice (some ⟨b1, 0, none⟩) 0 1, g17, g18, g19, g20, g21, g22, g23, g24, g25, g26, g27, g28, g29, g30, g31, undef] H Q :=
  ⟨spec_PlaneOf_I1 b1 list_a list_e list_n plane r1 r2 Inv, ν, ⟨vout_a, vout_n, vout_e, i, g17, g18, g19, g20, g21, g22, g23, g24, g25, g26, g27, g28, g29, g30, g31, rfl, h0⟩, fun μ tm H h => by obtain ⟨vout_a, vout_n, vout_e, i, g17, g18, g19, g20, g21, g22, g23, g24, g25, g26, g27, g28, g29, g30, g31, rfl, hI⟩ := h; exact hs μ vout_a vout_n vout_e i g17 g18 g19 g20 g21 g22 g23 g24 g25 g26 g27 g28 g29 g30 g31 H hI⟩
theorem spec_PlaneOf_n1 {b1 : Nat} {list_a : Option Addr} {list_e : Nat} {list_n : Nat} {plane : Int} {r1 : Bool} {r2 : Bool} {Q : Post} {Inv : Nat → (Option Addr) → Nat → Nat → Int → AHeap → Prop} {μ : Nat} (μ' : Nat) {vout_a : Option Addr} {vout_n : Nat} {vout_e : Nat} {i : Int} {g17 g18 g19 g20 g21 g22 g23 g24 g25 g26 g27 g28 g29 g30 g31 : Value} {H : AHeap} (hm : μ' < μ) (hI : Inv μ' vout_a vout_n vout_e i H) : loopQ (spec_PlaneOf_I1 b1 list_a list_e list_n plane r1 r2 Inv) μ Q .normal [.slice list_a list_n list_e, .int .i64 plane, undef, undef, .slice none 0 0, .bool false, .slice vout_a vout_n vout_e, .int .i64 i, .slice list_a list_n list_e, .bool r1, .bool (!r1), .bool false, .int .i64 plane, .bool r2, .bool (!r2), .bool (!r2), .slice (some ⟨b1, 0, none⟩) 0 1, g17, g18, g19, g20, g21, g22, g23, g24, g25, g26, g27, g28, g29, g30, g31, undef] H := ⟨μ', hm, vout_a, vout_n, vout_e, i, g17, g18, g19, g20, g21, g22, g23, g24, g25, g26, g27, g28, g29, g30, g31, rfl, hI⟩
theorem spec_PlaneOf_x1_0 (b1 : Nat) (list_a : Option Addr) (list_e : Nat) (list_n : Nat) (plane : Int) (r1 : Bool) (r2 : Bool) (vout_a : Option Addr) (vout_n : Nat) (vout_e : Nat) (i : Int) (g17 g18 g19 g20 g21 g22 g23 g24 g25 g26 g27 g28 g29 g30 g31 : Value) (H : AHeap) (K : Value → AHeap → Prop)  {I : Nat → List Value → AHeap → Prop} {μ : Nat} : loopQ I μ (blockQ 0 (seqQ (exK Try.prog E_spec_PlaneOf (cr (cr (cr (cr (bodyC Try.f44)))))) (retK Try.prog Try.f44 K))) (.exit 0) [.slice list_a list_n list_e, .int .i64 plane, undef, undef, .slice none 0 0, .bool false, .slice vout_a vout_n vout_e, .int .i64 i, .slice list_a list_n list_e, .bool r1, .bool (!r1), .bool false, .int .i64 plane, .bool r2, .bool (!r2), .bool (!r2), .slice (some ⟨b1, 0, none⟩) 0 1, g17, g18, g19, g20, g21, g22, g23, g24, g25, g26, g27, g28, g29, g30, g31, undef] H =
  (K (.tuple #[.slice vout_a vout_n vout_e, .bool true]) H) := by kernel_rfl
theorem E_spec_PlaneOf_ok : ∀ g, FnOk Try.prog g (E_spec_PlaneOf g) := FnOk.envOf (by
  intro x hx
  simp only [List.mem_cons, List.not_mem_nil, or_false] at hx
  rcases hx with rfl | rfl | rfl
  · exact spec_l02Integers_ok
  · exact spec_l00In_ok
  · exact spec_l06Digit_ok)
set_option maxHeartbeats 1000000 in
theorem spec_PlaneOf_main (list_a : Option Addr) (list_n : Nat) (list_e : Nat) (plane : Int) (H : AHeap) (K : Value → AHeap → Prop) (h : T_spec_PlaneOf list_a list_n list_e plane H fun (r1_a : Option Addr) (r1_n : Nat) (r1_e : Nat) (r2 : Bool) (H' : AHeap) => K (.tuple #[.slice r1_a r1_n r1_e, .bool r2]) H') : bodyK Try.prog E_spec_PlaneOf Try.f44 [.slice list_a list_n list_e, .int .i64 plane] H K := by
  rw [spec_PlaneOf_vc]
  obtain ⟨l_list, i_list, bd_50, hk⟩ := h
  obtain rfl := i_list.eqn
  have e : (p_spec_PlaneOf l_list plane) = _ := rfl
  have e := e.trans (p_spec_PlaneOf_eq l_list plane)
  have g0 := Grow.refl H
  refine T_spec_l02Integers_i ⟨_, (i_list.grow g0), (by first | omega | (simp only [List.length_set, List.length_replicate, List.length_append, List.length_cons, List.length_nil, List.length_take, List.length_drop, marks_length]; done) | (simp only [List.length_set, List.length_replicate, List.length_append, List.length_cons, List.length_nil, List.length_take, List.length_drop, marks_length]; omega)), ?_⟩
  refine Br.intro (fun c_1 => ?_) (fun c_1 => ?_)
  · have e := e.trans (cond_t c_1)
    have c_1n := nf_of_t c_1
    rw [e] at hk
    exact hk _ _ _ H g0 (OwnS.nil _ _ _ _)
  · have e := e.trans (cond_f c_1)
    have c_1n := nt_of_f c_1
    refine T_spec_l00In_i ?_
    refine Br.intro (fun c_2 => ?_) (fun c_2 => ?_)
    · have e := e.trans (cond_t c_2)
      have c_2n := nf_of_t c_2
      rw [e] at hk
      exact hk _ _ _ H g0 (OwnS.nil _ _ _ _)
    · have e := e.trans (cond_f c_2)
      have c_2n := nt_of_f c_2
      have c_2n' := spec_l00In_t c_2n
      refine Al.intro (fun b_3 H_1 hb_4 hl_5 g_6 o_7 => ?_)
      have o_7 : Own H_1 b_3 ((([] : List Bool)).map fB) := o_7
      have l_9 := g_6.1
      have g_10 := g0.trans g_6
      have l_11 := g_10.1
      have w_49 := o_7.lt
      refine spec_PlaneOf_L1 _ _ _ _ _ _ _ (fun (μ : Nat) (vout_a : Option Addr) (vout_n : Nat) (vout_e : Nat) (i : Int) (H_2 : AHeap) => ∃ (l_vout : List Bool), ∃ (b_12 : Nat), vout_a = some ⟨b_12, 0, none⟩ ∧ vout_n = l_vout.length ∧ vout_e = 1 ∧ Own H_2 b_12 (l_vout.map fB) ∧ Grow H H_2 ∧ H.length ≤ b_12 ∧ (0 : Int) ≤ i ∧ i ≤ (l_list.length : Int) ∧ (l_vout.length : Int) ≤ i - (0 : Int) + 0 ∧ (l_list.length : Int) - i ≤ (μ : Int) ∧ p_spec_PlaneOf l_list plane = p_spec_PlaneOf_l1 l_list plane (μ + 1) l_vout i) (Int.toNat ((l_list.length : Int) - (0 : Int))) _ _ _ _ _ _ _ _ _ _ _ _ _ _ _ _ _ _ _ H_1 ?_ ?_
      · exact ⟨_, _, rfl, (by first | rfl | omega | (simp only [List.length_set]; done) | (simp only [List.length_set, List.length_replicate]; omega)), rfl, o_7, g_10, (by omega), (by first | omega | (simp; done) | (simp; omega)), (by first | omega | (simp; done) | (simp; omega)), (by first | omega | (simp; done) | (simp; omega)), (by omega), e⟩
      · intro μ vout_a vout_n vout_e i g17 g18 g19 g20 g21 g22 g23 g24 g25 g26 g27 g28 g29 g30 g31 H_2 hI
        obtain ⟨l_vout, b_12, rfl, rfl, rfl, o_13, g_14, l_15, v_16, v_17, v_18, hμ, e⟩ := hI
        rw [spec_PlaneOf_r1]
        have e := e.trans (p_spec_PlaneOf_l1_s l_list plane μ l_vout i)
        have w_19 := o_13.lt
        have l_20 := g_14.1
        refine Br.intro (fun c_21 => ?_) (fun c_21 => ?_)
        · have e := e.trans (cond_t c_21)
          have c_21' := of_decide_eq_true c_21
          obtain ⟨b_22, f_23, q_24⟩ := ((i_list.grow g_14)).pos (by first | omega | (simp only [List.length_set, List.length_replicate, List.length_append, List.length_cons, List.length_nil, List.length_take, List.length_drop, marks_length]; done) | (simp only [List.length_set, List.length_replicate, List.length_append, List.length_cons, List.length_nil, List.length_take, List.length_drop, marks_length]; omega))
          refine ⟨by omega, by omega, b_22, f_23, q_24, ?_⟩
          refine ⟨((l_list).getD (i : Int).toNat 0), (i_list).rd g_14 q_24 (by omega) _, ?_⟩
          refine T_spec_l06Digit_i ?_
          refine Al.intro (fun b_25 H_3 hb_26 hl_27 g_28 o_29 => ?_)
          have o_29 : Own H_3 b_25 (([((p_spec_l06Digit (((l_list).getD (i : Int).toNat 0)) plane))]).map fB) := o_29
          have l_31 := g_28.1
          have g_32 := g_14.trans g_28
          have l_33 := g_32.1
          have o_34 := o_13.grow g_28
          have w_35 := o_34.lt
          have w_48 := o_29.lt
          refine ⟨_, _, o_34.ownB (by first | (simp only [List.length_map, List.length_cons, List.length_nil, List.length_append]; done) | (simp only [List.length_map, List.length_cons, List.length_nil, List.length_append]; omega)) rfl, (isl_rdS (o_29.isL (by first | rfl | omega | (simp only [List.length_set]; done) | (simp only [List.length_set, List.length_replicate]; omega)))), (fun h => by cases h), (by have := most_eq; omega), ?_⟩
          refine Ap.app o_34 rfl rfl (fun b_40 H_4 q_46 hl_36 o_37 k_38 => ?_)
          have o_37 := map_snoc o_37
          have l_41 := k_38.1
          have g_42 := g_32.keep (b := b_12) (by omega) k_38
          have l_43 := g_42.1
          have o_44 := o_29.keep (by omega) k_38
          have w_45 := o_44.lt
          have w_47 := o_37.lt
          rw [show IntKind.wrap .i64 (i + 1) = (i + 1) from wrap64 (by omega) (by omega)]
          refine spec_PlaneOf_n1 (μ - 1) (by omega) ⟨_, _, rfl, (by first | (simp only [List.length_append, List.length_cons, List.length_nil]; done) | (simp only [List.length_append, List.length_cons, List.length_nil]; omega) | (simp only [List.length_append, List.length_cons, List.length_nil, List.length_take, List.length_drop]; omega)), rfl, o_37, g_42, (by omega), (by first | omega | (simp only [List.length_append, List.length_cons, List.length_nil, List.length_set]; done) | (simp only [List.length_append, List.length_cons, List.length_nil, List.length_set]; omega)), (by first | omega | (simp only [List.length_append, List.length_cons, List.length_nil, List.length_set]; done) | (simp only [List.length_append, List.length_cons, List.length_nil, List.length_set]; omega)), (by first | omega | (simp only [List.length_append, List.length_cons, List.length_nil, List.length_set]; done) | (simp only [List.length_append, List.length_cons, List.length_nil, List.length_set]; omega)), (by omega), (by rw [show μ - 1 + 1 = μ from by omega]; exact e)⟩
        · have e := e.trans (cond_f c_21)
          have c_21' := of_decide_eq_false c_21
          rw [spec_PlaneOf_x1_0]
          rw [e] at hk
          exact hk _ _ _ H_2 g_14 (o_13.ownS (by first | rfl | omega | (simp only [List.length_set]; done) | (simp only [List.length_set, List.length_replicate]; omega)) (by omega))
theorem spec_PlaneOf_ok : FnOk Try.prog 44 S_spec_PlaneOf := by
  refine FnOk.body mix_ok E_spec_PlaneOf_ok Try.func44 rfl (by kernel_rfl) (by kernel_rfl) ?_ ?_ ?_ ?_ ?_
  · intro args H K K' h hk
    simp only [S_spec_PlaneOf] at *
    unfold F_spec_PlaneOf at *
    split at hk
    · obtain ⟨l_list, i_list, bd_50, k⟩ := hk
      exact ⟨l_list, i_list, bd_50, (fun r1_a r1_n r1_e H' gg ow0 => h _ _ (k r1_a r1_n r1_e H' gg ow0))⟩
    · exact hk.elim
  · intro hq; cases hq
  · intro args H K hk
    simp only [S_spec_PlaneOf] at *
    unfold F_spec_PlaneOf at *
    split at hk
    · obtain ⟨l_list, i_list, bd_50, k⟩ := hk
      exact liveS fun a n e H1 g o => ⟨_, _, k a n e H1 g o⟩
    · exact hk.elim
  · intro _ args H K hk
    simp only [S_spec_PlaneOf] at *
    unfold F_spec_PlaneOf at *
    split at hk
    · obtain ⟨l_list, i_list, bd_50, k⟩ := hk
      exact ⟨l_list, i_list, bd_50, (fun r1_a r1_n r1_e H' gg ow0 => ⟨gg, k r1_a r1_n r1_e H' gg ow0⟩)⟩
    · exact hk.elim
  · have mm := @spec_PlaneOf_main
    revert mm
    generalize bodyK Try.prog E_spec_PlaneOf Try.f44 = Q
    intro mm args H K hk
    simp only [S_spec_PlaneOf] at *
    unfold F_spec_PlaneOf at *
    split at hk
    · exact mm _ _ _ _ H K hk
    · exact hk.elim
def p_impl_within (n : Int) (low : Int) (high : Int) : Bool := (bif decide ((low : Int) ≤ n) then decide ((n : Int) ≤ high) else false)
theorem p_impl_within_eq (n : Int) (low : Int) (high : Int) : p_impl_within n low high = (bif decide ((low : Int) ≤ n) then decide ((n : Int) ≤ high) else false) := rfl
def T_impl_within (n : Int) (low : Int) (high : Int) (H : AHeap) (K : Bool → AHeap → Prop) : Prop := K (p_impl_within n low high) H
theorem impl_within_t {n a b : Int} (h : p_impl_within n a b = true) : a ≤ n ∧ n ≤ b := by
  unfold p_impl_within at h
  by_cases h1 : a ≤ n
  · rw [decide_eq_true h1, cond_true] at h; exact ⟨h1, of_decide_eq_true h⟩
  · rw [decide_eq_false h1] at h; cases h
theorem T_impl_within_i {n : Int} {low : Int} {high : Int} {H : AHeap} {K : Bool → AHeap → Prop} (h : K (p_impl_within n low high) H) : T_impl_within n low high H K := h
/-! impl_within: function 53 -/
def E_impl_within : Env := envOf []
def F_impl_within : List Value → AHeap → (Value → AHeap → Prop) → Prop
  | [.int .i64 n, .int .i64 low, .int .i64 high], H, K => T_impl_within n low high H fun (r1 : Bool) (H' : AHeap) => K (.bool r1) H'
  | _, _, _ => False
def S_impl_within : FSpec := { F := F_impl_within, quiet := true, tame := false }
theorem impl_within_vc (n : Int) (low : Int) (high : Int) (H : AHeap) (K : Value → AHeap → Prop) : bodyK Try.prog E_impl_within Try.f53 [.int .i64 n, .int .i64 low, .int .i64 high] H K =
  (Br (decide ((low : Int) ≤ n)) (K (.bool (decide ((n : Int) ≤ high))) H) (K (.bool false) H)) := by kernel_rfl
theorem E_impl_within_ok : ∀ g, FnOk Try.prog g (E_impl_within g) := FnOk.envOf (by
  intro x hx; cases hx)
set_option maxHeartbeats 1000000 in
theorem impl_within_main (n : Int) (low : Int) (high : Int) (H : AHeap) (K : Value → AHeap → Prop) (h : T_impl_within n low high H fun (r1 : Bool) (H' : AHeap) => K (.bool r1) H') : bodyK Try.prog E_impl_within Try.f53 [.int .i64 n, .int .i64 low, .int .i64 high] H K := by
  rw [impl_within_vc]
  unfold T_impl_within p_impl_within at h
  repeat' (first | exact h | (exfalso; simp_all; done) | (refine ⟨by decide, ?_⟩) | (refine Br.intro (fun hb => ?_) (fun hb => ?_) <;> (try simp only [hb, cond_true, cond_false, Bool.not_true, Bool.not_false] at h)))
theorem impl_within_ok : FnOk Try.prog 53 S_impl_within := by
  refine FnOk.body mix_ok E_impl_within_ok Try.func53 rfl (by kernel_rfl) (by kernel_rfl) ?_ ?_ ?_ ?_ ?_
  · intro args H K K' h hk
    simp only [S_impl_within] at *
    unfold F_impl_within at *
    split at hk
    · have k := hk
      exact h _ _ k
    · exact hk.elim
  · intro _ args H K hk
    simp only [S_impl_within] at *
    unfold F_impl_within at *
    split at hk
    · have k := hk
      exact ⟨_, k, fun K' k' => k'⟩
    · exact hk.elim
  · intro args H K hk
    simp only [S_impl_within] at *
    unfold F_impl_within at *
    split at hk
    · have k := hk
      exact ⟨_, _, k⟩
    · exact hk.elim
  · intro hq; cases hq
  · have mm := @impl_within_main
    revert mm
    generalize bodyK Try.prog E_impl_within Try.f53 = Q
    intro mm args H K hk
    simp only [S_impl_within] at *
    unfold F_impl_within at *
    split at hk
    · exact mm _ _ _ H K hk
    · exact hk.elim
def p_impl_areWithin_l1 (l_list : List Int) (vmost : Int) : Nat → Bool → Int → Bool
  | 0, _, _ => false
  | μ + 1, t4, t9 => (bif decide ((t9 : Int) < (l_list.length : Int)) then (bif !((p_impl_within (((l_list).getD (t9 : Int).toNat 0)) (IntKind.wrap .i64 (0 - vmost)) vmost)) then false else (p_impl_areWithin_l1 l_list vmost μ t4 (t9 + 1))) else true)
theorem p_impl_areWithin_l1_s (l_list : List Int) (vmost : Int) (μ : Nat) (t4 : Bool) (t9 : Int) : p_impl_areWithin_l1 l_list vmost (μ + 1) t4 t9 = (bif decide ((t9 : Int) < (l_list.length : Int)) then (bif !((p_impl_within (((l_list).getD (t9 : Int).toNat 0)) (IntKind.wrap .i64 (0 - vmost)) vmost)) then false else (p_impl_areWithin_l1 l_list vmost μ t4 (t9 + 1))) else true) := rfl
def p_impl_areWithin (l_list : List Int) (vmost : Int) : Bool := (p_impl_areWithin_l1 l_list vmost (Int.toNat ((l_list.length : Int) - (0 : Int)) + 1) false (0 : Int))
theorem p_impl_areWithin_eq (l_list : List Int) (vmost : Int) : p_impl_areWithin l_list vmost = (p_impl_areWithin_l1 l_list vmost (Int.toNat ((l_list.length : Int) - (0 : Int)) + 1) false (0 : Int)) := rfl
def T_impl_areWithin (list_a : Option Addr) (list_n : Nat) (list_e : Nat) (vmost : Int) (H : AHeap) (K : Bool → AHeap → Prop) : Prop := ∃ (l_list : List Int), IsL fI H list_a list_n l_list ∧ l_list.length < 1073741824 ∧ K (p_impl_areWithin l_list vmost) H
theorem T_impl_areWithin_i {list_a : Option Addr} {list_n : Nat} {list_e : Nat} {vmost : Int} {H : AHeap} {K : Bool → AHeap → Prop} (h : ∃ (l_list : List Int), IsL fI H list_a list_n l_list ∧ l_list.length < 1073741824 ∧ K (p_impl_areWithin l_list vmost) H) : T_impl_areWithin list_a list_n list_e vmost H K := h

/-! impl_areWithin: function 82 -/
def E_impl_areWithin : Env := envOf [(53, S_impl_within)]
def F_impl_areWithin : List Value → AHeap → (Value → AHeap → Prop) → Prop
  | [.slice list_a list_n list_e, .int .i64 vmost], H, K => T_impl_areWithin list_a list_n list_e vmost H fun (r1 : Bool) (H' : AHeap) => K (.bool r1) H'
  | _, _, _ => False
def S_impl_areWithin : FSpec := { F := F_impl_areWithin, quiet := true, tame := false }
theorem impl_areWithin_vc (list_a : Option Addr) (list_n : Nat) (list_e : Nat) (vmost : Int) (H : AHeap) (K : Value → AHeap → Prop) : bodyK Try.prog E_impl_areWithin Try.f82 [.slice list_a list_n list_e, .int .i64 vmost] H K =
  (loopK (exK Try.prog E_impl_areWithin (cl (cl (cr (cl (cr (bodyC Try.f82))))))) [.slice list_a list_n list_e, .int .i64 vmost, undef, undef, .bool false, undef, undef, .slice list_a list_n list_e, .int .i64 (list_n : Int), .int .i64 0, undef, undef, undef, undef, undef, undef, undef, undef, undef, undef] H (blockQ 0 (seqQ (exK Try.prog E_impl_areWithin (cr (cr (bodyC Try.f82)))) (retK Try.prog Try.f82 K)))) := by kernel_rfl
theorem impl_areWithin_r1 (list_a : Option Addr) (list_e : Nat) (list_n : Nat) (vmost : Int) (t4 : Bool) (t9 : Int) (g6 g10 g11 g12 g13 g14 g15 g16 g17 g18 g19 : Value) (H : AHeap) (R : Post) : exK Try.prog E_impl_areWithin (cl (cl (cr (cl (cr (bodyC Try.f82)))))) [.slice list_a list_n list_e, .int .i64 vmost, undef, undef, .bool t4, undef, g6, .slice list_a list_n list_e, .int .i64 (list_n : Int), .int .i64 t9, g10, g11, g12, g13, g14, g15, g16, g17, g18, g19] H R =
  (Br (decide ((t9 : Int) < (list_n : Int))) ((0 : Int) ≤ t9 ∧ t9 < (list_n : Int) ∧ ∃ b1 f1, (list_a : Option Addr) = some ⟨b1, f1, none⟩ ∧ ∃ x1 : Int,  rdC H b1 (f1 + (t9 : Int).toNat * 1) = some (.int .i64 x1) ∧ T_impl_within x1 (IntKind.wrap .i64 (0 - vmost)) vmost H fun (r1 : Bool) (H1 : AHeap) => Br (!r1) (R .ret [.slice list_a list_n list_e, .int .i64 vmost, undef, undef, .bool false, undef, .int .i64 x1, .slice list_a list_n list_e, .int .i64 (list_n : Int), .int .i64 t9, .bool (decide ((t9 : Int) < (list_n : Int))), .pointer (some ⟨b1, f1 + (t9 : Int).toNat * 1, none⟩), .int .i64 x1, .int .i64 x1, .int .i64 vmost, .int .i64 (IntKind.wrap .i64 (0 - vmost)), .int .i64 vmost, .bool r1, .bool (!r1), g19] H1) (R .normal [.slice list_a list_n list_e, .int .i64 vmost, undef, undef, .bool t4, undef, .int .i64 x1, .slice list_a list_n list_e, .int .i64 (list_n : Int), .int .i64 (IntKind.wrap .i64 (t9 + 1)), .bool (decide ((t9 : Int) < (list_n : Int))), .pointer (some ⟨b1, f1 + (t9 : Int).toNat * 1, none⟩), .int .i64 x1, .int .i64 x1, .int .i64 vmost, .int .i64 (IntKind.wrap .i64 (0 - vmost)), .int .i64 vmost, .bool r1, .bool (!r1), .int .i64 (IntKind.wrap .i64 (t9 + 1))] H1)) (R (.exit 0) [.slice list_a list_n list_e, .int .i64 vmost, undef, undef, .bool t4, undef, g6, .slice list_a list_n list_e, .int .i64 (list_n : Int), .int .i64 t9, .bool (decide ((t9 : Int) < (list_n : Int))), g11, g12, g13, g14, g15, g16, g17, g18, g19] H)) := by kernel_rfl
def impl_areWithin_I1 (list_a : Option Addr) (list_e : Nat) (list_n : Nat) (vmost : Int) (Inv : Nat → Bool → Int → AHeap → Prop) : Nat → List Value → AHeap → Prop := fun μ tm H => ∃ (t4 : Bool), ∃ (t9 : Int), ∃ g6 g10 g11 g12 g13 g14 g15 g16 g17 g18 g19, tm = [.slice list_a list_n list_e, .int .i64 vmost, undef, undef, .bool t4, undef, g6, .slice list_a list_n list_e, .int .i64 (list_n : Int), .int .i64 t9, g10, g11, g12, g13, g14, g15, g16, g17, g18, g19] ∧ Inv μ t4 t9 H
theorem impl_areWithin_L1 (list_a : Option Addr) (list_e : Nat) (list_n : Nat) (vmost : Int) {Q : Post} (Inv : Nat → Bool → Int → AHeap → Prop) (ν : Nat) (t4 : Bool) (t9 : Int) (g6 g10 g11 g12 g13 g14 g15 g16 g17 g18 g19 : Value) (H : AHeap) (h0 : Inv ν t4 t9 H)
    (hs : ∀ (μ : Nat) (t4 : Bool) (t9 : Int) (g6 g10 g11 g12 g13 g14 g15 g16 g17 g18 g19 : Value) (H : AHeap), Inv μ t4 t9 H → exK Try.prog E_impl_areWithin (cl (cl (cr (cl (cr (bodyC Try.f82)))))) [.slice list_a list_n list_e, .int .i64 vmost, undef, undef, .bool t4, undef, g6, .slice list_a list_n list_e, .int .i64 (list_n : Int), .int .i64 t9, g10, g11, g12, g13, g14, g15, g16, g17, g18, g19] H (loopQ (impl_areWithin_I1 list_a list_e list_n vmost Inv) μ Q)) : loopK (exK Try.prog E_impl_areWithin (cl (cl (cr (cl (cr (bodyC Try.f82))))))) [.slice list_a list_n list_e, .int .i64 vmost, undef, undef, .bool t4, undef, g6, .slice list_a list_n list_e, .int .i64 (list_n : Int), .int .i64 t9, g10, g11, g12, g13, g14, g15, g16, g17, g18, g19] H Q :=
  ⟨impl_areWithin_I1 list_a list_e list_n vmost Inv, ν, ⟨t4, t9, g6, g10, g11, g12, g13, g14, g15, g16, g17, g18, g19, rfl, h0⟩, fun μ tm H h => by obtain ⟨t4, t9, g6, g10, g11, g12, g13, g14, g15, g16, g17, g18, g19, rfl, hI⟩ := h; exact hs μ t4 t9 g6 g10 g11 g12 g13 g14 g15 g16 g17 g18 g19 H hI⟩
theorem impl_areWithin_n1 {list_a : Option Addr} {list_e : Nat} {list_n : Nat} {vmost : Int} {Q : Post} {Inv : Nat → Bool → Int → AHeap → Prop} {μ : Nat} (μ' : Nat) {t4 : Bool} {t9 : Int} {g6 g10 g11 g12 g13 g14 g15 g16 g17 g18 g19 : Value} {H : AHeap} (hm : μ' < μ) (hI : Inv μ' t4 t9 H) : loopQ (impl_areWithin_I1 list_a list_e list_n vmost Inv) μ Q .normal [.slice list_a list_n list_e, .int .i64 vmost, undef, undef, .bool t4, undef, g6, .slice list_a list_n list_e, .int .i64 (list_n : Int), .int .i64 t9, g10, g11, g12, g13, g14, g15, g16, g17, g18, g19] H := ⟨μ', hm, t4, t9, g6, g10, g11, g12, g13, g14, g15, g16, g17, g18, g19, rfl, hI⟩
theorem impl_areWithin_x1_0 (list_a : Option Addr) (list_e : Nat) (list_n : Nat) (vmost : Int) (t4 : Bool) (t9 : Int) (g6 g10 g11 g12 g13 g14 g15 g16 g17 g18 g19 : Value) (H : AHeap) (K : Value → AHeap → Prop)  {I : Nat → List Value → AHeap → Prop} {μ : Nat} : loopQ I μ (blockQ 0 (seqQ (exK Try.prog E_impl_areWithin (cr (cr (bodyC Try.f82)))) (retK Try.prog Try.f82 K))) (.exit 0) [.slice list_a list_n list_e, .int .i64 vmost, undef, undef, .bool t4, undef, g6, .slice list_a list_n list_e, .int .i64 (list_n : Int), .int .i64 t9, g10, g11, g12, g13, g14, g15, g16, g17, g18, g19] H =
  (K (.bool true) H) := by kernel_rfl
theorem impl_areWithin_x1_ret (list_a : Option Addr) (list_e : Nat) (list_n : Nat) (vmost : Int) (t4 : Bool) (t9 : Int) (g6 g10 g11 g12 g13 g14 g15 g16 g17 g18 g19 : Value) (H : AHeap) (K : Value → AHeap → Prop)  {I : Nat → List Value → AHeap → Prop} {μ : Nat} : loopQ I μ (blockQ 0 (seqQ (exK Try.prog E_impl_areWithin (cr (cr (bodyC Try.f82)))) (retK Try.prog Try.f82 K))) .ret [.slice list_a list_n list_e, .int .i64 vmost, undef, undef, .bool t4, undef, g6, .slice list_a list_n list_e, .int .i64 (list_n : Int), .int .i64 t9, g10, g11, g12, g13, g14, g15, g16, g17, g18, g19] H =
  (K (.bool t4) H) := by kernel_rfl
theorem E_impl_areWithin_ok : ∀ g, FnOk Try.prog g (E_impl_areWithin g) := FnOk.envOf (by
  intro x hx
  simp only [List.mem_cons, List.not_mem_nil, or_false] at hx
  subst hx; exact impl_within_ok)
set_option maxHeartbeats 1000000 in
theorem impl_areWithin_main (list_a : Option Addr) (list_n : Nat) (list_e : Nat) (vmost : Int) (H : AHeap) (K : Value → AHeap → Prop) (h : T_impl_areWithin list_a list_n list_e vmost H fun (r1 : Bool) (H' : AHeap) => K (.bool r1) H') : bodyK Try.prog E_impl_areWithin Try.f82 [.slice list_a list_n list_e, .int .i64 vmost] H K := by
  rw [impl_areWithin_vc]
  obtain ⟨l_list, i_list, bd_9, hk⟩ := h
  obtain rfl := i_list.eqn
  have e : (p_impl_areWithin l_list vmost) = _ := rfl
  have e := e.trans (p_impl_areWithin_eq l_list vmost)
  have g0 := Grow.refl H
  refine impl_areWithin_L1 _ _ _ _ (fun (μ : Nat) (t4 : Bool) (t9 : Int) (H_1 : AHeap) => H = H_1 ∧ (0 : Int) ≤ t9 ∧ t9 ≤ (l_list.length : Int) ∧ (l_list.length : Int) - t9 ≤ (μ : Int) ∧ p_impl_areWithin l_list vmost = p_impl_areWithin_l1 l_list vmost (μ + 1) t4 t9) (Int.toNat ((l_list.length : Int) - (0 : Int))) _ _ _ _ _ _ _ _ _ _ _ _ _ H ?_ ?_
  · exact ⟨rfl, (by first | omega | (simp; done) | (simp; omega)), (by first | omega | (simp; done) | (simp; omega)), (by omega), e⟩
  · intro μ t4 t9 g6 g10 g11 g12 g13 g14 g15 g16 g17 g18 g19 H_1 hI
    obtain ⟨rfl, v_1, v_2, hμ, e⟩ := hI
    rw [impl_areWithin_r1]
    have e := e.trans (p_impl_areWithin_l1_s l_list vmost μ t4 t9)
    have l_3 := g0.1
    refine Br.intro (fun c_4 => ?_) (fun c_4 => ?_)
    · have e := e.trans (cond_t c_4)
      have c_4' := of_decide_eq_true c_4
      obtain ⟨b_5, f_6, q_7⟩ := ((i_list.grow g0)).pos (by first | omega | (simp only [List.length_set, List.length_replicate, List.length_append, List.length_cons, List.length_nil, List.length_take, List.length_drop, marks_length]; done) | (simp only [List.length_set, List.length_replicate, List.length_append, List.length_cons, List.length_nil, List.length_take, List.length_drop, marks_length]; omega))
      refine ⟨by omega, by omega, b_5, f_6, q_7, ?_⟩
      refine ⟨((l_list).getD (t9 : Int).toNat 0), (i_list).rd g0 q_7 (by omega) _, ?_⟩
      refine T_impl_within_i ?_
      refine Br.intro (fun c_8 => ?_) (fun c_8 => ?_)
      · have e := e.trans (cond_t c_8)
        have c_8n := nf_of_t c_8
        rw [impl_areWithin_x1_ret]
        rw [e] at hk
        exact hk
      · have e := e.trans (cond_f c_8)
        have c_8n := nt_of_f c_8
        have c_8n' := impl_within_t c_8n
        rw [show IntKind.wrap .i64 (t9 + 1) = (t9 + 1) from wrap64 (by omega) (by omega)]
        refine impl_areWithin_n1 (μ - 1) (by omega) ⟨rfl, (by first | omega | (simp only [List.length_append, List.length_cons, List.length_nil, List.length_set]; done) | (simp only [List.length_append, List.length_cons, List.length_nil, List.length_set]; omega)), (by first | omega | (simp only [List.length_append, List.length_cons, List.length_nil, List.length_set]; done) | (simp only [List.length_append, List.length_cons, List.length_nil, List.length_set]; omega)), (by omega), (by rw [show μ - 1 + 1 = μ from by omega]; exact e)⟩
    · have e := e.trans (cond_f c_4)
      have c_4' := of_decide_eq_false c_4
      rw [impl_areWithin_x1_0]
      rw [e] at hk
      exact hk
theorem impl_areWithin_ok : FnOk Try.prog 82 S_impl_areWithin := by
  refine FnOk.body mix_ok E_impl_areWithin_ok Try.func82 rfl (by kernel_rfl) (by kernel_rfl) ?_ ?_ ?_ ?_ ?_
  · intro args H K K' h hk
    simp only [S_impl_areWithin] at *
    unfold F_impl_areWithin at *
    split at hk
    · obtain ⟨l_list, i_list, bd_9, k⟩ := hk
      exact ⟨l_list, i_list, bd_9, h _ _ k⟩
    · exact hk.elim
  · intro _ args H K hk
    simp only [S_impl_areWithin] at *
    unfold F_impl_areWithin at *
    split at hk
    · obtain ⟨l_list, i_list, bd_9, k⟩ := hk
      exact ⟨_, k, fun K' k' => ⟨l_list, i_list, bd_9, k'⟩⟩
    · exact hk.elim
  · intro args H K hk
    simp only [S_impl_areWithin] at *
    unfold F_impl_areWithin at *
    split at hk
    · obtain ⟨l_list, i_list, bd_9, k⟩ := hk
      exact ⟨_, _, k⟩
    · exact hk.elim
  · intro hq; cases hq
  · have mm := @impl_areWithin_main
    revert mm
    generalize bodyK Try.prog E_impl_areWithin Try.f82 = Q
    intro mm args H K hk
    simp only [S_impl_areWithin] at *
    unfold F_impl_areWithin at *
    split at hk
    · exact mm _ _ _ _ H K hk
    · exact hk.elim
def p_impl_AreIntegers (l_list : List Int) : Bool := (bif (p_impl_within (l_list.length : Int) (1 : Int) (128 : Int)) then (p_impl_areWithin l_list (1000000 : Int)) else false)
theorem p_impl_AreIntegers_eq (l_list : List Int) : p_impl_AreIntegers l_list = (bif (p_impl_within (l_list.length : Int) (1 : Int) (128 : Int)) then (p_impl_areWithin l_list (1000000 : Int)) else false) := rfl
def T_impl_AreIntegers (list_a : Option Addr) (list_n : Nat) (list_e : Nat) (H : AHeap) (K : Bool → AHeap → Prop) : Prop := ∃ (l_list : List Int), IsL fI H list_a list_n l_list ∧ l_list.length < 1073741824 ∧ K (p_impl_AreIntegers l_list) H
theorem T_impl_AreIntegers_i {list_a : Option Addr} {list_n : Nat} {list_e : Nat} {H : AHeap} {K : Bool → AHeap → Prop} (h : ∃ (l_list : List Int), IsL fI H list_a list_n l_list ∧ l_list.length < 1073741824 ∧ K (p_impl_AreIntegers l_list) H) : T_impl_AreIntegers list_a list_n list_e H K := h

/-! impl_AreIntegers: function 66 -/
def E_impl_AreIntegers : Env := envOf [(53, S_impl_within), (82, S_impl_areWithin)]
def F_impl_AreIntegers : List Value → AHeap → (Value → AHeap → Prop) → Prop
  | [.slice list_a list_n list_e], H, K => T_impl_AreIntegers list_a list_n list_e H fun (r1 : Bool) (H' : AHeap) => K (.bool r1) H'
  | _, _, _ => False
def S_impl_AreIntegers : FSpec := { F := F_impl_AreIntegers, quiet := true, tame := false }
theorem impl_AreIntegers_vc (list_a : Option Addr) (list_n : Nat) (list_e : Nat) (H : AHeap) (K : Value → AHeap → Prop) : bodyK Try.prog E_impl_AreIntegers Try.f66 [.slice list_a list_n list_e] H K =
  (T_impl_within (list_n : Int) 1 128 H fun (r1 : Bool) (H1 : AHeap) => Br r1 (T_impl_areWithin list_a list_n list_e 1000000 H1 fun (r2 : Bool) (H2 : AHeap) => K (.bool r2) H2) (K (.bool false) H1)) := by kernel_rfl
theorem E_impl_AreIntegers_ok : ∀ g, FnOk Try.prog g (E_impl_AreIntegers g) := FnOk.envOf (by
  intro x hx
  simp only [List.mem_cons, List.not_mem_nil, or_false] at hx
  rcases hx with rfl | rfl
  · exact impl_within_ok
  · exact impl_areWithin_ok)
set_option maxHeartbeats 1000000 in
theorem impl_AreIntegers_main (list_a : Option Addr) (list_n : Nat) (list_e : Nat) (H : AHeap) (K : Value → AHeap → Prop) (h : T_impl_AreIntegers list_a list_n list_e H fun (r1 : Bool) (H' : AHeap) => K (.bool r1) H') : bodyK Try.prog E_impl_AreIntegers Try.f66 [.slice list_a list_n list_e] H K := by
  rw [impl_AreIntegers_vc]
  obtain ⟨l_list, i_list, bd_2, hk⟩ := h
  obtain rfl := i_list.eqn
  have e : (p_impl_AreIntegers l_list) = _ := rfl
  have e := e.trans (p_impl_AreIntegers_eq l_list)
  have g0 := Grow.refl H
  refine T_impl_within_i ?_
  refine Br.intro (fun c_1 => ?_) (fun c_1 => ?_)
  · have e := e.trans (cond_t c_1)
    have c_1' := impl_within_t c_1
    refine T_impl_areWithin_i ⟨_, (i_list.grow g0), (by first | omega | (simp only [List.length_set, List.length_replicate, List.length_append, List.length_cons, List.length_nil, List.length_take, List.length_drop, marks_length]; done) | (simp only [List.length_set, List.length_replicate, List.length_append, List.length_cons, List.length_nil, List.length_take, List.length_drop, marks_length]; omega)), ?_⟩
    rw [e] at hk
    exact hk
  · have e := e.trans (cond_f c_1)
    rw [e] at hk
    exact hk
theorem impl_AreIntegers_ok : FnOk Try.prog 66 S_impl_AreIntegers := by
  refine FnOk.body mix_ok E_impl_AreIntegers_ok Try.func66 rfl (by kernel_rfl) (by kernel_rfl) ?_ ?_ ?_ ?_ ?_
  · intro args H K K' h hk
    simp only [S_impl_AreIntegers] at *
    unfold F_impl_AreIntegers at *
    split at hk
    · obtain ⟨l_list, i_list, bd_2, k⟩ := hk
      exact ⟨l_list, i_list, bd_2, h _ _ k⟩
    · exact hk.elim
  · intro _ args H K hk
    simp only [S_impl_AreIntegers] at *
    unfold F_impl_AreIntegers at *
    split at hk
    · obtain ⟨l_list, i_list, bd_2, k⟩ := hk
      exact ⟨_, k, fun K' k' => ⟨l_list, i_list, bd_2, k'⟩⟩
    · exact hk.elim
  · intro args H K hk
    simp only [S_impl_AreIntegers] at *
    unfold F_impl_AreIntegers at *
    split at hk
    · obtain ⟨l_list, i_list, bd_2, k⟩ := hk
      exact ⟨_, _, k⟩
    · exact hk.elim
  · intro hq; cases hq
  · have mm := @impl_AreIntegers_main
    revert mm
    generalize bodyK Try.prog E_impl_AreIntegers Try.f66 = Q
    intro mm args H K hk
    simp only [S_impl_AreIntegers] at *
    unfold F_impl_AreIntegers at *
    split at hk
    · exact mm _ _ _ H K hk
    · exact hk.elim
def p_impl_far (n : Int) : Int := (if (IntKind.wrap .i64 (0 - n) : Int) > n then IntKind.wrap .i64 (0 - n) else n)
theorem p_impl_far_eq (n : Int) : p_impl_far n = (if (IntKind.wrap .i64 (0 - n) : Int) > n then IntKind.wrap .i64 (0 - n) else n) := rfl
def T_impl_far (n : Int) (H : AHeap) (K : Int → AHeap → Prop) : Prop := K (p_impl_far n) H

theorem T_impl_far_i {n : Int} {H : AHeap} {K : Int → AHeap → Prop} (h : K (p_impl_far n) H) : T_impl_far n H K := h
/-! impl_far: function 85 -/
def E_impl_far : Env := envOf []
def F_impl_far : List Value → AHeap → (Value → AHeap → Prop) → Prop
  | [.int .i64 n], H, K => T_impl_far n H fun (r1 : Int) (H' : AHeap) => K (.int .i64 r1) H'
  | _, _, _ => False
def S_impl_far : FSpec := { F := F_impl_far, quiet := true, tame := false }
theorem impl_far_vc (n : Int) (H : AHeap) (K : Value → AHeap → Prop) : bodyK Try.prog E_impl_far Try.f85 [.int .i64 n] H K =
  (K (.int .i64 ((if (IntKind.wrap .i64 (0 - n) : Int) > n then IntKind.wrap .i64 (0 - n) else n))) H) := by kernel_rfl
theorem E_impl_far_ok : ∀ g, FnOk Try.prog g (E_impl_far g) := FnOk.envOf (by
  intro x hx; cases hx)
set_option maxHeartbeats 1000000 in
theorem impl_far_main (n : Int) (H : AHeap) (K : Value → AHeap → Prop) (h : T_impl_far n H fun (r1 : Int) (H' : AHeap) => K (.int .i64 r1) H') : bodyK Try.prog E_impl_far Try.f85 [.int .i64 n] H K := by
  rw [impl_far_vc]
  unfold T_impl_far p_impl_far at h
  repeat' (first | exact h | (exfalso; simp_all; done) | (refine ⟨by decide, ?_⟩) | (refine Br.intro (fun hb => ?_) (fun hb => ?_) <;> (try simp only [hb, cond_true, cond_false, Bool.not_true, Bool.not_false] at h)))
theorem impl_far_ok : FnOk Try.prog 85 S_impl_far := by
  refine FnOk.body mix_ok E_impl_far_ok Try.func85 rfl (by kernel_rfl) (by kernel_rfl) ?_ ?_ ?_ ?_ ?_
  · intro args H K K' h hk
    simp only [S_impl_far] at *
    unfold F_impl_far at *
    split at hk
    · have k := hk
      exact h _ _ k
    · exact hk.elim
  · intro _ args H K hk
    simp only [S_impl_far] at *
    unfold F_impl_far at *
    split at hk
    · have k := hk
      exact ⟨_, k, fun K' k' => k'⟩
    · exact hk.elim
  · intro args H K hk
    simp only [S_impl_far] at *
    unfold F_impl_far at *
    split at hk
    · have k := hk
      exact ⟨_, _, k⟩
    · exact hk.elim
  · intro hq; cases hq
  · have mm := @impl_far_main
    revert mm
    generalize bodyK Try.prog E_impl_far Try.f85 = Q
    intro mm args H K hk
    simp only [S_impl_far] at *
    unfold F_impl_far at *
    split at hk
    · exact mm _ H K hk
    · exact hk.elim
def p_impl_digit (n : Int) (plane : Int) : Bool := ((IntKind.wrap .i64 (((BitVec.ofInt (IntKind.bits .i64) (Int.fdiv (p_impl_far n) (2 ^ (min (plane : Int).toNat (IntKind.bits .i64)))) &&& BitVec.ofInt (IntKind.bits .i64) 1).toNat : Int)) : Int) == 1)
theorem p_impl_digit_eq (n : Int) (plane : Int) : p_impl_digit n plane = ((IntKind.wrap .i64 (((BitVec.ofInt (IntKind.bits .i64) (Int.fdiv (p_impl_far n) (2 ^ (min (plane : Int).toNat (IntKind.bits .i64)))) &&& BitVec.ofInt (IntKind.bits .i64) 1).toNat : Int)) : Int) == 1) := rfl
def T_impl_digit (n : Int) (plane : Int) (H : AHeap) (K : Bool → AHeap → Prop) : Prop := 0 ≤ plane ∧ K (p_impl_digit n plane) H
theorem T_impl_digit_i {n : Int} {plane : Int} {H : AHeap} {K : Bool → AHeap → Prop} (h : 0 ≤ plane ∧ K (p_impl_digit n plane) H) : T_impl_digit n plane H K := h

/-! impl_digit: function 72 -/
def E_impl_digit : Env := envOf [(85, S_impl_far)]
def F_impl_digit : List Value → AHeap → (Value → AHeap → Prop) → Prop
  | [.int .i64 n, .int .i64 plane], H, K => T_impl_digit n plane H fun (r1 : Bool) (H' : AHeap) => K (.bool r1) H'
  | _, _, _ => False
def S_impl_digit : FSpec := { F := F_impl_digit, quiet := true, tame := false }
theorem impl_digit_vc (n : Int) (plane : Int) (H : AHeap) (K : Value → AHeap → Prop) : bodyK Try.prog E_impl_digit Try.f72 [.int .i64 n, .int .i64 plane] H K =
  (T_impl_far n H fun (r1 : Int) (H1 : AHeap) => (0 : Int) ≤ plane ∧ K (.bool ((IntKind.wrap .i64 (((BitVec.ofInt (IntKind.bits .i64) (Int.fdiv r1 (2 ^ (min (plane : Int).toNat (IntKind.bits .i64)))) &&& BitVec.ofInt (IntKind.bits .i64) 1).toNat : Int)) : Int) == 1)) H1) := by kernel_rfl
theorem E_impl_digit_ok : ∀ g, FnOk Try.prog g (E_impl_digit g) := FnOk.envOf (by
  intro x hx
  simp only [List.mem_cons, List.not_mem_nil, or_false] at hx
  subst hx; exact impl_far_ok)
set_option maxHeartbeats 1000000 in
theorem impl_digit_main (n : Int) (plane : Int) (H : AHeap) (K : Value → AHeap → Prop) (h : T_impl_digit n plane H fun (r1 : Bool) (H' : AHeap) => K (.bool r1) H') : bodyK Try.prog E_impl_digit Try.f72 [.int .i64 n, .int .i64 plane] H K := by
  rw [impl_digit_vc]
  obtain ⟨pr0, hk⟩ := h
  have e : (p_impl_digit n plane) = _ := rfl
  have e := e.trans (p_impl_digit_eq n plane)
  have g0 := Grow.refl H
  refine T_impl_far_i ?_
  refine ⟨(by first | omega | decide | (simp; done) | (simp; omega)), ?_⟩
  rw [e] at hk
  exact hk
theorem impl_digit_ok : FnOk Try.prog 72 S_impl_digit := by
  refine FnOk.body mix_ok E_impl_digit_ok Try.func72 rfl (by kernel_rfl) (by kernel_rfl) ?_ ?_ ?_ ?_ ?_
  · intro args H K K' h hk
    simp only [S_impl_digit] at *
    unfold F_impl_digit at *
    split at hk
    · obtain ⟨pr0, k⟩ := hk
      exact ⟨pr0, h _ _ k⟩
    · exact hk.elim
  · intro _ args H K hk
    simp only [S_impl_digit] at *
    unfold F_impl_digit at *
    split at hk
    · obtain ⟨pr0, k⟩ := hk
      exact ⟨_, k, fun K' k' => ⟨pr0, k'⟩⟩
    · exact hk.elim
  · intro args H K hk
    simp only [S_impl_digit] at *
    unfold F_impl_digit at *
    split at hk
    · obtain ⟨pr0, k⟩ := hk
      exact ⟨_, _, k⟩
    · exact hk.elim
  · intro hq; cases hq
  · have mm := @impl_digit_main
    revert mm
    generalize bodyK Try.prog E_impl_digit Try.f72 = Q
    intro mm args H K hk
    simp only [S_impl_digit] at *
    unfold F_impl_digit at *
    split at hk
    · exact mm _ _ H K hk
    · exact hk.elim
def p_impl_PlaneOf_l1 (l_list : List Int) (plane : Int) : Nat → (List Bool) → Int → (List Bool) × Bool
  | 0, _, _ => ([], false)
  | μ + 1, l_vout, t20 => (bif decide ((t20 : Int) < (l_list.length : Int)) then (p_impl_PlaneOf_l1 l_list plane μ ((l_vout ++ [((p_impl_digit (((l_list).getD (t20 : Int).toNat 0)) plane))])) (t20 + 1)) else (l_vout, true))
theorem p_impl_PlaneOf_l1_s (l_list : List Int) (plane : Int) (μ : Nat) (l_vout : List Bool) (t20 : Int) : p_impl_PlaneOf_l1 l_list plane (μ + 1) l_vout t20 = (bif decide ((t20 : Int) < (l_list.length : Int)) then (p_impl_PlaneOf_l1 l_list plane μ ((l_vout ++ [((p_impl_digit (((l_list).getD (t20 : Int).toNat 0)) plane))])) (t20 + 1)) else (l_vout, true)) := rfl
def p_impl_PlaneOf (l_list : List Int) (plane : Int) : (List Bool) × Bool := (bif !(p_impl_AreIntegers l_list) then ([], false) else (bif !((p_impl_within plane (0 : Int) (23 : Int))) then ([], false) else (p_impl_PlaneOf_l1 l_list plane (Int.toNat ((l_list.length : Int) - (0 : Int)) + 1) ([] : List Bool) (0 : Int))))
theorem p_impl_PlaneOf_eq (l_list : List Int) (plane : Int) : p_impl_PlaneOf l_list plane = (bif !(p_impl_AreIntegers l_list) then ([], false) else (bif !((p_impl_within plane (0 : Int) (23 : Int))) then ([], false) else (p_impl_PlaneOf_l1 l_list plane (Int.toNat ((l_list.length : Int) - (0 : Int)) + 1) ([] : List Bool) (0 : Int)))) := rfl
def T_impl_PlaneOf (list_a : Option Addr) (list_n : Nat) (list_e : Nat) (plane : Int) (H : AHeap) (K : (Option Addr) → Nat → Nat → Bool → AHeap → Prop) : Prop := ∃ (l_list : List Int), IsL fI H list_a list_n l_list ∧ l_list.length < 1073741824 ∧ ((∀ (r1_a : Option Addr) (r1_n r1_e : Nat), ∀ H' : AHeap, Grow H H' → OwnS fB H' H.length r1_a r1_n r1_e ((p_impl_PlaneOf l_list plane).1) → K r1_a r1_n r1_e ((p_impl_PlaneOf l_list plane).2) H'))
theorem T_impl_PlaneOf_i {list_a : Option Addr} {list_n : Nat} {list_e : Nat} {plane : Int} {H : AHeap} {K : (Option Addr) → Nat → Nat → Bool → AHeap → Prop} (h : ∃ (l_list : List Int), IsL fI H list_a list_n l_list ∧ l_list.length < 1073741824 ∧ ((∀ (r1_a : Option Addr) (r1_n r1_e : Nat), ∀ H' : AHeap, Grow H H' → OwnS fB H' H.length r1_a r1_n r1_e ((p_impl_PlaneOf l_list plane).1) → K r1_a r1_n r1_e ((p_impl_PlaneOf l_list plane).2) H'))) : T_impl_PlaneOf list_a list_n list_e plane H K := h
theorem impl_PlaneOf_go (l : List Int) (plane : Int) : ∀ (μ : Nat) (o : List Bool) (i : Nat), i ≤ l.length → (p_impl_PlaneOf_l1 l plane μ o (i : Int)).1.length ≤ o.length + (l.length - i) := by
  intro μ
  induction μ with
  | zero => intro o i h; exact Nat.zero_le _
  | succ μ ih =>
    intro o i hm
    rw [p_impl_PlaneOf_l1_s]
    by_cases h : i < l.length
    · rw [decide_eq_true (show (i : Int) < (l.length : Int) by omega), cond_true]
      refine Nat.le_trans (ih _ (i + 1) (by omega)) ?_
      simp; omega
    · rw [decide_eq_false (show ¬ (i : Int) < (l.length : Int) by omega), cond_false]
      exact Nat.le_add_right _ _
theorem impl_PlaneOf_len (l : List Int) (plane : Int) : (p_impl_PlaneOf l plane).1.length ≤ l.length := by
  rw [p_impl_PlaneOf_eq]
  cases p_impl_AreIntegers l
  · exact Nat.zero_le _
  · cases p_impl_within plane 0 23
    · exact Nat.zero_le _
    · have := impl_PlaneOf_go l plane (Int.toNat ((l.length : Int) - (0 : Int)) + 1) [] 0 (Nat.zero_le _)
      simpa using this
/-! impl_PlaneOf: function 45 -/
def E_impl_PlaneOf : Env := envOf [(66, S_impl_AreIntegers), (53, S_impl_within), (72, S_impl_digit)]
def F_impl_PlaneOf : List Value → AHeap → (Value → AHeap → Prop) → Prop
  | [.slice list_a list_n list_e, .int .i64 plane], H, K => T_impl_PlaneOf list_a list_n list_e plane H fun (r1_a : Option Addr) (r1_n : Nat) (r1_e : Nat) (r2 : Bool) (H' : AHeap) => K (.tuple #[.slice r1_a r1_n r1_e, .bool r2]) H'
  | _, _, _ => False
def S_impl_PlaneOf : FSpec := { F := F_impl_PlaneOf, quiet := false, tame := true }
theorem impl_PlaneOf_vc (list_a : Option Addr) (list_n : Nat) (list_e : Nat) (plane : Int) (H : AHeap) (K : Value → AHeap → Prop) : bodyK Try.prog E_impl_PlaneOf Try.f45 [.slice list_a list_n list_e, .int .i64 plane] H K =
  (T_impl_AreIntegers list_a list_n list_e H fun (r1 : Bool) (H1 : AHeap) => Br (!r1) (K (.tuple #[.slice none 0 0, .bool false]) H1) (T_impl_within plane 0 23 H1 fun (r2 : Bool) (H2 : AHeap) => Br (!r2) (K (.tuple #[.slice none 0 0, .bool false]) H2) (Al [] H2 fun b1 H3 => loopK (exK Try.prog E_impl_PlaneOf (cl (cl (cr (cl (cr (cr (cr (bodyC Try.f45))))))))) [.slice list_a list_n list_e, .int .i64 plane, undef, undef, .slice none 0 0, .bool false, .slice (some ⟨b1, 0, none⟩) 0 1, undef, undef, .slice list_a list_n list_e, .bool r1, .bool (!r1), .bool false, .int .i64 plane, .bool r2, .bool (!r2), .bool (!r2), .slice (some ⟨b1, 0, none⟩) 0 1, .slice list_a list_n list_e, .int .i64 (list_n : Int), .int .i64 0, undef, undef, undef, undef, undef, undef, undef, undef, undef, undef, undef] H3 (blockQ 0 (seqQ (exK Try.prog E_impl_PlaneOf (cr (cr (cr (cr (bodyC Try.f45)))))) (retK Try.prog Try.f45 K)))))) := by kernel_rfl
theorem impl_PlaneOf_r1 (b1 : Nat) (list_a : Option Addr) (list_e : Nat) (list_n : Nat) (plane : Int) (r1 : Bool) (r2 : Bool) (vout_a : Option Addr) (vout_n : Nat) (vout_e : Nat) (t20 : Int) (g8 g21 g22 g23 g24 g25 g26 g27 g28 g29 g30 : Value) (H : AHeap) (R : Post) : exK Try.prog E_impl_PlaneOf (cl (cl (cr (cl (cr (cr (cr (bodyC Try.f45)))))))) [.slice list_a list_n list_e, .int .i64 plane, undef, undef, .slice none 0 0, .bool false, .slice vout_a vout_n vout_e, undef, g8, .slice list_a list_n list_e, .bool r1, .bool (!r1), .bool false, .int .i64 plane, .bool r2, .bool (!r2), .bool (!r2), .slice (some ⟨b1, 0, none⟩) 0 1, .slice list_a list_n list_e, .int .i64 (list_n : Int), .int .i64 t20, g21, g22, g23, g24, g25, g26, g27, g28, g29, g30, undef] H R =
  (Br (decide ((t20 : Int) < (list_n : Int))) ((0 : Int) ≤ t20 ∧ t20 < (list_n : Int) ∧ ∃ b2 f1, (list_a : Option Addr) = some ⟨b2, f1, none⟩ ∧ ∃ x1 : Int,  rdC H b2 (f1 + (t20 : Int).toNat * 1) = some (.int .i64 x1) ∧ T_impl_digit x1 plane H fun (r3 : Bool) (H4 : AHeap) => Al [.bool r3] H4 fun b3 H5 => ∃ o1 w1 : List Value, ownB H5 vout_a vout_n vout_e 1 = some o1 ∧ rdS H5 (some ⟨b3, 0, none⟩) (1 * 1) = some w1 ∧ ((vout_a : Option Addr) = none → 0 < (1 : Nat)) ∧ (vout_n : Nat) + 1 < most ∧ Ap H5 (killB H5 vout_a ++ [some ⟨o1 ++ w1, true⟩]) fun b4 H6 => R .normal [.slice list_a list_n list_e, .int .i64 plane, undef, undef, .slice none 0 0, .bool false, .slice (some ⟨b4, 0, none⟩) (vout_n + 1) 1, undef, .int .i64 x1, .slice list_a list_n list_e, .bool r1, .bool (!r1), .bool false, .int .i64 plane, .bool r2, .bool (!r2), .bool (!r2), .slice (some ⟨b1, 0, none⟩) 0 1, .slice list_a list_n list_e, .int .i64 (list_n : Int), .int .i64 (IntKind.wrap .i64 (t20 + 1)), .bool (decide ((t20 : Int) < (list_n : Int))), .pointer (some ⟨b2, f1 + (t20 : Int).toNat * 1, none⟩), .int .i64 x1, .slice vout_a vout_n vout_e, .int .i64 x1, .int .i64 plane, .bool r3, .slice (some ⟨b3, 0, none⟩) 1 1, .slice (some ⟨b4, 0, none⟩) (vout_n + 1) 1, .int .i64 (IntKind.wrap .i64 (t20 + 1)), undef] H6) (R (.exit 0) [.slice list_a list_n list_e, .int .i64 plane, undef, undef, .slice none 0 0, .bool false, .slice vout_a vout_n vout_e, undef, g8, .slice list_a list_n list_e, .bool r1, .bool (!r1), .bool false, .int .i64 plane, .bool r2, .bool (!r2), .bool (!r2), .slice (some ⟨b1, 0, none⟩) 0 1, .slice list_a list_n list_e, .int .i64 (list_n : Int), .int .i64 t20, .bool (decide ((t20 : Int) < (list_n : Int))), g22, g23, g24, g25, g26, g27, g28, g29, g30, undef] H)) := by kernel_rfl
def impl_PlaneOf_I1 (b1 : Nat) (list_a : Option Addr) (list_e : Nat) (list_n : Nat) (plane : Int) (r1 : Bool) (r2 : Bool) (Inv : Nat → (Option Addr) → Nat → Nat → Int → AHeap → Prop) : Nat → List Value → AHeap → Prop := fun μ tm H => ∃ (vout_a : Option Addr), ∃ (vout_n : Nat), ∃ (vout_e : Nat), ∃ (t20 : Int), ∃ g8 g21 g22 g23 g24 g25 g26 g27 g28 g29 g30, tm = [.slice list_a list_n list_e, .int .i64 plane, undef, undef, .slice none 0 0, .bool false, .slice vout_a vout_n vout_e, undef, g8, .slice list_a list_n list_e, .bool r1, .bool (!r1), .bool false, .int .i64 plane, .bool r2, .bool (!r2), .bool (!r2), .slice (some ⟨b1, 0, none⟩) 0 1, .slice list_a list_n list_e, .int .i64 (list_n : Int), .int .i64 t20, g21, g22, g23, g24, g25, g26, g27, g28, g29, g30, undef] ∧ Inv μ vout_a vout_n vout_e t20 H
theorem impl_PlaneOf_L1 (b1 : Nat) (list_a : Option Addr) (list_e : Nat) (list_n : Nat) (plane : Int) (r1 : Bool) (r2 : Bool) {Q : Post} (Inv : Nat → (Option Addr) → Nat → Nat → Int → AHeap → Prop) (ν : Nat) (vout_a : Option Addr) (vout_n : Nat) (vout_e : Nat) (t20 : Int) (g8 g21 g22 g23 g24 g25 g26 g27 g28 g29 g30 : Value) (H : AHeap) (h0 : Inv ν vout_a vout_n vout_e t20 H)
    (hs : ∀ (μ : Nat) (vout_a : Option Addr) (vout_n : Nat) (vout_e : Nat) (t20 : Int) (g8 g21 g22 g23 g24 g25 g26 g27 g28 g29 g30 : Value) (H : AHeap), Inv μ vout_a vout_n vout_e t20 H → exK Try.prog E_impl_PlaneOf (cl (cl (cr (cl (cr (cr (cr (bodyC Try.f45)))))))) [.slice list_a list_n list_e, .int .i64 plane, undef, undef, .slice none 0 0, .bool false, .slice vout_a vout_n vout_e, undef, g8, .slice list_a list_n list_e, .bool r1, .bool (!r1), .bool false, .int .i64 plane, .bool r2, .bool (!r2), .bool (!r2), .slice (some ⟨b1, 0, none⟩) 0 1, .slice list_a list_n list_e, .int .i64 (list_n : Int), .int .i64 t20, g21, g22, g23, g24, g25, g26, g27, g28, g29, g30, undef] H (loopQ (impl_PlaneOf_I1 b1 list_a list_e list_n plane r1 r2 Inv) μ Q)) : loopK (exK Try.prog E_impl_PlaneOf (cl (cl (cr (cl (cr (cr (cr (bodyC Try.f45))))))))) [.slice list_a list_n list_e, .int .i64 plane, undef, undef, .slice none 0 0, .bool false, .slice vout_a vout_n vout_e, undef, g8, .slice list_a list_n list_e, .bool r1, .bool (!r1), .bool false, .int .i64 plane, .bool r2, .bool (!r2), .bool (!r2), .slice (some ⟨b1, 0, none⟩) 0 1, .slice list_a list_n list_e, .int .i64 (list_n : Int), .int .i64 t20, g21, g22, g23, g24, g25, g26, g27, g28, g29, g30, undef] H Q :=
  ⟨impl_PlaneOf_I1 b1 list_a list_e list_n plane r1 r2 Inv, ν, ⟨vout_a, vout_n, vout_e, t20, g8, g21, g22, g23, g24, g25, g26, g27, g28, g29, g30, rfl, h0⟩, fun μ tm H h => by obtain ⟨vout_a, vout_n, vout_e, t20, g8, g21, g22, g23, g24, g25, g26, g27, g28, g29, g30, rfl, hI⟩ := h; exact hs μ vout_a vout_n vout_e t20 g8 g21 g22 g23 g24 g25 g26 g27 g28 g29 g30 H hI⟩
theorem impl_PlaneOf_n1 {b1 : Nat} {list_a : Option Addr} {list_e : Nat} {list_n : Nat} {plane : Int} {r1 : Bool} {r2 : Bool} {Q : Post} {Inv : Nat → (Option Addr) → Nat → Nat → Int → AHeap → Prop} {μ : Nat} (μ' : Nat) {vout_a : Option Addr} {vout_n : Nat} {vout_e : Nat} {t20 : Int} {g8 g21 g22 g23 g24 g25 g26 g27 g28 g29 g30 : Value} {H : AHeap} (hm : μ' < μ) (hI : Inv μ' vout_a vout_n vout_e t20 H) : loopQ (impl_PlaneOf_I1 b1 list_a list_e list_n plane r1 r2 Inv) μ Q .normal [.slice list_a list_n list_e, .int .i64 plane, undef, undef, .slice none 0 0, .bool false, .slice vout_a vout_n vout_e, undef, g8, .slice list_a list_n list_e, .bool r1, .bool (!r1), .bool false, .int .i64 plane, .bool r2, .bool (!r2), .bool (!r2), .slice (some ⟨b1, 0, none⟩) 0 1, .slice list_a list_n list_e, .int .i64 (list_n : Int), .int .i64 t20, g21, g22, g23, g24, g25, g26, g27, g28, g29, g30, undef] H := ⟨μ', hm, vout_a, vout_n, vout_e, t20, g8, g21, g22, g23, g24, g25, g26, g27, g28, g29, g30, rfl, hI⟩
theorem impl_PlaneOf_x1_0 (b1 : Nat) (list_a : Option Addr) (list_e : Nat) (list_n : Nat) (plane : Int) (r1 : Bool) (r2 : Bool) (vout_a : Option Addr) (vout_n : Nat) (vout_e : Nat) (t20 : Int) (g8 g21 g22 g23 g24 g25 g26 g27 g28 g29 g30 : Value) (H : AHeap) (K : Value → AHeap → Prop)  {I : Nat → List Value → AHeap → Prop} {μ : Nat} : loopQ I μ (blockQ 0 (seqQ (exK Try.prog E_impl_PlaneOf (cr (cr (cr (cr (bodyC Try.f45)))))) (retK Try.prog Try.f45 K))) (.exit 0) [.slice list_a list_n list_e, .int .i64 plane, undef, undef, .slice none 0 0, .bool false, .slice vout_a vout_n vout_e, undef, g8, .slice list_a list_n list_e, .bool r1, .bool (!r1), .bool false, .int .i64 plane, .bool r2, .bool (!r2), .bool (!r2), .slice (some ⟨b1, 0, none⟩) 0 1, .slice list_a list_n list_e, .int .i64 (list_n : Int), .int .i64 t20, g21, g22, g23, g24, g25, g26, g27, g28, g29, g30, undef] H =
  (K (.tuple #[.slice vout_a vout_n vout_e, .bool true]) H) := by kernel_rfl
theorem E_impl_PlaneOf_ok : ∀ g, FnOk Try.prog g (E_impl_PlaneOf g) := FnOk.envOf (by
  intro x hx
  simp only [List.mem_cons, List.not_mem_nil, or_false] at hx
  rcases hx with rfl | rfl | rfl
  · exact impl_AreIntegers_ok
  · exact impl_within_ok
  · exact impl_digit_ok)
set_option maxHeartbeats 1000000 in
theorem impl_PlaneOf_main (list_a : Option Addr) (list_n : Nat) (list_e : Nat) (plane : Int) (H : AHeap) (K : Value → AHeap → Prop) (h : T_impl_PlaneOf list_a list_n list_e plane H fun (r1_a : Option Addr) (r1_n : Nat) (r1_e : Nat) (r2 : Bool) (H' : AHeap) => K (.tuple #[.slice r1_a r1_n r1_e, .bool r2]) H') : bodyK Try.prog E_impl_PlaneOf Try.f45 [.slice list_a list_n list_e, .int .i64 plane] H K := by
  rw [impl_PlaneOf_vc]
  obtain ⟨l_list, i_list, bd_50, hk⟩ := h
  obtain rfl := i_list.eqn
  have e : (p_impl_PlaneOf l_list plane) = _ := rfl
  have e := e.trans (p_impl_PlaneOf_eq l_list plane)
  have g0 := Grow.refl H
  refine T_impl_AreIntegers_i ⟨_, (i_list.grow g0), (by first | omega | (simp only [List.length_set, List.length_replicate, List.length_append, List.length_cons, List.length_nil, List.length_take, List.length_drop, marks_length]; done) | (simp only [List.length_set, List.length_replicate, List.length_append, List.length_cons, List.length_nil, List.length_take, List.length_drop, marks_length]; omega)), ?_⟩
  refine Br.intro (fun c_1 => ?_) (fun c_1 => ?_)
  · have e := e.trans (cond_t c_1)
    have c_1n := nf_of_t c_1
    rw [e] at hk
    exact hk _ _ _ H g0 (OwnS.nil _ _ _ _)
  · have e := e.trans (cond_f c_1)
    have c_1n := nt_of_f c_1
    refine T_impl_within_i ?_
    refine Br.intro (fun c_2 => ?_) (fun c_2 => ?_)
    · have e := e.trans (cond_t c_2)
      have c_2n := nf_of_t c_2
      rw [e] at hk
      exact hk _ _ _ H g0 (OwnS.nil _ _ _ _)
    · have e := e.trans (cond_f c_2)
      have c_2n := nt_of_f c_2
      have c_2n' := impl_within_t c_2n
      refine Al.intro (fun b_3 H_1 hb_4 hl_5 g_6 o_7 => ?_)
      have o_7 : Own H_1 b_3 ((([] : List Bool)).map fB) := o_7
      have l_9 := g_6.1
      have g_10 := g0.trans g_6
      have l_11 := g_10.1
      have w_49 := o_7.lt
      refine impl_PlaneOf_L1 _ _ _ _ _ _ _ (fun (μ : Nat) (vout_a : Option Addr) (vout_n : Nat) (vout_e : Nat) (t20 : Int) (H_2 : AHeap) => ∃ (l_vout : List Bool), ∃ (b_12 : Nat), vout_a = some ⟨b_12, 0, none⟩ ∧ vout_n = l_vout.length ∧ vout_e = 1 ∧ Own H_2 b_12 (l_vout.map fB) ∧ Grow H H_2 ∧ H.length ≤ b_12 ∧ (0 : Int) ≤ t20 ∧ t20 ≤ (l_list.length : Int) ∧ (l_vout.length : Int) ≤ t20 - (0 : Int) + 0 ∧ (l_list.length : Int) - t20 ≤ (μ : Int) ∧ p_impl_PlaneOf l_list plane = p_impl_PlaneOf_l1 l_list plane (μ + 1) l_vout t20) (Int.toNat ((l_list.length : Int) - (0 : Int))) _ _ _ _ _ _ _ _ _ _ _ _ _ _ _ H_1 ?_ ?_
      · exact ⟨_, _, rfl, (by first | rfl | omega | (simp only [List.length_set]; done) | (simp only [List.length_set, List.length_replicate]; omega)), rfl, o_7, g_10, (by omega), (by first | omega | (simp; done) | (simp; omega)), (by first | omega | (simp; done) | (simp; omega)), (by first | omega | (simp; done) | (simp; omega)), (by omega), e⟩
      · intro μ vout_a vout_n vout_e t20 g8 g21 g22 g23 g24 g25 g26 g27 g28 g29 g30 H_2 hI
        obtain ⟨l_vout, b_12, rfl, rfl, rfl, o_13, g_14, l_15, v_16, v_17, v_18, hμ, e⟩ := hI
        rw [impl_PlaneOf_r1]
        have e := e.trans (p_impl_PlaneOf_l1_s l_list plane μ l_vout t20)
        have w_19 := o_13.lt
        have l_20 := g_14.1
        refine Br.intro (fun c_21 => ?_) (fun c_21 => ?_)
        · have e := e.trans (cond_t c_21)
          have c_21' := of_decide_eq_true c_21
          obtain ⟨b_22, f_23, q_24⟩ := ((i_list.grow g_14)).pos (by first | omega | (simp only [List.length_set, List.length_replicate, List.length_append, List.length_cons, List.length_nil, List.length_take, List.length_drop, marks_length]; done) | (simp only [List.length_set, List.length_replicate, List.length_append, List.length_cons, List.length_nil, List.length_take, List.length_drop, marks_length]; omega))
          refine ⟨by omega, by omega, b_22, f_23, q_24, ?_⟩
          refine ⟨((l_list).getD (t20 : Int).toNat 0), (i_list).rd g_14 q_24 (by omega) _, ?_⟩
          refine T_impl_digit_i ⟨(by first | assumption | omega | (simp; omega)), ?_⟩
          refine Al.intro (fun b_25 H_3 hb_26 hl_27 g_28 o_29 => ?_)
          have o_29 : Own H_3 b_25 (([((p_impl_digit (((l_list).getD (t20 : Int).toNat 0)) plane))]).map fB) := o_29
          have l_31 := g_28.1
          have g_32 := g_14.trans g_28
          have l_33 := g_32.1
          have o_34 := o_13.grow g_28
          have w_35 := o_34.lt
          have w_48 := o_29.lt
          refine ⟨_, _, o_34.ownB (by first | (simp only [List.length_map, List.length_cons, List.length_nil, List.length_append]; done) | (simp only [List.length_map, List.length_cons, List.length_nil, List.length_append]; omega)) rfl, (isl_rdS (o_29.isL (by first | rfl | omega | (simp only [List.length_set]; done) | (simp only [List.length_set, List.length_replicate]; omega)))), (fun h => by cases h), (by have := most_eq; omega), ?_⟩
          refine Ap.app o_34 rfl rfl (fun b_40 H_4 q_46 hl_36 o_37 k_38 => ?_)
          have o_37 := map_snoc o_37
          have l_41 := k_38.1
          have g_42 := g_32.keep (b := b_12) (by omega) k_38
          have l_43 := g_42.1
          have o_44 := o_29.keep (by omega) k_38
          have w_45 := o_44.lt
          have w_47 := o_37.lt
          rw [show IntKind.wrap .i64 (t20 + 1) = (t20 + 1) from wrap64 (by omega) (by omega)]
          refine impl_PlaneOf_n1 (μ - 1) (by omega) ⟨_, _, rfl, (by first | (simp only [List.length_append, List.length_cons, List.length_nil]; done) | (simp only [List.length_append, List.length_cons, List.length_nil]; omega) | (simp only [List.length_append, List.length_cons, List.length_nil, List.length_take, List.length_drop]; omega)), rfl, o_37, g_42, (by omega), (by first | omega | (simp only [List.length_append, List.length_cons, List.length_nil, List.length_set]; done) | (simp only [List.length_append, List.length_cons, List.length_nil, List.length_set]; omega)), (by first | omega | (simp only [List.length_append, List.length_cons, List.length_nil, List.length_set]; done) | (simp only [List.length_append, List.length_cons, List.length_nil, List.length_set]; omega)), (by first | omega | (simp only [List.length_append, List.length_cons, List.length_nil, List.length_set]; done) | (simp only [List.length_append, List.length_cons, List.length_nil, List.length_set]; omega)), (by omega), (by rw [show μ - 1 + 1 = μ from by omega]; exact e)⟩
        · have e := e.trans (cond_f c_21)
          have c_21' := of_decide_eq_false c_21
          rw [impl_PlaneOf_x1_0]
          rw [e] at hk
          exact hk _ _ _ H_2 g_14 (o_13.ownS (by first | rfl | omega | (simp only [List.length_set]; done) | (simp only [List.length_set, List.length_replicate]; omega)) (by omega))
theorem impl_PlaneOf_ok : FnOk Try.prog 45 S_impl_PlaneOf := by
  refine FnOk.body mix_ok E_impl_PlaneOf_ok Try.func45 rfl (by kernel_rfl) (by kernel_rfl) ?_ ?_ ?_ ?_ ?_
  · intro args H K K' h hk
    simp only [S_impl_PlaneOf] at *
    unfold F_impl_PlaneOf at *
    split at hk
    · obtain ⟨l_list, i_list, bd_50, k⟩ := hk
      exact ⟨l_list, i_list, bd_50, (fun r1_a r1_n r1_e H' gg ow0 => h _ _ (k r1_a r1_n r1_e H' gg ow0))⟩
    · exact hk.elim
  · intro hq; cases hq
  · intro args H K hk
    simp only [S_impl_PlaneOf] at *
    unfold F_impl_PlaneOf at *
    split at hk
    · obtain ⟨l_list, i_list, bd_50, k⟩ := hk
      exact liveS fun a n e H1 g o => ⟨_, _, k a n e H1 g o⟩
    · exact hk.elim
  · intro _ args H K hk
    simp only [S_impl_PlaneOf] at *
    unfold F_impl_PlaneOf at *
    split at hk
    · obtain ⟨l_list, i_list, bd_50, k⟩ := hk
      exact ⟨l_list, i_list, bd_50, (fun r1_a r1_n r1_e H' gg ow0 => ⟨gg, k r1_a r1_n r1_e H' gg ow0⟩)⟩
    · exact hk.elim
  · have mm := @impl_PlaneOf_main
    revert mm
    generalize bodyK Try.prog E_impl_PlaneOf Try.f45 = Q
    intro mm args H K hk
    simp only [S_impl_PlaneOf] at *
    unfold F_impl_PlaneOf at *
    split at hk
    · exact mm _ _ _ _ H K hk
    · exact hk.elim
def p_laws_eqBoolS_l1 (l_a : List Bool) (l_b : List Bool) : Nat → Bool → Int → Bool
  | 0, _, _ => false
  | μ + 1, t4, i => (bif decide ((i : Int) < (l_a.length : Int)) then (bif !((((l_a).getD (i : Int).toNat false)) == (((l_b).getD (i : Int).toNat false))) then false else (p_laws_eqBoolS_l1 l_a l_b μ t4 (i + 1))) else true)
theorem p_laws_eqBoolS_l1_s (l_a : List Bool) (l_b : List Bool) (μ : Nat) (t4 : Bool) (i : Int) : p_laws_eqBoolS_l1 l_a l_b (μ + 1) t4 i = (bif decide ((i : Int) < (l_a.length : Int)) then (bif !((((l_a).getD (i : Int).toNat false)) == (((l_b).getD (i : Int).toNat false))) then false else (p_laws_eqBoolS_l1 l_a l_b μ t4 (i + 1))) else true) := rfl
def p_laws_eqBoolS (l_a : List Bool) (l_b : List Bool) : Bool := ((bif ((l_a.length : Int) : Int) != (l_b.length : Int) then false else (p_laws_eqBoolS_l1 l_a l_b (Int.toNat ((l_a.length : Int) - (0 : Int)) + 1) false (0 : Int))))
theorem p_laws_eqBoolS_eq (l_a : List Bool) (l_b : List Bool) : p_laws_eqBoolS l_a l_b = ((bif ((l_a.length : Int) : Int) != (l_b.length : Int) then false else (p_laws_eqBoolS_l1 l_a l_b (Int.toNat ((l_a.length : Int) - (0 : Int)) + 1) false (0 : Int)))) := rfl
def T_laws_eqBoolS (a_a : Option Addr) (a_n : Nat) (a_e : Nat) (b_a : Option Addr) (b_n : Nat) (b_e : Nat) (H : AHeap) (K : Bool → AHeap → Prop) : Prop := ∃ (l_a : List Bool), ∃ (l_b : List Bool), IsL fB H a_a a_n l_a ∧ IsL fB H b_a b_n l_b ∧ l_a.length < 1073741824 ∧ l_b.length < 1073741824 ∧ K (p_laws_eqBoolS l_a l_b) H
theorem T_laws_eqBoolS_i {a_a : Option Addr} {a_n : Nat} {a_e : Nat} {b_a : Option Addr} {b_n : Nat} {b_e : Nat} {H : AHeap} {K : Bool → AHeap → Prop} (h : ∃ (l_a : List Bool), ∃ (l_b : List Bool), IsL fB H a_a a_n l_a ∧ IsL fB H b_a b_n l_b ∧ l_a.length < 1073741824 ∧ l_b.length < 1073741824 ∧ K (p_laws_eqBoolS l_a l_b) H) : T_laws_eqBoolS a_a a_n a_e b_a b_n b_e H K := h
theorem laws_eqBoolS_go (l : List Bool) : ∀ (μ : Nat) (t : Bool) (i : Nat), l.length - i < μ → p_laws_eqBoolS_l1 l l μ t (i : Int) = true := by
  intro μ
  induction μ with
  | zero => intro t i h; omega
  | succ μ ih =>
    intro t i hm
    rw [p_laws_eqBoolS_l1_s]
    by_cases h : i < l.length
    · rw [decide_eq_true (show (i : Int) < (l.length : Int) by omega), cond_true]
      simp only [BEq.rfl, Bool.not_true, cond_false]
      exact ih t (i + 1) (by omega)
    · rw [decide_eq_false (show ¬ (i : Int) < (l.length : Int) by omega), cond_false]
theorem laws_eqBoolS_self (l : List Bool) : p_laws_eqBoolS l l = true := by
  rw [p_laws_eqBoolS_eq]
  have h0 : ((l.length : Int) != (l.length : Int)) = false := by simp
  rw [h0, cond_false]
  exact laws_eqBoolS_go l _ false 0 (by omega)
/-! laws_eqBoolS: function 22 -/
def E_laws_eqBoolS : Env := envOf []
def F_laws_eqBoolS : List Value → AHeap → (Value → AHeap → Prop) → Prop
  | [.slice a_a a_n a_e, .slice b_a b_n b_e], H, K => T_laws_eqBoolS a_a a_n a_e b_a b_n b_e H fun (r1 : Bool) (H' : AHeap) => K (.bool r1) H'
  | _, _, _ => False
def S_laws_eqBoolS : FSpec := { F := F_laws_eqBoolS, quiet := true, tame := false }
theorem laws_eqBoolS_vc (a_a : Option Addr) (a_n : Nat) (a_e : Nat) (b_a : Option Addr) (b_n : Nat) (b_e : Nat) (H : AHeap) (K : Value → AHeap → Prop) : bodyK Try.prog E_laws_eqBoolS Try.f22 [.slice a_a a_n a_e, .slice b_a b_n b_e] H K =
  (Br (((a_n : Int) : Int) != (b_n : Int)) (K (.bool false) H) (loopK (exK Try.prog E_laws_eqBoolS (cl (cl (cr (cl (cr (cr (bodyC Try.f22)))))))) [.slice a_a a_n a_e, .slice b_a b_n b_e, undef, undef, .bool false, .int .i64 0, .slice a_a a_n a_e, .int .i64 (a_n : Int), .slice b_a b_n b_e, .int .i64 (b_n : Int), .bool (((a_n : Int) : Int) != (b_n : Int)), undef, undef, undef, undef, undef, undef, undef, undef, undef, undef, undef, undef, undef, undef, undef] H (blockQ 0 (seqQ (exK Try.prog E_laws_eqBoolS (cr (cr (cr (bodyC Try.f22))))) (retK Try.prog Try.f22 K))))) := by kernel_rfl
theorem laws_eqBoolS_r1 (a_a : Option Addr) (a_e : Nat) (a_n : Nat) (b_a : Option Addr) (b_e : Nat) (b_n : Nat) (t4 : Bool) (i : Int) (g11 g12 g13 g14 g15 g16 g17 g18 g19 g20 g21 g22 g23 g24 g25 : Value) (H : AHeap) (R : Post) : exK Try.prog E_laws_eqBoolS (cl (cl (cr (cl (cr (cr (bodyC Try.f22))))))) [.slice a_a a_n a_e, .slice b_a b_n b_e, undef, undef, .bool t4, .int .i64 i, .slice a_a a_n a_e, .int .i64 (a_n : Int), .slice b_a b_n b_e, .int .i64 (b_n : Int), .bool (((a_n : Int) : Int) != (b_n : Int)), g11, g12, g13, g14, g15, g16, g17, g18, g19, g20, g21, g22, g23, g24, g25] H R =
  (Br (decide ((i : Int) < (a_n : Int))) ((0 : Int) ≤ i ∧ i < (a_n : Int) ∧ ∃ b1 f1, (a_a : Option Addr) = some ⟨b1, f1, none⟩ ∧ ∃ x1 : Bool,  rdC H b1 (f1 + (i : Int).toNat * 1) = some (.bool x1) ∧ (0 : Int) ≤ i ∧ i < (b_n : Int) ∧ ∃ b2 f2, (b_a : Option Addr) = some ⟨b2, f2, none⟩ ∧ ∃ x2 : Bool,  rdC H b2 (f2 + (i : Int).toNat * 1) = some (.bool x2) ∧ Br (!(x1 == x2)) (R .ret [.slice a_a a_n a_e, .slice b_a b_n b_e, undef, undef, .bool false, .int .i64 i, .slice a_a a_n a_e, .int .i64 (a_n : Int), .slice b_a b_n b_e, .int .i64 (b_n : Int), .bool (((a_n : Int) : Int) != (b_n : Int)), .int .i64 i, .slice a_a a_n a_e, .int .i64 (a_n : Int), .bool (decide ((i : Int) < (a_n : Int))), g15, g16, .slice a_a a_n a_e, .int .i64 i, .pointer (some ⟨b1, f1 + (i : Int).toNat * 1, none⟩), .bool x1, .slice b_a b_n b_e, .int .i64 i, .pointer (some ⟨b2, f2 + (i : Int).toNat * 1, none⟩), .bool x2, .bool (!(x1 == x2))] H) (R .normal [.slice a_a a_n a_e, .slice b_a b_n b_e, undef, undef, .bool t4, .int .i64 (IntKind.wrap .i64 (i + 1)), .slice a_a a_n a_e, .int .i64 (a_n : Int), .slice b_a b_n b_e, .int .i64 (b_n : Int), .bool (((a_n : Int) : Int) != (b_n : Int)), .int .i64 i, .slice a_a a_n a_e, .int .i64 (a_n : Int), .bool (decide ((i : Int) < (a_n : Int))), .int .i64 i, .int .i64 (IntKind.wrap .i64 (i + 1)), .slice a_a a_n a_e, .int .i64 i, .pointer (some ⟨b1, f1 + (i : Int).toNat * 1, none⟩), .bool x1, .slice b_a b_n b_e, .int .i64 i, .pointer (some ⟨b2, f2 + (i : Int).toNat * 1, none⟩), .bool x2, .bool (!(x1 == x2))] H)) (R (.exit 0) [.slice a_a a_n a_e, .slice b_a b_n b_e, undef, undef, .bool t4, .int .i64 i, .slice a_a a_n a_e, .int .i64 (a_n : Int), .slice b_a b_n b_e, .int .i64 (b_n : Int), .bool (((a_n : Int) : Int) != (b_n : Int)), .int .i64 i, .slice a_a a_n a_e, .int .i64 (a_n : Int), .bool (decide ((i : Int) < (a_n : Int))), g15, g16, g17, g18, g19, g20, g21, g22, g23, g24, g25] H)) := by kernel_rfl
def laws_eqBoolS_I1 (a_a : Option Addr) (a_e : Nat) (a_n : Nat) (b_a : Option Addr) (b_e : Nat) (b_n : Nat) (Inv : Nat → Bool → Int → AHeap → Prop) : Nat → List Value → AHeap → Prop := fun μ tm H => ∃ (t4 : Bool), ∃ (i : Int), ∃ g11 g12 g13 g14 g15 g16 g17 g18 g19 g20 g21 g22 g23 g24 g25, tm = [.slice a_a a_n a_e, .slice b_a b_n b_e, undef, undef, .bool t4, .int .i64 i, .slice a_a a_n a_e, .int .i64 (a_n : Int), .slice b_a b_n b_e, .int .i64 (b_n : Int), .bool (((a_n : Int) : Int) != (b_n : Int)), g11, g12, g13, g14, g15, g16, g17, g18, g19, g20, g21, g22, g23, g24, g25] ∧ Inv μ t4 i H
theorem laws_eqBoolS_L1 (a_a : Option Addr) (a_e : Nat) (a_n : Nat) (b_a : Option Addr) (b_e : Nat) (b_n : Nat) {Q : Post} (Inv : Nat → Bool → Int → AHeap → Prop) (ν : Nat) (t4 : Bool) (i : Int) (g11 g12 g13 g14 g15 g16 g17 g18 g19 g20 g21 g22 g23 g24 g25 : Value) (H : AHeap) (h0 : Inv ν t4 i H)
    (hs : ∀ (μ : Nat) (t4 : Bool) (i : Int) (g11 g12 g13 g14 g15 g16 g17 g18 g19 g20 g21 g22 g23 g24 g25 : Value) (H : AHeap), Inv μ t4 i H → exK Try.prog E_laws_eqBoolS (cl (cl (cr (cl (cr (cr (bodyC Try.f22))))))) [.slice a_a a_n a_e, .slice b_a b_n b_e, undef, undef, .bool t4, .int .i64 i, .slice a_a a_n a_e, .int .i64 (a_n : Int), .slice b_a b_n b_e, .int .i64 (b_n : Int), .bool (((a_n : Int) : Int) != (b_n : Int)), g11, g12, g13, g14, g15, g16, g17, g18, g19, g20, g21, g22, g23, g24, g25] H (loopQ (laws_eqBoolS_I1 a_a a_e a_n b_a b_e b_n Inv) μ Q)) : loopK (exK Try.prog E_laws_eqBoolS (cl (cl (cr (cl (cr (cr (bodyC Try.f22)))))))) [.slice a_a a_n a_e, .slice b_a b_n b_e, undef, undef, .bool t4, .int .i64 i, .slice a_a a_n a_e, .int .i64 (a_n : Int), .slice b_a b_n b_e, .int .i64 (b_n : Int), .bool (((a_n : Int) : Int) != (b_n : Int)), g11, g12, g13, g14, g15, g16, g17, g18, g19, g20, g21, g22, g23, g24, g25] H Q :=
  ⟨laws_eqBoolS_I1 a_a a_e a_n b_a b_e b_n Inv, ν, ⟨t4, i, g11, g12, g13, g14, g15, g16, g17, g18, g19, g20, g21, g22, g23, g24, g25, rfl, h0⟩, fun μ tm H h => by obtain ⟨t4, i, g11, g12, g13, g14, g15, g16, g17, g18, g19, g20, g21, g22, g23, g24, g25, rfl, hI⟩ := h; exact hs μ t4 i g11 g12 g13 g14 g15 g16 g17 g18 g19 g20 g21 g22 g23 g24 g25 H hI⟩
theorem laws_eqBoolS_n1 {a_a : Option Addr} {a_e : Nat} {a_n : Nat} {b_a : Option Addr} {b_e : Nat} {b_n : Nat} {Q : Post} {Inv : Nat → Bool → Int → AHeap → Prop} {μ : Nat} (μ' : Nat) {t4 : Bool} {i : Int} {g11 g12 g13 g14 g15 g16 g17 g18 g19 g20 g21 g22 g23 g24 g25 : Value} {H : AHeap} (hm : μ' < μ) (hI : Inv μ' t4 i H) : loopQ (laws_eqBoolS_I1 a_a a_e a_n b_a b_e b_n Inv) μ Q .normal [.slice a_a a_n a_e, .slice b_a b_n b_e, undef, undef, .bool t4, .int .i64 i, .slice a_a a_n a_e, .int .i64 (a_n : Int), .slice b_a b_n b_e, .int .i64 (b_n : Int), .bool (((a_n : Int) : Int) != (b_n : Int)), g11, g12, g13, g14, g15, g16, g17, g18, g19, g20, g21, g22, g23, g24, g25] H := ⟨μ', hm, t4, i, g11, g12, g13, g14, g15, g16, g17, g18, g19, g20, g21, g22, g23, g24, g25, rfl, hI⟩
theorem laws_eqBoolS_x1_0 (a_a : Option Addr) (a_e : Nat) (a_n : Nat) (b_a : Option Addr) (b_e : Nat) (b_n : Nat) (t4 : Bool) (i : Int) (g11 g12 g13 g14 g15 g16 g17 g18 g19 g20 g21 g22 g23 g24 g25 : Value) (H : AHeap) (K : Value → AHeap → Prop)  {I : Nat → List Value → AHeap → Prop} {μ : Nat} : loopQ I μ (blockQ 0 (seqQ (exK Try.prog E_laws_eqBoolS (cr (cr (cr (bodyC Try.f22))))) (retK Try.prog Try.f22 K))) (.exit 0) [.slice a_a a_n a_e, .slice b_a b_n b_e, undef, undef, .bool t4, .int .i64 i, .slice a_a a_n a_e, .int .i64 (a_n : Int), .slice b_a b_n b_e, .int .i64 (b_n : Int), .bool (((a_n : Int) : Int) != (b_n : Int)), g11, g12, g13, g14, g15, g16, g17, g18, g19, g20, g21, g22, g23, g24, g25] H =
  (K (.bool true) H) := by kernel_rfl
theorem laws_eqBoolS_x1_ret (a_a : Option Addr) (a_e : Nat) (a_n : Nat) (b_a : Option Addr) (b_e : Nat) (b_n : Nat) (t4 : Bool) (i : Int) (g11 g12 g13 g14 g15 g16 g17 g18 g19 g20 g21 g22 g23 g24 g25 : Value) (H : AHeap) (K : Value → AHeap → Prop)  {I : Nat → List Value → AHeap → Prop} {μ : Nat} : loopQ I μ (blockQ 0 (seqQ (exK Try.prog E_laws_eqBoolS (cr (cr (cr (bodyC Try.f22))))) (retK Try.prog Try.f22 K))) .ret [.slice a_a a_n a_e, .slice b_a b_n b_e, undef, undef, .bool t4, .int .i64 i, .slice a_a a_n a_e, .int .i64 (a_n : Int), .slice b_a b_n b_e, .int .i64 (b_n : Int), .bool (((a_n : Int) : Int) != (b_n : Int)), g11, g12, g13, g14, g15, g16, g17, g18, g19, g20, g21, g22, g23, g24, g25] H =
  (K (.bool t4) H) := by kernel_rfl
theorem E_laws_eqBoolS_ok : ∀ g, FnOk Try.prog g (E_laws_eqBoolS g) := FnOk.envOf (by
  intro x hx; cases hx)
set_option maxHeartbeats 1000000 in
theorem laws_eqBoolS_main (a_a : Option Addr) (a_n : Nat) (a_e : Nat) (b_a : Option Addr) (b_n : Nat) (b_e : Nat) (H : AHeap) (K : Value → AHeap → Prop) (h : T_laws_eqBoolS a_a a_n a_e b_a b_n b_e H fun (r1 : Bool) (H' : AHeap) => K (.bool r1) H') : bodyK Try.prog E_laws_eqBoolS Try.f22 [.slice a_a a_n a_e, .slice b_a b_n b_e] H K := by
  rw [laws_eqBoolS_vc]
  obtain ⟨l_a, l_b, i_a, i_b, bd_13, bd_14, hk⟩ := h
  obtain rfl := i_a.eqn
  obtain rfl := i_b.eqn
  have e : (p_laws_eqBoolS l_a l_b) = _ := rfl
  have e := e.trans (p_laws_eqBoolS_eq l_a l_b)
  have g0 := Grow.refl H
  refine Br.intro (fun c_1 => ?_) (fun c_1 => ?_)
  · have e := e.trans (cond_t c_1)
    have c_1' := ine_t c_1
    rw [e] at hk
    exact hk
  · have e := e.trans (cond_f c_1)
    have c_1' := ine_f c_1
    refine laws_eqBoolS_L1 _ _ _ _ _ _ (fun (μ : Nat) (t4 : Bool) (i : Int) (H_1 : AHeap) => H = H_1 ∧ (0 : Int) ≤ i ∧ i ≤ (l_a.length : Int) ∧ (l_a.length : Int) - i ≤ (μ : Int) ∧ p_laws_eqBoolS l_a l_b = p_laws_eqBoolS_l1 l_a l_b (μ + 1) t4 i) (Int.toNat ((l_a.length : Int) - (0 : Int))) _ _ _ _ _ _ _ _ _ _ _ _ _ _ _ _ _ H ?_ ?_
    · exact ⟨rfl, (by first | omega | (simp; done) | (simp; omega)), (by first | omega | (simp; done) | (simp; omega)), (by omega), e⟩
    · intro μ t4 i g11 g12 g13 g14 g15 g16 g17 g18 g19 g20 g21 g22 g23 g24 g25 H_1 hI
      obtain ⟨rfl, v_2, v_3, hμ, e⟩ := hI
      rw [laws_eqBoolS_r1]
      have e := e.trans (p_laws_eqBoolS_l1_s l_a l_b μ t4 i)
      have l_4 := g0.1
      refine Br.intro (fun c_5 => ?_) (fun c_5 => ?_)
      · have e := e.trans (cond_t c_5)
        have c_5' := of_decide_eq_true c_5
        obtain ⟨b_6, f_7, q_8⟩ := ((i_a.grow g0)).pos (by first | omega | (simp only [List.length_set, List.length_replicate, List.length_append, List.length_cons, List.length_nil, List.length_take, List.length_drop, marks_length]; done) | (simp only [List.length_set, List.length_replicate, List.length_append, List.length_cons, List.length_nil, List.length_take, List.length_drop, marks_length]; omega))
        refine ⟨by omega, by omega, b_6, f_7, q_8, ?_⟩
        refine ⟨((l_a).getD (i : Int).toNat false), (i_a).rd g0 q_8 (by omega) _, ?_⟩
        obtain ⟨b_9, f_10, q_11⟩ := ((i_b.grow g0)).pos (by first | omega | (simp only [List.length_set, List.length_replicate, List.length_append, List.length_cons, List.length_nil, List.length_take, List.length_drop, marks_length]; done) | (simp only [List.length_set, List.length_replicate, List.length_append, List.length_cons, List.length_nil, List.length_take, List.length_drop, marks_length]; omega))
        refine ⟨by omega, by omega, b_9, f_10, q_11, ?_⟩
        refine ⟨((l_b).getD (i : Int).toNat false), (i_b).rd g0 q_11 (by omega) _, ?_⟩
        refine Br.intro (fun c_12 => ?_) (fun c_12 => ?_)
        · have e := e.trans (cond_t c_12)
          have c_12n := nf_of_t c_12
          rw [laws_eqBoolS_x1_ret]
          rw [e] at hk
          exact hk
        · have e := e.trans (cond_f c_12)
          have c_12n := nt_of_f c_12
          rw [show IntKind.wrap .i64 (i + 1) = (i + 1) from wrap64 (by omega) (by omega)]
          refine laws_eqBoolS_n1 (μ - 1) (by omega) ⟨rfl, (by first | omega | (simp only [List.length_append, List.length_cons, List.length_nil, List.length_set]; done) | (simp only [List.length_append, List.length_cons, List.length_nil, List.length_set]; omega)), (by first | omega | (simp only [List.length_append, List.length_cons, List.length_nil, List.length_set]; done) | (simp only [List.length_append, List.length_cons, List.length_nil, List.length_set]; omega)), (by omega), (by rw [show μ - 1 + 1 = μ from by omega]; exact e)⟩
      · have e := e.trans (cond_f c_5)
        have c_5' := of_decide_eq_false c_5
        rw [laws_eqBoolS_x1_0]
        rw [e] at hk
        exact hk
theorem laws_eqBoolS_ok : FnOk Try.prog 22 S_laws_eqBoolS := by
  refine FnOk.body mix_ok E_laws_eqBoolS_ok Try.func22 rfl (by kernel_rfl) (by kernel_rfl) ?_ ?_ ?_ ?_ ?_
  · intro args H K K' h hk
    simp only [S_laws_eqBoolS] at *
    unfold F_laws_eqBoolS at *
    split at hk
    · obtain ⟨l_a, l_b, i_a, i_b, bd_13, bd_14, k⟩ := hk
      exact ⟨l_a, l_b, i_a, i_b, bd_13, bd_14, h _ _ k⟩
    · exact hk.elim
  · intro _ args H K hk
    simp only [S_laws_eqBoolS] at *
    unfold F_laws_eqBoolS at *
    split at hk
    · obtain ⟨l_a, l_b, i_a, i_b, bd_13, bd_14, k⟩ := hk
      exact ⟨_, k, fun K' k' => ⟨l_a, l_b, i_a, i_b, bd_13, bd_14, k'⟩⟩
    · exact hk.elim
  · intro args H K hk
    simp only [S_laws_eqBoolS] at *
    unfold F_laws_eqBoolS at *
    split at hk
    · obtain ⟨l_a, l_b, i_a, i_b, bd_13, bd_14, k⟩ := hk
      exact ⟨_, _, k⟩
    · exact hk.elim
  · intro hq; cases hq
  · have mm := @laws_eqBoolS_main
    revert mm
    generalize bodyK Try.prog E_laws_eqBoolS Try.f22 = Q
    intro mm args H K hk
    simp only [S_laws_eqBoolS] at *
    unfold F_laws_eqBoolS at *
    split at hk
    · exact mm _ _ _ _ _ _ H K hk
    · exact hk.elim
def p_laws_eqInt64S_l1 (l_a : List Int) (l_b : List Int) : Nat → Bool → Int → Bool
  | 0, _, _ => false
  | μ + 1, t4, i => (bif decide ((i : Int) < (l_a.length : Int)) then (bif (((l_a).getD (i : Int).toNat 0) : Int) != ((l_b).getD (i : Int).toNat 0) then false else (p_laws_eqInt64S_l1 l_a l_b μ t4 (i + 1))) else true)
theorem p_laws_eqInt64S_l1_s (l_a : List Int) (l_b : List Int) (μ : Nat) (t4 : Bool) (i : Int) : p_laws_eqInt64S_l1 l_a l_b (μ + 1) t4 i = (bif decide ((i : Int) < (l_a.length : Int)) then (bif (((l_a).getD (i : Int).toNat 0) : Int) != ((l_b).getD (i : Int).toNat 0) then false else (p_laws_eqInt64S_l1 l_a l_b μ t4 (i + 1))) else true) := rfl
def p_laws_eqInt64S (l_a : List Int) (l_b : List Int) : Bool := ((bif ((l_a.length : Int) : Int) != (l_b.length : Int) then false else (p_laws_eqInt64S_l1 l_a l_b (Int.toNat ((l_a.length : Int) - (0 : Int)) + 1) false (0 : Int))))
theorem p_laws_eqInt64S_eq (l_a : List Int) (l_b : List Int) : p_laws_eqInt64S l_a l_b = ((bif ((l_a.length : Int) : Int) != (l_b.length : Int) then false else (p_laws_eqInt64S_l1 l_a l_b (Int.toNat ((l_a.length : Int) - (0 : Int)) + 1) false (0 : Int)))) := rfl
def T_laws_eqInt64S (a_a : Option Addr) (a_n : Nat) (a_e : Nat) (b_a : Option Addr) (b_n : Nat) (b_e : Nat) (H : AHeap) (K : Bool → AHeap → Prop) : Prop := ∃ (l_a : List Int), ∃ (l_b : List Int), IsL fI H a_a a_n l_a ∧ IsL fI H b_a b_n l_b ∧ l_a.length < 1073741824 ∧ l_b.length < 1073741824 ∧ K (p_laws_eqInt64S l_a l_b) H
theorem T_laws_eqInt64S_i {a_a : Option Addr} {a_n : Nat} {a_e : Nat} {b_a : Option Addr} {b_n : Nat} {b_e : Nat} {H : AHeap} {K : Bool → AHeap → Prop} (h : ∃ (l_a : List Int), ∃ (l_b : List Int), IsL fI H a_a a_n l_a ∧ IsL fI H b_a b_n l_b ∧ l_a.length < 1073741824 ∧ l_b.length < 1073741824 ∧ K (p_laws_eqInt64S l_a l_b) H) : T_laws_eqInt64S a_a a_n a_e b_a b_n b_e H K := h
theorem laws_eqInt64S_go (l : List Int) : ∀ (μ : Nat) (t : Bool) (i : Nat), l.length - i < μ → p_laws_eqInt64S_l1 l l μ t (i : Int) = true := by
  intro μ
  induction μ with
  | zero => intro t i h; omega
  | succ μ ih =>
    intro t i hm
    rw [p_laws_eqInt64S_l1_s]
    by_cases h : i < l.length
    · rw [decide_eq_true (show (i : Int) < (l.length : Int) by omega), cond_true]
      simp only [bne_self_eq_false, cond_false]
      exact ih t (i + 1) (by omega)
    · rw [decide_eq_false (show ¬ (i : Int) < (l.length : Int) by omega), cond_false]
theorem laws_eqInt64S_self (l : List Int) : p_laws_eqInt64S l l = true := by
  rw [p_laws_eqInt64S_eq]
  have h0 : ((l.length : Int) != (l.length : Int)) = false := by simp
  rw [h0, cond_false]
  exact laws_eqInt64S_go l _ false 0 (by omega)
/-! laws_eqInt64S: function 35 -/
def E_laws_eqInt64S : Env := envOf []
def F_laws_eqInt64S : List Value → AHeap → (Value → AHeap → Prop) → Prop
  | [.slice a_a a_n a_e, .slice b_a b_n b_e], H, K => T_laws_eqInt64S a_a a_n a_e b_a b_n b_e H fun (r1 : Bool) (H' : AHeap) => K (.bool r1) H'
  | _, _, _ => False
def S_laws_eqInt64S : FSpec := { F := F_laws_eqInt64S, quiet := true, tame := false }
theorem laws_eqInt64S_vc (a_a : Option Addr) (a_n : Nat) (a_e : Nat) (b_a : Option Addr) (b_n : Nat) (b_e : Nat) (H : AHeap) (K : Value → AHeap → Prop) : bodyK Try.prog E_laws_eqInt64S Try.f35 [.slice a_a a_n a_e, .slice b_a b_n b_e] H K =
  (Br (((a_n : Int) : Int) != (b_n : Int)) (K (.bool false) H) (loopK (exK Try.prog E_laws_eqInt64S (cl (cl (cr (cl (cr (cr (bodyC Try.f35)))))))) [.slice a_a a_n a_e, .slice b_a b_n b_e, undef, undef, .bool false, .int .i64 0, .slice a_a a_n a_e, .int .i64 (a_n : Int), .slice b_a b_n b_e, .int .i64 (b_n : Int), .bool (((a_n : Int) : Int) != (b_n : Int)), undef, undef, undef, undef, undef, undef, undef, undef, undef, undef, undef, undef, undef, undef, undef] H (blockQ 0 (seqQ (exK Try.prog E_laws_eqInt64S (cr (cr (cr (bodyC Try.f35))))) (retK Try.prog Try.f35 K))))) := by kernel_rfl
theorem laws_eqInt64S_r1 (a_a : Option Addr) (a_e : Nat) (a_n : Nat) (b_a : Option Addr) (b_e : Nat) (b_n : Nat) (t4 : Bool) (i : Int) (g11 g12 g13 g14 g15 g16 g17 g18 g19 g20 g21 g22 g23 g24 g25 : Value) (H : AHeap) (R : Post) : exK Try.prog E_laws_eqInt64S (cl (cl (cr (cl (cr (cr (bodyC Try.f35))))))) [.slice a_a a_n a_e, .slice b_a b_n b_e, undef, undef, .bool t4, .int .i64 i, .slice a_a a_n a_e, .int .i64 (a_n : Int), .slice b_a b_n b_e, .int .i64 (b_n : Int), .bool (((a_n : Int) : Int) != (b_n : Int)), g11, g12, g13, g14, g15, g16, g17, g18, g19, g20, g21, g22, g23, g24, g25] H R =
  (Br (decide ((i : Int) < (a_n : Int))) ((0 : Int) ≤ i ∧ i < (a_n : Int) ∧ ∃ b1 f1, (a_a : Option Addr) = some ⟨b1, f1, none⟩ ∧ ∃ x1 : Int,  rdC H b1 (f1 + (i : Int).toNat * 1) = some (.int .i64 x1) ∧ (0 : Int) ≤ i ∧ i < (b_n : Int) ∧ ∃ b2 f2, (b_a : Option Addr) = some ⟨b2, f2, none⟩ ∧ ∃ x2 : Int,  rdC H b2 (f2 + (i : Int).toNat * 1) = some (.int .i64 x2) ∧ Br ((x1 : Int) != x2) (R .ret [.slice a_a a_n a_e, .slice b_a b_n b_e, undef, undef, .bool false, .int .i64 i, .slice a_a a_n a_e, .int .i64 (a_n : Int), .slice b_a b_n b_e, .int .i64 (b_n : Int), .bool (((a_n : Int) : Int) != (b_n : Int)), .int .i64 i, .slice a_a a_n a_e, .int .i64 (a_n : Int), .bool (decide ((i : Int) < (a_n : Int))), g15, g16, .slice a_a a_n a_e, .int .i64 i, .pointer (some ⟨b1, f1 + (i : Int).toNat * 1, none⟩), .int .i64 x1, .slice b_a b_n b_e, .int .i64 i, .pointer (some ⟨b2, f2 + (i : Int).toNat * 1, none⟩), .int .i64 x2, .bool ((x1 : Int) != x2)] H) (R .normal [.slice a_a a_n a_e, .slice b_a b_n b_e, undef, undef, .bool t4, .int .i64 (IntKind.wrap .i64 (i + 1)), .slice a_a a_n a_e, .int .i64 (a_n : Int), .slice b_a b_n b_e, .int .i64 (b_n : Int), .bool (((a_n : Int) : Int) != (b_n : Int)), .int .i64 i, .slice a_a a_n a_e, .int .i64 (a_n : Int), .bool (decide ((i : Int) < (a_n : Int))), .int .i64 i, .int .i64 (IntKind.wrap .i64 (i + 1)), .slice a_a a_n a_e, .int .i64 i, .pointer (some ⟨b1, f1 + (i : Int).toNat * 1, none⟩), .int .i64 x1, .slice b_a b_n b_e, .int .i64 i, .pointer (some ⟨b2, f2 + (i : Int).toNat * 1, none⟩), .int .i64 x2, .bool ((x1 : Int) != x2)] H)) (R (.exit 0) [.slice a_a a_n a_e, .slice b_a b_n b_e, undef, undef, .bool t4, .int .i64 i, .slice a_a a_n a_e, .int .i64 (a_n : Int), .slice b_a b_n b_e, .int .i64 (b_n : Int), .bool (((a_n : Int) : Int) != (b_n : Int)), .int .i64 i, .slice a_a a_n a_e, .int .i64 (a_n : Int), .bool (decide ((i : Int) < (a_n : Int))), g15, g16, g17, g18, g19, g20, g21, g22, g23, g24, g25] H)) := by kernel_rfl
def laws_eqInt64S_I1 (a_a : Option Addr) (a_e : Nat) (a_n : Nat) (b_a : Option Addr) (b_e : Nat) (b_n : Nat) (Inv : Nat → Bool → Int → AHeap → Prop) : Nat → List Value → AHeap → Prop := fun μ tm H => ∃ (t4 : Bool), ∃ (i : Int), ∃ g11 g12 g13 g14 g15 g16 g17 g18 g19 g20 g21 g22 g23 g24 g25, tm = [.slice a_a a_n a_e, .slice b_a b_n b_e, undef, undef, .bool t4, .int .i64 i, .slice a_a a_n a_e, .int .i64 (a_n : Int), .slice b_a b_n b_e, .int .i64 (b_n : Int), .bool (((a_n : Int) : Int) != (b_n : Int)), g11, g12, g13, g14, g15, g16, g17, g18, g19, g20, g21, g22, g23, g24, g25] ∧ Inv μ t4 i H
theorem laws_eqInt64S_L1 (a_a : Option Addr) (a_e : Nat) (a_n : Nat) (b_a : Option Addr) (b_e : Nat) (b_n : Nat) {Q : Post} (Inv : Nat → Bool → Int → AHeap → Prop) (ν : Nat) (t4 : Bool) (i : Int) (g11 g12 g13 g14 g15 g16 g17 g18 g19 g20 g21 g22 g23 g24 g25 : Value) (H : AHeap) (h0 : Inv ν t4 i H)
    (hs : ∀ (μ : Nat) (t4 : Bool) (i : Int) (g11 g12 g13 g14 g15 g16 g17 g18 g19 g20 g21 g22 g23 g24 g25 : Value) (H : AHeap), Inv μ t4 i H → exK Try.prog E_laws_eqInt64S (cl (cl (cr (cl (cr (cr (bodyC Try.f35))))))) [.slice a_a a_n a_e, .slice b_a b_n b_e, undef, undef, .bool t4, .int .i64 i, .slice a_a a_n a_e, .int .i64 (a_n : Int), .slice b_a b_n b_e, .int .i64 (b_n : Int), .bool (((a_n : Int) : Int) != (b_n : Int)), g11, g12, g13, g14, g15, g16, g17, g18, g19, g20, g21, g22, g23, g24, g25] H (loopQ (laws_eqInt64S_I1 a_a a_e a_n b_a b_e b_n Inv) μ Q)) : loopK (exK Try.prog E_laws_eqInt64S (cl (cl (cr (cl (cr (cr (bodyC Try.f35)))))))) [.slice a_a a_n a_e, .slice b_a b_n b_e, undef, undef, .bool t4, .int .i64 i, .slice a_a a_n a_e, .int .i64 (a_n : Int), .slice b_a b_n b_e, .int .i64 (b_n : Int), .bool (((a_n : Int) : Int) != (b_n : Int)), g11, g12, g13, g14, g15, g16, g17, g18, g19, g20, g21, g22, g23, g24, g25] H Q :=
  ⟨laws_eqInt64S_I1 a_a a_e a_n b_a b_e b_n Inv, ν, ⟨t4, i, g11, g12, g13, g14, g15, g16, g17, g18, g19, g20, g21, g22, g23, g24, g25, rfl, h0⟩, fun μ tm H h => by obtain ⟨t4, i, g11, g12, g13, g14, g15, g16, g17, g18, g19, g20, g21, g22, g23, g24, g25, rfl, hI⟩ := h; exact hs μ t4 i g11 g12 g13 g14 g15 g16 g17 g18 g19 g20 g21 g22 g23 g24 g25 H hI⟩
theorem laws_eqInt64S_n1 {a_a : Option Addr} {a_e : Nat} {a_n : Nat} {b_a : Option Addr} {b_e : Nat} {b_n : Nat} {Q : Post} {Inv : Nat → Bool → Int → AHeap → Prop} {μ : Nat} (μ' : Nat) {t4 : Bool} {i : Int} {g11 g12 g13 g14 g15 g16 g17 g18 g19 g20 g21 g22 g23 g24 g25 : Value} {H : AHeap} (hm : μ' < μ) (hI : Inv μ' t4 i H) : loopQ (laws_eqInt64S_I1 a_a a_e a_n b_a b_e b_n Inv) μ Q .normal [.slice a_a a_n a_e, .slice b_a b_n b_e, undef, undef, .bool t4, .int .i64 i, .slice a_a a_n a_e, .int .i64 (a_n : Int), .slice b_a b_n b_e, .int .i64 (b_n : Int), .bool (((a_n : Int) : Int) != (b_n : Int)), g11, g12, g13, g14, g15, g16, g17, g18, g19, g20, g21, g22, g23, g24, g25] H := ⟨μ', hm, t4, i, g11, g12, g13, g14, g15, g16, g17, g18, g19, g20, g21, g22, g23, g24, g25, rfl, hI⟩
theorem laws_eqInt64S_x1_0 (a_a : Option Addr) (a_e : Nat) (a_n : Nat) (b_a : Option Addr) (b_e : Nat) (b_n : Nat) (t4 : Bool) (i : Int) (g11 g12 g13 g14 g15 g16 g17 g18 g19 g20 g21 g22 g23 g24 g25 : Value) (H : AHeap) (K : Value → AHeap → Prop)  {I : Nat → List Value → AHeap → Prop} {μ : Nat} : loopQ I μ (blockQ 0 (seqQ (exK Try.prog E_laws_eqInt64S (cr (cr (cr (bodyC Try.f35))))) (retK Try.prog Try.f35 K))) (.exit 0) [.slice a_a a_n a_e, .slice b_a b_n b_e, undef, undef, .bool t4, .int .i64 i, .slice a_a a_n a_e, .int .i64 (a_n : Int), .slice b_a b_n b_e, .int .i64 (b_n : Int), .bool (((a_n : Int) : Int) != (b_n : Int)), g11, g12, g13, g14, g15, g16, g17, g18, g19, g20, g21, g22, g23, g24, g25] H =
  (K (.bool true) H) := by kernel_rfl
theorem laws_eqInt64S_x1_ret (a_a : Option Addr) (a_e : Nat) (a_n : Nat) (b_a : Option Addr) (b_e : Nat) (b_n : Nat) (t4 : Bool) (i : Int) (g11 g12 g13 g14 g15 g16 g17 g18 g19 g20 g21 g22 g23 g24 g25 : Value) (H : AHeap) (K : Value → AHeap → Prop)  {I : Nat → List Value → AHeap → Prop} {μ : Nat} : loopQ I μ (blockQ 0 (seqQ (exK Try.prog E_laws_eqInt64S (cr (cr (cr (bodyC Try.f35))))) (retK Try.prog Try.f35 K))) .ret [.slice a_a a_n a_e, .slice b_a b_n b_e, undef, undef, .bool t4, .int .i64 i, .slice a_a a_n a_e, .int .i64 (a_n : Int), .slice b_a b_n b_e, .int .i64 (b_n : Int), .bool (((a_n : Int) : Int) != (b_n : Int)), g11, g12, g13, g14, g15, g16, g17, g18, g19, g20, g21, g22, g23, g24, g25] H =
  (K (.bool t4) H) := by kernel_rfl
theorem E_laws_eqInt64S_ok : ∀ g, FnOk Try.prog g (E_laws_eqInt64S g) := FnOk.envOf (by
  intro x hx; cases hx)
set_option maxHeartbeats 1000000 in
theorem laws_eqInt64S_main (a_a : Option Addr) (a_n : Nat) (a_e : Nat) (b_a : Option Addr) (b_n : Nat) (b_e : Nat) (H : AHeap) (K : Value → AHeap → Prop) (h : T_laws_eqInt64S a_a a_n a_e b_a b_n b_e H fun (r1 : Bool) (H' : AHeap) => K (.bool r1) H') : bodyK Try.prog E_laws_eqInt64S Try.f35 [.slice a_a a_n a_e, .slice b_a b_n b_e] H K := by
  rw [laws_eqInt64S_vc]
  obtain ⟨l_a, l_b, i_a, i_b, bd_13, bd_14, hk⟩ := h
  obtain rfl := i_a.eqn
  obtain rfl := i_b.eqn
  have e : (p_laws_eqInt64S l_a l_b) = _ := rfl
  have e := e.trans (p_laws_eqInt64S_eq l_a l_b)
  have g0 := Grow.refl H
  refine Br.intro (fun c_1 => ?_) (fun c_1 => ?_)
  · have e := e.trans (cond_t c_1)
    have c_1' := ine_t c_1
    rw [e] at hk
    exact hk
  · have e := e.trans (cond_f c_1)
    have c_1' := ine_f c_1
    refine laws_eqInt64S_L1 _ _ _ _ _ _ (fun (μ : Nat) (t4 : Bool) (i : Int) (H_1 : AHeap) => H = H_1 ∧ (0 : Int) ≤ i ∧ i ≤ (l_a.length : Int) ∧ (l_a.length : Int) - i ≤ (μ : Int) ∧ p_laws_eqInt64S l_a l_b = p_laws_eqInt64S_l1 l_a l_b (μ + 1) t4 i) (Int.toNat ((l_a.length : Int) - (0 : Int))) _ _ _ _ _ _ _ _ _ _ _ _ _ _ _ _ _ H ?_ ?_
    · exact ⟨rfl, (by first | omega | (simp; done) | (simp; omega)), (by first | omega | (simp; done) | (simp; omega)), (by omega), e⟩
    · intro μ t4 i g11 g12 g13 g14 g15 g16 g17 g18 g19 g20 g21 g22 g23 g24 g25 H_1 hI
      obtain ⟨rfl, v_2, v_3, hμ, e⟩ := hI
      rw [laws_eqInt64S_r1]
      have e := e.trans (p_laws_eqInt64S_l1_s l_a l_b μ t4 i)
      have l_4 := g0.1
      refine Br.intro (fun c_5 => ?_) (fun c_5 => ?_)
      · have e := e.trans (cond_t c_5)
        have c_5' := of_decide_eq_true c_5
        obtain ⟨b_6, f_7, q_8⟩ := ((i_a.grow g0)).pos (by first | omega | (simp only [List.length_set, List.length_replicate, List.length_append, List.length_cons, List.length_nil, List.length_take, List.length_drop, marks_length]; done) | (simp only [List.length_set, List.length_replicate, List.length_append, List.length_cons, List.length_nil, List.length_take, List.length_drop, marks_length]; omega))
        refine ⟨by omega, by omega, b_6, f_7, q_8, ?_⟩
        refine ⟨((l_a).getD (i : Int).toNat 0), (i_a).rd g0 q_8 (by omega) _, ?_⟩
        obtain ⟨b_9, f_10, q_11⟩ := ((i_b.grow g0)).pos (by first | omega | (simp only [List.length_set, List.length_replicate, List.length_append, List.length_cons, List.length_nil, List.length_take, List.length_drop, marks_length]; done) | (simp only [List.length_set, List.length_replicate, List.length_append, List.length_cons, List.length_nil, List.length_take, List.length_drop, marks_length]; omega))
        refine ⟨by omega, by omega, b_9, f_10, q_11, ?_⟩
        refine ⟨((l_b).getD (i : Int).toNat 0), (i_b).rd g0 q_11 (by omega) _, ?_⟩
        refine Br.intro (fun c_12 => ?_) (fun c_12 => ?_)
        · have e := e.trans (cond_t c_12)
          have c_12' := ine_t c_12
          rw [laws_eqInt64S_x1_ret]
          rw [e] at hk
          exact hk
        · have e := e.trans (cond_f c_12)
          have c_12' := ine_f c_12
          rw [show IntKind.wrap .i64 (i + 1) = (i + 1) from wrap64 (by omega) (by omega)]
          refine laws_eqInt64S_n1 (μ - 1) (by omega) ⟨rfl, (by first | omega | (simp only [List.length_append, List.length_cons, List.length_nil, List.length_set]; done) | (simp only [List.length_append, List.length_cons, List.length_nil, List.length_set]; omega)), (by first | omega | (simp only [List.length_append, List.length_cons, List.length_nil, List.length_set]; done) | (simp only [List.length_append, List.length_cons, List.length_nil, List.length_set]; omega)), (by omega), (by rw [show μ - 1 + 1 = μ from by omega]; exact e)⟩
      · have e := e.trans (cond_f c_5)
        have c_5' := of_decide_eq_false c_5
        rw [laws_eqInt64S_x1_0]
        rw [e] at hk
        exact hk
theorem laws_eqInt64S_ok : FnOk Try.prog 35 S_laws_eqInt64S := by
  refine FnOk.body mix_ok E_laws_eqInt64S_ok Try.func35 rfl (by kernel_rfl) (by kernel_rfl) ?_ ?_ ?_ ?_ ?_
  · intro args H K K' h hk
    simp only [S_laws_eqInt64S] at *
    unfold F_laws_eqInt64S at *
    split at hk
    · obtain ⟨l_a, l_b, i_a, i_b, bd_13, bd_14, k⟩ := hk
      exact ⟨l_a, l_b, i_a, i_b, bd_13, bd_14, h _ _ k⟩
    · exact hk.elim
  · intro _ args H K hk
    simp only [S_laws_eqInt64S] at *
    unfold F_laws_eqInt64S at *
    split at hk
    · obtain ⟨l_a, l_b, i_a, i_b, bd_13, bd_14, k⟩ := hk
      exact ⟨_, k, fun K' k' => ⟨l_a, l_b, i_a, i_b, bd_13, bd_14, k'⟩⟩
    · exact hk.elim
  · intro args H K hk
    simp only [S_laws_eqInt64S] at *
    unfold F_laws_eqInt64S at *
    split at hk
    · obtain ⟨l_a, l_b, i_a, i_b, bd_13, bd_14, k⟩ := hk
      exact ⟨_, _, k⟩
    · exact hk.elim
  · intro hq; cases hq
  · have mm := @laws_eqInt64S_main
    revert mm
    generalize bodyK Try.prog E_laws_eqInt64S Try.f35 = Q
    intro mm args H K hk
    simp only [S_laws_eqInt64S] at *
    unfold F_laws_eqInt64S at *
    split at hk
    · exact mm _ _ _ _ _ _ H K hk
    · exact hk.elim
def p_laws_markInt64S_l1 (l_a : List Int) (k : Int) : Nat → Int → Int → (List Int) → Int × (List Int)
  | 0, _, _, _ => (0, [])
  | μ + 1, k_1, i, y1_1 => (bif decide ((i : Int) < (l_a.length : Int)) then (p_laws_markInt64S_l1 l_a k μ (IntKind.wrap .i64 (k_1 + 1)) (i + 1) (((y1_1).set (i : Int).toNat (k_1 : Int)))) else (k_1, y1_1))
theorem p_laws_markInt64S_l1_s (l_a : List Int) (k : Int) (μ : Nat) (k_1 : Int) (i : Int) (y1_1 : List Int) : p_laws_markInt64S_l1 l_a k (μ + 1) k_1 i y1_1 = (bif decide ((i : Int) < (l_a.length : Int)) then (p_laws_markInt64S_l1 l_a k μ (IntKind.wrap .i64 (k_1 + 1)) (i + 1) (((y1_1).set (i : Int).toNat (k_1 : Int)))) else (k_1, y1_1)) := rfl
def p_laws_markInt64S (l_a : List Int) (k : Int) : Int × (List Int) := (p_laws_markInt64S_l1 l_a k (Int.toNat ((l_a.length : Int) - (0 : Int)) + 1) k (0 : Int) l_a)
theorem p_laws_markInt64S_eq (l_a : List Int) (k : Int) : p_laws_markInt64S l_a k = (p_laws_markInt64S_l1 l_a k (Int.toNat ((l_a.length : Int) - (0 : Int)) + 1) k (0 : Int) l_a) := rfl
def T_laws_markInt64S (a_a : Option Addr) (a_n : Nat) (a_e : Nat) (k : Int) (H : AHeap) (K : Int → AHeap → Prop) : Prop := ∃ lo : Nat, ∃ (l_a : List Int), OwnS fI H lo a_a a_n a_e l_a ∧ l_a.length < 1073741824 ∧ ((∀ H' : AHeap, KeepA a_a H H' → OwnS fI H' lo a_a a_n a_e (marks (fun n : Int => n) k l_a.length) → K (wk k l_a.length) H'))
theorem T_laws_markInt64S_i {a_a : Option Addr} {a_n : Nat} {a_e : Nat} {k : Int} {H : AHeap} {K : Int → AHeap → Prop} (h : ∃ lo : Nat, ∃ (l_a : List Int), OwnS fI H lo a_a a_n a_e l_a ∧ l_a.length < 1073741824 ∧ ((∀ H' : AHeap, KeepA a_a H H' → OwnS fI H' lo a_a a_n a_e (marks (fun n : Int => n) k l_a.length) → K (wk k l_a.length) H'))) : T_laws_markInt64S a_a a_n a_e k H K := h
theorem laws_markInt64S_go (l : List Int) (k0 : Int) : ∀ (μ : Nat) (k : Int) (i : Nat) (ys : List Int), ys.length = l.length → i ≤ l.length → l.length - i < μ →
    p_laws_markInt64S_l1 l k0 μ k (i : Int) ys = (wk k (l.length - i), ys.take i ++ marks (fun n : Int => n) k (l.length - i)) := by
  intro μ
  induction μ with
  | zero => intro k i ys _ _ h; omega
  | succ μ ih =>
    intro k i ys hy hi hm
    rw [p_laws_markInt64S_l1_s]
    by_cases h : i < l.length
    · rw [decide_eq_true (show (i : Int) < (l.length : Int) by omega), cond_true, Int.toNat_natCast]
      have := ih (IntKind.wrap .i64 (k + 1)) (i + 1) (ys.set i ((fun n : Int => n) k)) (by simp [hy]) (by omega) (by omega)
      obtain ⟨d, hd⟩ : ∃ d, l.length - i = d + 1 := ⟨l.length - i - 1, by omega⟩
      rw [show l.length - (i + 1) = d by omega] at this
      rw [hd, wk, marks]
      refine Eq.trans this ?_
      rw [List.take_add_one, List.getElem?_set_self (by omega), List.take_set_of_le (Nat.le_refl i)]
      simp
    · rw [decide_eq_false (show ¬ (i : Int) < (l.length : Int) by omega), cond_false]
      rw [show l.length - i = 0 by omega, wk, marks, List.append_nil, List.take_of_length_le (by omega)]
theorem laws_markInt64S_val (l : List Int) (k : Int) : p_laws_markInt64S l k = (wk k l.length, marks (fun n : Int => n) k l.length) := by
  rw [p_laws_markInt64S_eq]
  have := laws_markInt64S_go l k (Int.toNat ((l.length : Int) - 0) + 1) k 0 l rfl (by omega) (by omega)
  simpa using this
/-! laws_markInt64S: function 46 -/
def E_laws_markInt64S : Env := envOf []
def F_laws_markInt64S : List Value → AHeap → (Value → AHeap → Prop) → Prop
  | [.slice a_a a_n a_e, .int .i64 k], H, K => T_laws_markInt64S a_a a_n a_e k H fun (r1 : Int) (H' : AHeap) => K (.int .i64 r1) H'
  | _, _, _ => False
def S_laws_markInt64S : FSpec := { F := F_laws_markInt64S, quiet := false, tame := false }
theorem laws_markInt64S_vc (a_a : Option Addr) (a_n : Nat) (a_e : Nat) (k : Int) (H : AHeap) (K : Value → AHeap → Prop) : bodyK Try.prog E_laws_markInt64S Try.f46 [.slice a_a a_n a_e, .int .i64 k] H K =
  (loopK (exK Try.prog E_laws_markInt64S (cl (cl (cr (cl (cr (bodyC Try.f46))))))) [.slice a_a a_n a_e, .int .i64 k, undef, undef, .int .i64 0, .int .i64 0, undef, undef, undef, undef, undef, undef, undef, undef, undef, undef, undef, undef, undef] H (blockQ 0 (seqQ (exK Try.prog E_laws_markInt64S (cr (cr (bodyC Try.f46)))) (retK Try.prog Try.f46 K)))) := by kernel_rfl
theorem laws_markInt64S_r1 (a_a : Option Addr) (a_e : Nat) (a_n : Nat) (k_1 : Int) (i : Int) (g6 g7 g8 g9 g10 g11 g12 g13 g14 g15 g16 g17 : Value) (H : AHeap) (R : Post) : exK Try.prog E_laws_markInt64S (cl (cl (cr (cl (cr (bodyC Try.f46)))))) [.slice a_a a_n a_e, .int .i64 k_1, undef, undef, .int .i64 0, .int .i64 i, g6, g7, g8, g9, g10, g11, g12, g13, g14, g15, g16, g17, undef] H R =
  (Br (decide ((i : Int) < (a_n : Int))) ((0 : Int) ≤ i ∧ i < (a_n : Int) ∧ ∃ b1 f1, (a_a : Option Addr) = some ⟨b1, f1, none⟩ ∧ isOwn H b1 ∧ (∃ l, rdN H b1 (f1 + (i : Int).toNat * 1) 1 = some l) ∧ Lt (setC H b1 (f1 + (i : Int).toNat * 1) (.int .i64 k_1)) fun H1 => R .normal [.slice a_a a_n a_e, .int .i64 (IntKind.wrap .i64 (k_1 + 1)), undef, undef, .int .i64 0, .int .i64 (IntKind.wrap .i64 (i + 1)), .int .i64 i, .slice a_a a_n a_e, .int .i64 (a_n : Int), .bool (decide ((i : Int) < (a_n : Int))), .int .i64 i, .int .i64 (IntKind.wrap .i64 (i + 1)), .slice a_a a_n a_e, .int .i64 i, .int .i64 k_1, .pointer (some ⟨b1, f1 + (i : Int).toNat * 1, none⟩), .int .i64 k_1, .int .i64 (IntKind.wrap .i64 (k_1 + 1)), undef] H1) (R (.exit 0) [.slice a_a a_n a_e, .int .i64 k_1, undef, undef, .int .i64 0, .int .i64 i, .int .i64 i, .slice a_a a_n a_e, .int .i64 (a_n : Int), .bool (decide ((i : Int) < (a_n : Int))), g10, g11, g12, g13, g14, g15, g16, g17, undef] H)) := by kernel_rfl
def laws_markInt64S_I1 (a_a : Option Addr) (a_e : Nat) (a_n : Nat) (Inv : Nat → Int → Int → AHeap → Prop) : Nat → List Value → AHeap → Prop := fun μ tm H => ∃ (k_1 : Int), ∃ (i : Int), ∃ g6 g7 g8 g9 g10 g11 g12 g13 g14 g15 g16 g17, tm = [.slice a_a a_n a_e, .int .i64 k_1, undef, undef, .int .i64 0, .int .i64 i, g6, g7, g8, g9, g10, g11, g12, g13, g14, g15, g16, g17, undef] ∧ Inv μ k_1 i H
theorem laws_markInt64S_L1 (a_a : Option Addr) (a_e : Nat) (a_n : Nat) {Q : Post} (Inv : Nat → Int → Int → AHeap → Prop) (ν : Nat) (k_1 : Int) (i : Int) (g6 g7 g8 g9 g10 g11 g12 g13 g14 g15 g16 g17 : Value) (H : AHeap) (h0 : Inv ν k_1 i H)
    (hs : ∀ (μ : Nat) (k_1 : Int) (i : Int) (g6 g7 g8 g9 g10 g11 g12 g13 g14 g15 g16 g17 : Value) (H : AHeap), Inv μ k_1 i H → exK Try.prog E_laws_markInt64S (cl (cl (cr (cl (cr (bodyC Try.f46)))))) [.slice a_a a_n a_e, .int .i64 k_1, undef, undef, .int .i64 0, .int .i64 i, g6, g7, g8, g9, g10, g11, g12, g13, g14, g15, g16, g17, undef] H (loopQ (laws_markInt64S_I1 a_a a_e a_n Inv) μ Q)) : loopK (exK Try.prog E_laws_markInt64S (cl (cl (cr (cl (cr (bodyC Try.f46))))))) [.slice a_a a_n a_e, .int .i64 k_1, undef, undef, .int .i64 0, .int .i64 i, g6, g7, g8, g9, g10, g11, g12, g13, g14, g15, g16, g17, undef] H Q :=
  ⟨laws_markInt64S_I1 a_a a_e a_n Inv, ν, ⟨k_1, i, g6, g7, g8, g9, g10, g11, g12, g13, g14, g15, g16, g17, rfl, h0⟩, fun μ tm H h => by obtain ⟨k_1, i, g6, g7, g8, g9, g10, g11, g12, g13, g14, g15, g16, g17, rfl, hI⟩ := h; exact hs μ k_1 i g6 g7 g8 g9 g10 g11 g12 g13 g14 g15 g16 g17 H hI⟩
theorem laws_markInt64S_n1 {a_a : Option Addr} {a_e : Nat} {a_n : Nat} {Q : Post} {Inv : Nat → Int → Int → AHeap → Prop} {μ : Nat} (μ' : Nat) {k_1 : Int} {i : Int} {g6 g7 g8 g9 g10 g11 g12 g13 g14 g15 g16 g17 : Value} {H : AHeap} (hm : μ' < μ) (hI : Inv μ' k_1 i H) : loopQ (laws_markInt64S_I1 a_a a_e a_n Inv) μ Q .normal [.slice a_a a_n a_e, .int .i64 k_1, undef, undef, .int .i64 0, .int .i64 i, g6, g7, g8, g9, g10, g11, g12, g13, g14, g15, g16, g17, undef] H := ⟨μ', hm, k_1, i, g6, g7, g8, g9, g10, g11, g12, g13, g14, g15, g16, g17, rfl, hI⟩
theorem laws_markInt64S_x1_0 (a_a : Option Addr) (a_e : Nat) (a_n : Nat) (k_1 : Int) (i : Int) (g6 g7 g8 g9 g10 g11 g12 g13 g14 g15 g16 g17 : Value) (H : AHeap) (K : Value → AHeap → Prop)  {I : Nat → List Value → AHeap → Prop} {μ : Nat} : loopQ I μ (blockQ 0 (seqQ (exK Try.prog E_laws_markInt64S (cr (cr (bodyC Try.f46)))) (retK Try.prog Try.f46 K))) (.exit 0) [.slice a_a a_n a_e, .int .i64 k_1, undef, undef, .int .i64 0, .int .i64 i, g6, g7, g8, g9, g10, g11, g12, g13, g14, g15, g16, g17, undef] H =
  (K (.int .i64 k_1) H) := by kernel_rfl
theorem E_laws_markInt64S_ok : ∀ g, FnOk Try.prog g (E_laws_markInt64S g) := FnOk.envOf (by
  intro x hx; cases hx)
set_option maxHeartbeats 1000000 in
theorem laws_markInt64S_main (a_a : Option Addr) (a_n : Nat) (a_e : Nat) (k : Int) (H : AHeap) (K : Value → AHeap → Prop) (h : T_laws_markInt64S a_a a_n a_e k H fun (r1 : Int) (H' : AHeap) => K (.int .i64 r1) H') : bodyK Try.prog E_laws_markInt64S Try.f46 [.slice a_a a_n a_e, .int .i64 k] H K := by
  rw [laws_markInt64S_vc]
  obtain ⟨lo, l_a, i_a, bd_18, hk⟩ := h
  have hk : (∀ H' : AHeap, KeepA a_a H H' → OwnS fI H' lo a_a a_n a_e ((p_laws_markInt64S l_a k).2) → (fun (r1 : Int) (H' : AHeap) => K (.int .i64 r1) H') ((p_laws_markInt64S l_a k).1) H') := by rw [laws_markInt64S_val l_a k]; exact hk
  obtain rfl := i_a.len
  have up_m := i_a.up
  have lo_m := i_a.lo
  have e : (p_laws_markInt64S l_a k) = _ := rfl
  have e := e.trans (p_laws_markInt64S_eq l_a k)
  have g0 := KeepA.refl a_a H
  refine laws_markInt64S_L1 _ _ _ (fun (μ : Nat) (k_1 : Int) (i : Int) (H_1 : AHeap) => ∃ (y1_1 : List Int), OwnS fI H_1 lo a_a l_a.length a_e y1_1 ∧ y1_1.length = (l_a).length ∧ H.length ≤ H_1.length ∧ KeepA a_a H H_1 ∧ (0 : Int) ≤ i ∧ i ≤ (l_a.length : Int) ∧ (l_a.length : Int) - i ≤ (μ : Int) ∧ p_laws_markInt64S l_a k = p_laws_markInt64S_l1 l_a k (μ + 1) k_1 i y1_1) (Int.toNat ((l_a.length : Int) - (0 : Int))) _ _ _ _ _ _ _ _ _ _ _ _ _ _ H ?_ ?_
  · exact ⟨_, i_a, (by first | rfl | (simp; done)), (by omega), g0, (by first | omega | (simp; done) | (simp; omega)), (by first | omega | (simp; done) | (simp; omega)), (by omega), e⟩
  · intro μ k_1 i g6 g7 g8 g9 g10 g11 g12 g13 g14 g15 g16 g17 H_1 hI
    obtain ⟨y1_1, r_1, y_2, n_3, g_4, v_5, v_6, hμ, e⟩ := hI
    rw [laws_markInt64S_r1]
    have e := e.trans (p_laws_markInt64S_l1_s l_a k μ k_1 i y1_1)
    have l_7 := g_4.1
    refine Br.intro (fun c_8 => ?_) (fun c_8 => ?_)
    · have e := e.trans (cond_t c_8)
      have c_8' := of_decide_eq_true c_8
      obtain ⟨b_9, f_10, q_11⟩ := (r_1.isL).pos (by first | omega | (simp only [List.length_set, List.length_replicate, List.length_append, List.length_cons, List.length_nil, List.length_take, List.length_drop, marks_length]; done) | (simp only [List.length_set, List.length_replicate, List.length_append, List.length_cons, List.length_nil, List.length_take, List.length_drop, marks_length]; omega))
      refine ⟨by omega, by omega, b_9, f_10, q_11, ?_⟩
      refine Lt.setS r_1 q_11 (by first | omega | (simp only [List.length_set]; (first | omega | (simp only [List.length_set, List.length_replicate, List.length_append, List.length_cons, List.length_nil, List.length_take, List.length_drop, marks_length]; done) | (simp only [List.length_set, List.length_replicate, List.length_append, List.length_cons, List.length_nil, List.length_take, List.length_drop, marks_length]; omega)))) (fun H_2 hl_12 o_14 k_13 => ?_)
      have l_15 := k_13.1
      have g_16 := g_4.transA k_13
      have l_17 := g_16.1
      rw [show IntKind.wrap .i64 (i + 1) = (i + 1) from wrap64 (by omega) (by omega)]
      refine laws_markInt64S_n1 (μ - 1) (by omega) ⟨_, o_14, (by first | assumption | omega | (simp only [List.length_set]; first | rfl | assumption | omega)), (by omega), g_16, (by first | omega | (simp only [List.length_append, List.length_cons, List.length_nil, List.length_set]; done) | (simp only [List.length_append, List.length_cons, List.length_nil, List.length_set]; omega)), (by first | omega | (simp only [List.length_append, List.length_cons, List.length_nil, List.length_set]; done) | (simp only [List.length_append, List.length_cons, List.length_nil, List.length_set]; omega)), (by omega), (by rw [show μ - 1 + 1 = μ from by omega]; exact e)⟩
    · have e := e.trans (cond_f c_8)
      have c_8' := of_decide_eq_false c_8
      rw [laws_markInt64S_x1_0]
      rw [e] at hk
      exact hk H_1 g_4 r_1
theorem laws_markInt64S_ok : FnOk Try.prog 46 S_laws_markInt64S := by
  refine FnOk.body mix_ok E_laws_markInt64S_ok Try.func46 rfl (by kernel_rfl) (by kernel_rfl) ?_ ?_ ?_ ?_ ?_
  · intro args H K K' h hk
    simp only [S_laws_markInt64S] at *
    unfold F_laws_markInt64S at *
    split at hk
    · obtain ⟨lo, l_a, i_a, bd_18, k⟩ := hk
      exact ⟨lo, l_a, i_a, bd_18, (fun H' gg ow => h _ _ (k H' gg ow))⟩
    · exact hk.elim
  · intro hq; cases hq
  · intro args H K hk
    simp only [S_laws_markInt64S] at *
    unfold F_laws_markInt64S at *
    split at hk
    · obtain ⟨lo, l_a, i_a, bd_18, k⟩ := hk
      exact (OwnS.put i_a _ (by rw [marks_length])).elim fun H1 h => ⟨_, _, k H1 h.1 h.2⟩
    · exact hk.elim
  · intro hq; cases hq
  · have mm := @laws_markInt64S_main
    revert mm
    generalize bodyK Try.prog E_laws_markInt64S Try.f46 = Q
    intro mm args H K hk
    simp only [S_laws_markInt64S] at *
    unfold F_laws_markInt64S at *
    split at hk
    · exact mm _ _ _ _ H K hk
    · exact hk.elim
def p_laws_markBoolS_l1 (l_a : List Bool) (k : Int) : Nat → Int → Int → (List Bool) → Int × (List Bool)
  | 0, _, _, _ => (0, [])
  | μ + 1, k_1, i, y1_1 => (bif decide ((i : Int) < (l_a.length : Int)) then (p_laws_markBoolS_l1 l_a k μ (IntKind.wrap .i64 (k_1 + 1)) (i + 1) (((y1_1).set (i : Int).toNat (((Int.tmod k_1 3 : Int) == 0))))) else (k_1, y1_1))
theorem p_laws_markBoolS_l1_s (l_a : List Bool) (k : Int) (μ : Nat) (k_1 : Int) (i : Int) (y1_1 : List Bool) : p_laws_markBoolS_l1 l_a k (μ + 1) k_1 i y1_1 = (bif decide ((i : Int) < (l_a.length : Int)) then (p_laws_markBoolS_l1 l_a k μ (IntKind.wrap .i64 (k_1 + 1)) (i + 1) (((y1_1).set (i : Int).toNat (((Int.tmod k_1 3 : Int) == 0))))) else (k_1, y1_1)) := rfl
def p_laws_markBoolS (l_a : List Bool) (k : Int) : Int × (List Bool) := (p_laws_markBoolS_l1 l_a k (Int.toNat ((l_a.length : Int) - (0 : Int)) + 1) k (0 : Int) l_a)
theorem p_laws_markBoolS_eq (l_a : List Bool) (k : Int) : p_laws_markBoolS l_a k = (p_laws_markBoolS_l1 l_a k (Int.toNat ((l_a.length : Int) - (0 : Int)) + 1) k (0 : Int) l_a) := rfl
def T_laws_markBoolS (a_a : Option Addr) (a_n : Nat) (a_e : Nat) (k : Int) (H : AHeap) (K : Int → AHeap → Prop) : Prop := ∃ lo : Nat, ∃ (l_a : List Bool), OwnS fB H lo a_a a_n a_e l_a ∧ l_a.length < 1073741824 ∧ ((∀ H' : AHeap, KeepA a_a H H' → OwnS fB H' lo a_a a_n a_e (marks (fun n : Int => (Int.tmod n 3 == 0)) k l_a.length) → K (wk k l_a.length) H'))
theorem T_laws_markBoolS_i {a_a : Option Addr} {a_n : Nat} {a_e : Nat} {k : Int} {H : AHeap} {K : Int → AHeap → Prop} (h : ∃ lo : Nat, ∃ (l_a : List Bool), OwnS fB H lo a_a a_n a_e l_a ∧ l_a.length < 1073741824 ∧ ((∀ H' : AHeap, KeepA a_a H H' → OwnS fB H' lo a_a a_n a_e (marks (fun n : Int => (Int.tmod n 3 == 0)) k l_a.length) → K (wk k l_a.length) H'))) : T_laws_markBoolS a_a a_n a_e k H K := h
theorem laws_markBoolS_go (l : List Bool) (k0 : Int) : ∀ (μ : Nat) (k : Int) (i : Nat) (ys : List Bool), ys.length = l.length → i ≤ l.length → l.length - i < μ →
    p_laws_markBoolS_l1 l k0 μ k (i : Int) ys = (wk k (l.length - i), ys.take i ++ marks (fun n : Int => (Int.tmod n 3 == 0)) k (l.length - i)) := by
  intro μ
  induction μ with
  | zero => intro k i ys _ _ h; omega
  | succ μ ih =>
    intro k i ys hy hi hm
    rw [p_laws_markBoolS_l1_s]
    by_cases h : i < l.length
    · rw [decide_eq_true (show (i : Int) < (l.length : Int) by omega), cond_true, Int.toNat_natCast]
      have := ih (IntKind.wrap .i64 (k + 1)) (i + 1) (ys.set i ((fun n : Int => (Int.tmod n 3 == 0)) k)) (by simp [hy]) (by omega) (by omega)
      obtain ⟨d, hd⟩ : ∃ d, l.length - i = d + 1 := ⟨l.length - i - 1, by omega⟩
      rw [show l.length - (i + 1) = d by omega] at this
      rw [hd, wk, marks]
      refine Eq.trans this ?_
      rw [List.take_add_one, List.getElem?_set_self (by omega), List.take_set_of_le (Nat.le_refl i)]
      simp
    · rw [decide_eq_false (show ¬ (i : Int) < (l.length : Int) by omega), cond_false]
      rw [show l.length - i = 0 by omega, wk, marks, List.append_nil, List.take_of_length_le (by omega)]
theorem laws_markBoolS_val (l : List Bool) (k : Int) : p_laws_markBoolS l k = (wk k l.length, marks (fun n : Int => (Int.tmod n 3 == 0)) k l.length) := by
  rw [p_laws_markBoolS_eq]
  have := laws_markBoolS_go l k (Int.toNat ((l.length : Int) - 0) + 1) k 0 l rfl (by omega) (by omega)
  simpa using this
/-! laws_markBoolS: function 47 -/
def E_laws_markBoolS : Env := envOf []
def F_laws_markBoolS : List Value → AHeap → (Value → AHeap → Prop) → Prop
  | [.slice a_a a_n a_e, .int .i64 k], H, K => T_laws_markBoolS a_a a_n a_e k H fun (r1 : Int) (H' : AHeap) => K (.int .i64 r1) H'
  | _, _, _ => False
def S_laws_markBoolS : FSpec := { F := F_laws_markBoolS, quiet := false, tame := false }
theorem laws_markBoolS_vc (a_a : Option Addr) (a_n : Nat) (a_e : Nat) (k : Int) (H : AHeap) (K : Value → AHeap → Prop) : bodyK Try.prog E_laws_markBoolS Try.f47 [.slice a_a a_n a_e, .int .i64 k] H K =
  (loopK (exK Try.prog E_laws_markBoolS (cl (cl (cr (cl (cr (bodyC Try.f47))))))) [.slice a_a a_n a_e, .int .i64 k, undef, undef, .int .i64 0, .int .i64 0, undef, undef, undef, undef, undef, undef, undef, undef, undef, undef, undef, undef, undef, undef, undef] H (blockQ 0 (seqQ (exK Try.prog E_laws_markBoolS (cr (cr (bodyC Try.f47)))) (retK Try.prog Try.f47 K)))) := by kernel_rfl
theorem laws_markBoolS_r1 (a_a : Option Addr) (a_e : Nat) (a_n : Nat) (k_1 : Int) (i : Int) (g6 g7 g8 g9 g10 g11 g12 g13 g14 g15 g16 g17 g18 g19 : Value) (H : AHeap) (R : Post) : exK Try.prog E_laws_markBoolS (cl (cl (cr (cl (cr (bodyC Try.f47)))))) [.slice a_a a_n a_e, .int .i64 k_1, undef, undef, .int .i64 0, .int .i64 i, g6, g7, g8, g9, g10, g11, g12, g13, g14, g15, g16, g17, g18, g19, undef] H R =
  (Br (decide ((i : Int) < (a_n : Int))) (3 ≠ (0 : Int) ∧ (0 : Int) ≤ i ∧ i < (a_n : Int) ∧ ∃ b1 f1, (a_a : Option Addr) = some ⟨b1, f1, none⟩ ∧ isOwn H b1 ∧ (∃ l, rdN H b1 (f1 + (i : Int).toNat * 1) 1 = some l) ∧ Lt (setC H b1 (f1 + (i : Int).toNat * 1) (.bool ((Int.tmod k_1 3 : Int) == 0))) fun H1 => R .normal [.slice a_a a_n a_e, .int .i64 (IntKind.wrap .i64 (k_1 + 1)), undef, undef, .int .i64 0, .int .i64 (IntKind.wrap .i64 (i + 1)), .int .i64 i, .slice a_a a_n a_e, .int .i64 (a_n : Int), .bool (decide ((i : Int) < (a_n : Int))), .int .i64 i, .int .i64 (IntKind.wrap .i64 (i + 1)), .slice a_a a_n a_e, .int .i64 i, .int .i64 k_1, .int .i64 (Int.tmod k_1 3), .bool ((Int.tmod k_1 3 : Int) == 0), .pointer (some ⟨b1, f1 + (i : Int).toNat * 1, none⟩), .int .i64 k_1, .int .i64 (IntKind.wrap .i64 (k_1 + 1)), undef] H1) (R (.exit 0) [.slice a_a a_n a_e, .int .i64 k_1, undef, undef, .int .i64 0, .int .i64 i, .int .i64 i, .slice a_a a_n a_e, .int .i64 (a_n : Int), .bool (decide ((i : Int) < (a_n : Int))), g10, g11, g12, g13, g14, g15, g16, g17, g18, g19, undef] H)) := by kernel_rfl
def laws_markBoolS_I1 (a_a : Option Addr) (a_e : Nat) (a_n : Nat) (Inv : Nat → Int → Int → AHeap → Prop) : Nat → List Value → AHeap → Prop := fun μ tm H => ∃ (k_1 : Int), ∃ (i : Int), ∃ g6 g7 g8 g9 g10 g11 g12 g13 g14 g15 g16 g17 g18 g19, tm = [.slice a_a a_n a_e, .int .i64 k_1, undef, undef, .int .i64 0, .int .i64 i, g6, g7, g8, g9, g10, g11, g12, g13, g14, g15, g16, g17, g18, g19, undef] ∧ Inv μ k_1 i H
theorem laws_markBoolS_L1 (a_a : Option Addr) (a_e : Nat) (a_n : Nat) {Q : Post} (Inv : Nat → Int → Int → AHeap → Prop) (ν : Nat) (k_1 : Int) (i : Int) (g6 g7 g8 g9 g10 g11 g12 g13 g14 g15 g16 g17 g18 g19 : Value) (H : AHeap) (h0 : Inv ν k_1 i H)
    (hs : ∀ (μ : Nat) (k_1 : Int) (i : Int) (g6 g7 g8 g9 g10 g11 g12 g13 g14 g15 g16 g17 g18 g19 : Value) (H : AHeap), Inv μ k_1 i H → exK Try.prog E_laws_markBoolS (cl (cl (cr (cl (cr (bodyC Try.f47)))))) [.slice a_a a_n a_e, .int .i64 k_1, undef, undef, .int .i64 0, .int .i64 i, g6, g7, g8, g9, g10, g11, g12, g13, g14, g15, g16, g17, g18, g19, undef] H (loopQ (laws_markBoolS_I1 a_a a_e a_n Inv) μ Q)) : loopK (exK Try.prog E_laws_markBoolS (cl (cl (cr (cl (cr (bodyC Try.f47))))))) [.slice a_a a_n a_e, .int .i64 k_1, undef, undef, .int .i64 0, .int .i64 i, g6, g7, g8, g9, g10, g11, g12, g13, g14, g15, g16, g17, g18, g19, undef] H Q :=
  ⟨laws_markBoolS_I1 a_a a_e a_n Inv, ν, ⟨k_1, i, g6, g7, g8, g9, g10, g11, g12, g13, g14, g15, g16, g17, g18, g19, rfl, h0⟩, fun μ tm H h => by obtain ⟨k_1, i, g6, g7, g8, g9, g10, g11, g12, g13, g14, g15, g16, g17, g18, g19, rfl, hI⟩ := h; exact hs μ k_1 i g6 g7 g8 g9 g10 g11 g12 g13 g14 g15 g16 g17 g18 g19 H hI⟩
theorem laws_markBoolS_n1 {a_a : Option Addr} {a_e : Nat} {a_n : Nat} {Q : Post} {Inv : Nat → Int → Int → AHeap → Prop} {μ : Nat} (μ' : Nat) {k_1 : Int} {i : Int} {g6 g7 g8 g9 g10 g11 g12 g13 g14 g15 g16 g17 g18 g19 : Value} {H : AHeap} (hm : μ' < μ) (hI : Inv μ' k_1 i H) : loopQ (laws_markBoolS_I1 a_a a_e a_n Inv) μ Q .normal [.slice a_a a_n a_e, .int .i64 k_1, undef, undef, .int .i64 0, .int .i64 i, g6, g7, g8, g9, g10, g11, g12, g13, g14, g15, g16, g17, g18, g19, undef] H := ⟨μ', hm, k_1, i, g6, g7, g8, g9, g10, g11, g12, g13, g14, g15, g16, g17, g18, g19, rfl, hI⟩
theorem laws_markBoolS_x1_0 (a_a : Option Addr) (a_e : Nat) (a_n : Nat) (k_1 : Int) (i : Int) (g6 g7 g8 g9 g10 g11 g12 g13 g14 g15 g16 g17 g18 g19 : Value) (H : AHeap) (K : Value → AHeap → Prop)  {I : Nat → List Value → AHeap → Prop} {μ : Nat} : loopQ I μ (blockQ 0 (seqQ (exK Try.prog E_laws_markBoolS (cr (cr (bodyC Try.f47)))) (retK Try.prog Try.f47 K))) (.exit 0) [.slice a_a a_n a_e, .int .i64 k_1, undef, undef, .int .i64 0, .int .i64 i, g6, g7, g8, g9, g10, g11, g12, g13, g14, g15, g16, g17, g18, g19, undef] H =
  (K (.int .i64 k_1) H) := by kernel_rfl
theorem E_laws_markBoolS_ok : ∀ g, FnOk Try.prog g (E_laws_markBoolS g) := FnOk.envOf (by
  intro x hx; cases hx)
set_option maxHeartbeats 1000000 in
theorem laws_markBoolS_main (a_a : Option Addr) (a_n : Nat) (a_e : Nat) (k : Int) (H : AHeap) (K : Value → AHeap → Prop) (h : T_laws_markBoolS a_a a_n a_e k H fun (r1 : Int) (H' : AHeap) => K (.int .i64 r1) H') : bodyK Try.prog E_laws_markBoolS Try.f47 [.slice a_a a_n a_e, .int .i64 k] H K := by
  rw [laws_markBoolS_vc]
  obtain ⟨lo, l_a, i_a, bd_20, hk⟩ := h
  have hk : (∀ H' : AHeap, KeepA a_a H H' → OwnS fB H' lo a_a a_n a_e ((p_laws_markBoolS l_a k).2) → (fun (r1 : Int) (H' : AHeap) => K (.int .i64 r1) H') ((p_laws_markBoolS l_a k).1) H') := by rw [laws_markBoolS_val l_a k]; exact hk
  obtain rfl := i_a.len
  have up_m := i_a.up
  have lo_m := i_a.lo
  have e : (p_laws_markBoolS l_a k) = _ := rfl
  have e := e.trans (p_laws_markBoolS_eq l_a k)
  have g0 := KeepA.refl a_a H
  refine laws_markBoolS_L1 _ _ _ (fun (μ : Nat) (k_1 : Int) (i : Int) (H_1 : AHeap) => ∃ (y1_1 : List Bool), OwnS fB H_1 lo a_a l_a.length a_e y1_1 ∧ y1_1.length = (l_a).length ∧ H.length ≤ H_1.length ∧ KeepA a_a H H_1 ∧ (0 : Int) ≤ i ∧ i ≤ (l_a.length : Int) ∧ (l_a.length : Int) - i ≤ (μ : Int) ∧ p_laws_markBoolS l_a k = p_laws_markBoolS_l1 l_a k (μ + 1) k_1 i y1_1) (Int.toNat ((l_a.length : Int) - (0 : Int))) _ _ _ _ _ _ _ _ _ _ _ _ _ _ _ _ H ?_ ?_
  · exact ⟨_, i_a, (by first | rfl | (simp; done)), (by omega), g0, (by first | omega | (simp; done) | (simp; omega)), (by first | omega | (simp; done) | (simp; omega)), (by omega), e⟩
  · intro μ k_1 i g6 g7 g8 g9 g10 g11 g12 g13 g14 g15 g16 g17 g18 g19 H_1 hI
    obtain ⟨y1_1, r_1, y_2, n_3, g_4, v_5, v_6, hμ, e⟩ := hI
    rw [laws_markBoolS_r1]
    have e := e.trans (p_laws_markBoolS_l1_s l_a k μ k_1 i y1_1)
    have l_7 := g_4.1
    refine Br.intro (fun c_8 => ?_) (fun c_8 => ?_)
    · have e := e.trans (cond_t c_8)
      have c_8' := of_decide_eq_true c_8
      refine ⟨(by first | omega | decide | (simp; done) | (simp; omega)), ?_⟩
      have z_9 := tmod_rng k_1 3
      have z_10 := tmod_nn k_1 3
      obtain ⟨b_11, f_12, q_13⟩ := (r_1.isL).pos (by first | omega | (simp only [List.length_set, List.length_replicate, List.length_append, List.length_cons, List.length_nil, List.length_take, List.length_drop, marks_length]; done) | (simp only [List.length_set, List.length_replicate, List.length_append, List.length_cons, List.length_nil, List.length_take, List.length_drop, marks_length]; omega))
      refine ⟨by omega, by omega, b_11, f_12, q_13, ?_⟩
      refine Lt.setS r_1 q_13 (by first | omega | (simp only [List.length_set]; (first | omega | (simp only [List.length_set, List.length_replicate, List.length_append, List.length_cons, List.length_nil, List.length_take, List.length_drop, marks_length]; done) | (simp only [List.length_set, List.length_replicate, List.length_append, List.length_cons, List.length_nil, List.length_take, List.length_drop, marks_length]; omega)))) (fun H_2 hl_14 o_16 k_15 => ?_)
      have l_17 := k_15.1
      have g_18 := g_4.transA k_15
      have l_19 := g_18.1
      rw [show IntKind.wrap .i64 (i + 1) = (i + 1) from wrap64 (by omega) (by omega)]
      refine laws_markBoolS_n1 (μ - 1) (by omega) ⟨_, o_16, (by first | assumption | omega | (simp only [List.length_set]; first | rfl | assumption | omega)), (by omega), g_18, (by first | omega | (simp only [List.length_append, List.length_cons, List.length_nil, List.length_set]; done) | (simp only [List.length_append, List.length_cons, List.length_nil, List.length_set]; omega)), (by first | omega | (simp only [List.length_append, List.length_cons, List.length_nil, List.length_set]; done) | (simp only [List.length_append, List.length_cons, List.length_nil, List.length_set]; omega)), (by omega), (by rw [show μ - 1 + 1 = μ from by omega]; exact e)⟩
    · have e := e.trans (cond_f c_8)
      have c_8' := of_decide_eq_false c_8
      rw [laws_markBoolS_x1_0]
      rw [e] at hk
      exact hk H_1 g_4 r_1
theorem laws_markBoolS_ok : FnOk Try.prog 47 S_laws_markBoolS := by
  refine FnOk.body mix_ok E_laws_markBoolS_ok Try.func47 rfl (by kernel_rfl) (by kernel_rfl) ?_ ?_ ?_ ?_ ?_
  · intro args H K K' h hk
    simp only [S_laws_markBoolS] at *
    unfold F_laws_markBoolS at *
    split at hk
    · obtain ⟨lo, l_a, i_a, bd_20, k⟩ := hk
      exact ⟨lo, l_a, i_a, bd_20, (fun H' gg ow => h _ _ (k H' gg ow))⟩
    · exact hk.elim
  · intro hq; cases hq
  · intro args H K hk
    simp only [S_laws_markBoolS] at *
    unfold F_laws_markBoolS at *
    split at hk
    · obtain ⟨lo, l_a, i_a, bd_20, k⟩ := hk
      exact (OwnS.put i_a _ (by rw [marks_length])).elim fun H1 h => ⟨_, _, k H1 h.1 h.2⟩
    · exact hk.elim
  · intro hq; cases hq
  · have mm := @laws_markBoolS_main
    revert mm
    generalize bodyK Try.prog E_laws_markBoolS Try.f47 = Q
    intro mm args H K hk
    simp only [S_laws_markBoolS] at *
    unfold F_laws_markBoolS at *
    split at hk
    · exact mm _ _ _ _ H K hk
    · exact hk.elim
def p_laws_heldBoolS_l1 (l_a : List Bool) (k : Int) : Nat → Int → Int → Int → Int
  | 0, _, _, _ => 0
  | μ + 1, k_1, t4, i => (bif decide ((i : Int) < (l_a.length : Int)) then (bif !((((l_a).getD (i : Int).toNat false)) == ((Int.tmod k_1 3 : Int) == 0)) then ((-1) : Int) else (p_laws_heldBoolS_l1 l_a k μ (IntKind.wrap .i64 (k_1 + 1)) t4 (i + 1))) else k_1)
theorem p_laws_heldBoolS_l1_s (l_a : List Bool) (k : Int) (μ : Nat) (k_1 : Int) (t4 : Int) (i : Int) : p_laws_heldBoolS_l1 l_a k (μ + 1) k_1 t4 i = (bif decide ((i : Int) < (l_a.length : Int)) then (bif !((((l_a).getD (i : Int).toNat false)) == ((Int.tmod k_1 3 : Int) == 0)) then ((-1) : Int) else (p_laws_heldBoolS_l1 l_a k μ (IntKind.wrap .i64 (k_1 + 1)) t4 (i + 1))) else k_1) := rfl
def p_laws_heldBoolS (l_a : List Bool) (k : Int) : Int := (p_laws_heldBoolS_l1 l_a k (Int.toNat ((l_a.length : Int) - (0 : Int)) + 1) k (0 : Int) (0 : Int))
theorem p_laws_heldBoolS_eq (l_a : List Bool) (k : Int) : p_laws_heldBoolS l_a k = (p_laws_heldBoolS_l1 l_a k (Int.toNat ((l_a.length : Int) - (0 : Int)) + 1) k (0 : Int) (0 : Int)) := rfl
def T_laws_heldBoolS (a_a : Option Addr) (a_n : Nat) (a_e : Nat) (k : Int) (H : AHeap) (K : Int → AHeap → Prop) : Prop := ∃ (l_a : List Bool), IsL fB H a_a a_n l_a ∧ l_a.length < 1073741824 ∧ K (p_laws_heldBoolS l_a k) H
theorem T_laws_heldBoolS_i {a_a : Option Addr} {a_n : Nat} {a_e : Nat} {k : Int} {H : AHeap} {K : Int → AHeap → Prop} (h : ∃ (l_a : List Bool), IsL fB H a_a a_n l_a ∧ l_a.length < 1073741824 ∧ K (p_laws_heldBoolS l_a k) H) : T_laws_heldBoolS a_a a_n a_e k H K := h
theorem laws_heldBoolS_go (k0 : Int) : ∀ (μ : Nat) (i : Nat) (pre : List Bool) (k t : Int) (n : Nat), pre.length = i → n < μ →
    p_laws_heldBoolS_l1 (pre ++ marks (fun n : Int => (Int.tmod n 3 == 0)) k n) k0 μ k t (i : Int) = wk k n := by
  intro μ
  induction μ with
  | zero => intro i pre k t n _ h; omega
  | succ μ ih =>
    intro i pre k t n hp hm
    rw [p_laws_heldBoolS_l1_s]
    have hl : (pre ++ marks (fun n : Int => (Int.tmod n 3 == 0)) k n).length = i + n := by rw [List.length_append, hp, marks_length]
    rw [hl]
    cases n with
    | zero => rw [decide_eq_false (show ¬ (i : Int) < ((i + 0 : Nat) : Int) by omega), cond_false]; rfl
    | succ n =>
      rw [decide_eq_true (show (i : Int) < ((i + (n + 1) : Nat) : Int) by omega), cond_true, Int.toNat_natCast]
      have hx : (pre ++ marks (fun n : Int => (Int.tmod n 3 == 0)) k (n + 1)).getD i false = (fun n : Int => (Int.tmod n 3 == 0)) k := by
        rw [List.getD_eq_getElem?_getD, List.getElem?_append_right (by omega), hp, Nat.sub_self]; rfl
      rw [hx]
      simp only [BEq.rfl, Bool.not_true, cond_false]
      have := ih (i + 1) (pre ++ [(fun n : Int => (Int.tmod n 3 == 0)) k]) (IntKind.wrap .i64 (k + 1)) t n (by simp [hp]) (by omega)
      rw [List.append_assoc] at this
      rw [wk]; exact this
theorem laws_heldBoolS_marks (k : Int) (n : Nat) : p_laws_heldBoolS (marks (fun n : Int => (Int.tmod n 3 == 0)) k n) k = wk k n := by
  rw [p_laws_heldBoolS_eq]
  have := laws_heldBoolS_go k (Int.toNat (((marks (fun n : Int => (Int.tmod n 3 == 0)) k n).length : Int) - 0) + 1) 0 [] k 0 n rfl (by rw [marks_length]; omega)
  simpa using this
/-! laws_heldBoolS: function 48 -/
def E_laws_heldBoolS : Env := envOf []
def F_laws_heldBoolS : List Value → AHeap → (Value → AHeap → Prop) → Prop
  | [.slice a_a a_n a_e, .int .i64 k], H, K => T_laws_heldBoolS a_a a_n a_e k H fun (r1 : Int) (H' : AHeap) => K (.int .i64 r1) H'
  | _, _, _ => False
def S_laws_heldBoolS : FSpec := { F := F_laws_heldBoolS, quiet := true, tame := false }
theorem laws_heldBoolS_vc (a_a : Option Addr) (a_n : Nat) (a_e : Nat) (k : Int) (H : AHeap) (K : Value → AHeap → Prop) : bodyK Try.prog E_laws_heldBoolS Try.f48 [.slice a_a a_n a_e, .int .i64 k] H K =
  (loopK (exK Try.prog E_laws_heldBoolS (cl (cl (cr (cl (cr (bodyC Try.f48))))))) [.slice a_a a_n a_e, .int .i64 k, undef, undef, .int .i64 0, .int .i64 0, undef, undef, undef, undef, undef, undef, undef, undef, undef, undef, undef, undef, undef, undef, undef, undef, undef] H (blockQ 0 (seqQ (exK Try.prog E_laws_heldBoolS (cr (cr (bodyC Try.f48)))) (retK Try.prog Try.f48 K)))) := by kernel_rfl
theorem laws_heldBoolS_r1 (a_a : Option Addr) (a_e : Nat) (a_n : Nat) (k_1 : Int) (t4 : Int) (i : Int) (g6 g7 g8 g9 g10 g11 g12 g13 g14 g15 g16 g17 g18 g19 g20 g21 : Value) (H : AHeap) (R : Post) : exK Try.prog E_laws_heldBoolS (cl (cl (cr (cl (cr (bodyC Try.f48)))))) [.slice a_a a_n a_e, .int .i64 k_1, undef, undef, .int .i64 t4, .int .i64 i, g6, g7, g8, g9, g10, g11, g12, g13, g14, g15, g16, g17, g18, g19, g20, g21, undef] H R =
  (Br (decide ((i : Int) < (a_n : Int))) ((0 : Int) ≤ i ∧ i < (a_n : Int) ∧ ∃ b1 f1, (a_a : Option Addr) = some ⟨b1, f1, none⟩ ∧ ∃ x1 : Bool,  rdC H b1 (f1 + (i : Int).toNat * 1) = some (.bool x1) ∧ 3 ≠ (0 : Int) ∧ Br (!(x1 == ((Int.tmod k_1 3 : Int) == 0))) (R .ret [.slice a_a a_n a_e, .int .i64 k_1, undef, undef, .int .i64 (-1), .int .i64 i, .int .i64 i, .slice a_a a_n a_e, .int .i64 (a_n : Int), .bool (decide ((i : Int) < (a_n : Int))), g10, g11, .slice a_a a_n a_e, .int .i64 i, .pointer (some ⟨b1, f1 + (i : Int).toNat * 1, none⟩), .bool x1, .int .i64 k_1, .int .i64 (Int.tmod k_1 3), .bool ((Int.tmod k_1 3 : Int) == 0), .bool (!(x1 == ((Int.tmod k_1 3 : Int) == 0))), g20, g21, undef] H) (R .normal [.slice a_a a_n a_e, .int .i64 (IntKind.wrap .i64 (k_1 + 1)), undef, undef, .int .i64 t4, .int .i64 (IntKind.wrap .i64 (i + 1)), .int .i64 i, .slice a_a a_n a_e, .int .i64 (a_n : Int), .bool (decide ((i : Int) < (a_n : Int))), .int .i64 i, .int .i64 (IntKind.wrap .i64 (i + 1)), .slice a_a a_n a_e, .int .i64 i, .pointer (some ⟨b1, f1 + (i : Int).toNat * 1, none⟩), .bool x1, .int .i64 k_1, .int .i64 (Int.tmod k_1 3), .bool ((Int.tmod k_1 3 : Int) == 0), .bool (!(x1 == ((Int.tmod k_1 3 : Int) == 0))), .int .i64 k_1, .int .i64 (IntKind.wrap .i64 (k_1 + 1)), undef] H)) (R (.exit 0) [.slice a_a a_n a_e, .int .i64 k_1, undef, undef, .int .i64 t4, .int .i64 i, .int .i64 i, .slice a_a a_n a_e, .int .i64 (a_n : Int), .bool (decide ((i : Int) < (a_n : Int))), g10, g11, g12, g13, g14, g15, g16, g17, g18, g19, g20, g21, undef] H)) := by kernel_rfl
def laws_heldBoolS_I1 (a_a : Option Addr) (a_e : Nat) (a_n : Nat) (Inv : Nat → Int → Int → Int → AHeap → Prop) : Nat → List Value → AHeap → Prop := fun μ tm H => ∃ (k_1 : Int), ∃ (t4 : Int), ∃ (i : Int), ∃ g6 g7 g8 g9 g10 g11 g12 g13 g14 g15 g16 g17 g18 g19 g20 g21, tm = [.slice a_a a_n a_e, .int .i64 k_1, undef, undef, .int .i64 t4, .int .i64 i, g6, g7, g8, g9, g10, g11, g12, g13, g14, g15, g16, g17, g18, g19, g20, g21, undef] ∧ Inv μ k_1 t4 i H
theorem laws_heldBoolS_L1 (a_a : Option Addr) (a_e : Nat) (a_n : Nat) {Q : Post} (Inv : Nat → Int → Int → Int → AHeap → Prop) (ν : Nat) (k_1 : Int) (t4 : Int) (i : Int) (g6 g7 g8 g9 g10 g11 g12 g13 g14 g15 g16 g17 g18 g19 g20 g21 : Value) (H : AHeap) (h0 : Inv ν k_1 t4 i H)
    (hs : ∀ (μ : Nat) (k_1 : Int) (t4 : Int) (i : Int) (g6 g7 g8 g9 g10 g11 g12 g13 g14 g15 g16 g17 g18 g19 g20 g21 : Value) (H : AHeap), Inv μ k_1 t4 i H → exK Try.prog E_laws_heldBoolS (cl (cl (cr (cl (cr (bodyC Try.f48)))))) [.slice a_a a_n a_e, .int .i64 k_1, undef, undef, .int .i64 t4, .int .i64 i, g6, g7, g8, g9, g10, g11, g12, g13, g14, g15, g16, g17, g18, g19, g20, g21, undef] H (loopQ (laws_heldBoolS_I1 a_a a_e a_n Inv) μ Q)) : loopK (exK Try.prog E_laws_heldBoolS (cl (cl (cr (cl (cr (bodyC Try.f48))))))) [.slice a_a a_n a_e, .int .i64 k_1, undef, undef, .int .i64 t4, .int .i64 i, g6, g7, g8, g9, g10, g11, g12, g13, g14, g15, g16, g17, g18, g19, g20, g21, undef] H Q :=
  ⟨laws_heldBoolS_I1 a_a a_e a_n Inv, ν, ⟨k_1, t4, i, g6, g7, g8, g9, g10, g11, g12, g13, g14, g15, g16, g17, g18, g19, g20, g21, rfl, h0⟩, fun μ tm H h => by obtain ⟨k_1, t4, i, g6, g7, g8, g9, g10, g11, g12, g13, g14, g15, g16, g17, g18, g19, g20, g21, rfl, hI⟩ := h; exact hs μ k_1 t4 i g6 g7 g8 g9 g10 g11 g12 g13 g14 g15 g16 g17 g18 g19 g20 g21 H hI⟩
theorem laws_heldBoolS_n1 {a_a : Option Addr} {a_e : Nat} {a_n : Nat} {Q : Post} {Inv : Nat → Int → Int → Int → AHeap → Prop} {μ : Nat} (μ' : Nat) {k_1 : Int} {t4 : Int} {i : Int} {g6 g7 g8 g9 g10 g11 g12 g13 g14 g15 g16 g17 g18 g19 g20 g21 : Value} {H : AHeap} (hm : μ' < μ) (hI : Inv μ' k_1 t4 i H) : loopQ (laws_heldBoolS_I1 a_a a_e a_n Inv) μ Q .normal [.slice a_a a_n a_e, .int .i64 k_1, undef, undef, .int .i64 t4, .int .i64 i, g6, g7, g8, g9, g10, g11, g12, g13, g14, g15, g16, g17, g18, g19, g20, g21, undef] H := ⟨μ', hm, k_1, t4, i, g6, g7, g8, g9, g10, g11, g12, g13, g14, g15, g16, g17, g18, g19, g20, g21, rfl, hI⟩
theorem laws_heldBoolS_x1_0 (a_a : Option Addr) (a_e : Nat) (a_n : Nat) (k_1 : Int) (t4 : Int) (i : Int) (g6 g7 g8 g9 g10 g11 g12 g13 g14 g15 g16 g17 g18 g19 g20 g21 : Value) (H : AHeap) (K : Value → AHeap → Prop)  {I : Nat → List Value → AHeap → Prop} {μ : Nat} : loopQ I μ (blockQ 0 (seqQ (exK Try.prog E_laws_heldBoolS (cr (cr (bodyC Try.f48)))) (retK Try.prog Try.f48 K))) (.exit 0) [.slice a_a a_n a_e, .int .i64 k_1, undef, undef, .int .i64 t4, .int .i64 i, g6, g7, g8, g9, g10, g11, g12, g13, g14, g15, g16, g17, g18, g19, g20, g21, undef] H =
  (K (.int .i64 k_1) H) := by kernel_rfl
theorem laws_heldBoolS_x1_ret (a_a : Option Addr) (a_e : Nat) (a_n : Nat) (k_1 : Int) (t4 : Int) (i : Int) (g6 g7 g8 g9 g10 g11 g12 g13 g14 g15 g16 g17 g18 g19 g20 g21 : Value) (H : AHeap) (K : Value → AHeap → Prop)  {I : Nat → List Value → AHeap → Prop} {μ : Nat} : loopQ I μ (blockQ 0 (seqQ (exK Try.prog E_laws_heldBoolS (cr (cr (bodyC Try.f48)))) (retK Try.prog Try.f48 K))) .ret [.slice a_a a_n a_e, .int .i64 k_1, undef, undef, .int .i64 t4, .int .i64 i, g6, g7, g8, g9, g10, g11, g12, g13, g14, g15, g16, g17, g18, g19, g20, g21, undef] H =
  (K (.int .i64 t4) H) := by kernel_rfl
theorem E_laws_heldBoolS_ok : ∀ g, FnOk Try.prog g (E_laws_heldBoolS g) := FnOk.envOf (by
  intro x hx; cases hx)
set_option maxHeartbeats 1000000 in
theorem laws_heldBoolS_main (a_a : Option Addr) (a_n : Nat) (a_e : Nat) (k : Int) (H : AHeap) (K : Value → AHeap → Prop) (h : T_laws_heldBoolS a_a a_n a_e k H fun (r1 : Int) (H' : AHeap) => K (.int .i64 r1) H') : bodyK Try.prog E_laws_heldBoolS Try.f48 [.slice a_a a_n a_e, .int .i64 k] H K := by
  rw [laws_heldBoolS_vc]
  obtain ⟨l_a, i_a, bd_11, hk⟩ := h
  obtain rfl := i_a.eqn
  have e : (p_laws_heldBoolS l_a k) = _ := rfl
  have e := e.trans (p_laws_heldBoolS_eq l_a k)
  have g0 := Grow.refl H
  refine laws_heldBoolS_L1 _ _ _ (fun (μ : Nat) (k_1 : Int) (t4 : Int) (i : Int) (H_1 : AHeap) => H = H_1 ∧ (0 : Int) ≤ i ∧ i ≤ (l_a.length : Int) ∧ (l_a.length : Int) - i ≤ (μ : Int) ∧ p_laws_heldBoolS l_a k = p_laws_heldBoolS_l1 l_a k (μ + 1) k_1 t4 i) (Int.toNat ((l_a.length : Int) - (0 : Int))) _ _ _ _ _ _ _ _ _ _ _ _ _ _ _ _ _ _ _ H ?_ ?_
  · exact ⟨rfl, (by first | omega | (simp; done) | (simp; omega)), (by first | omega | (simp; done) | (simp; omega)), (by omega), e⟩
  · intro μ k_1 t4 i g6 g7 g8 g9 g10 g11 g12 g13 g14 g15 g16 g17 g18 g19 g20 g21 H_1 hI
    obtain ⟨rfl, v_1, v_2, hμ, e⟩ := hI
    rw [laws_heldBoolS_r1]
    have e := e.trans (p_laws_heldBoolS_l1_s l_a k μ k_1 t4 i)
    have l_3 := g0.1
    refine Br.intro (fun c_4 => ?_) (fun c_4 => ?_)
    · have e := e.trans (cond_t c_4)
      have c_4' := of_decide_eq_true c_4
      obtain ⟨b_5, f_6, q_7⟩ := ((i_a.grow g0)).pos (by first | omega | (simp only [List.length_set, List.length_replicate, List.length_append, List.length_cons, List.length_nil, List.length_take, List.length_drop, marks_length]; done) | (simp only [List.length_set, List.length_replicate, List.length_append, List.length_cons, List.length_nil, List.length_take, List.length_drop, marks_length]; omega))
      refine ⟨by omega, by omega, b_5, f_6, q_7, ?_⟩
      refine ⟨((l_a).getD (i : Int).toNat false), (i_a).rd g0 q_7 (by omega) _, ?_⟩
      refine ⟨(by first | omega | decide | (simp; done) | (simp; omega)), ?_⟩
      have z_8 := tmod_rng k_1 3
      have z_9 := tmod_nn k_1 3
      refine Br.intro (fun c_10 => ?_) (fun c_10 => ?_)
      · have e := e.trans (cond_t c_10)
        have c_10n := nf_of_t c_10
        rw [laws_heldBoolS_x1_ret]
        rw [e] at hk
        exact hk
      · have e := e.trans (cond_f c_10)
        have c_10n := nt_of_f c_10
        rw [show IntKind.wrap .i64 (i + 1) = (i + 1) from wrap64 (by omega) (by omega)]
        refine laws_heldBoolS_n1 (μ - 1) (by omega) ⟨rfl, (by first | omega | (simp only [List.length_append, List.length_cons, List.length_nil, List.length_set]; done) | (simp only [List.length_append, List.length_cons, List.length_nil, List.length_set]; omega)), (by first | omega | (simp only [List.length_append, List.length_cons, List.length_nil, List.length_set]; done) | (simp only [List.length_append, List.length_cons, List.length_nil, List.length_set]; omega)), (by omega), (by rw [show μ - 1 + 1 = μ from by omega]; exact e)⟩
    · have e := e.trans (cond_f c_4)
      have c_4' := of_decide_eq_false c_4
      rw [laws_heldBoolS_x1_0]
      rw [e] at hk
      exact hk
theorem laws_heldBoolS_ok : FnOk Try.prog 48 S_laws_heldBoolS := by
  refine FnOk.body mix_ok E_laws_heldBoolS_ok Try.func48 rfl (by kernel_rfl) (by kernel_rfl) ?_ ?_ ?_ ?_ ?_
  · intro args H K K' h hk
    simp only [S_laws_heldBoolS] at *
    unfold F_laws_heldBoolS at *
    split at hk
    · obtain ⟨l_a, i_a, bd_11, k⟩ := hk
      exact ⟨l_a, i_a, bd_11, h _ _ k⟩
    · exact hk.elim
  · intro _ args H K hk
    simp only [S_laws_heldBoolS] at *
    unfold F_laws_heldBoolS at *
    split at hk
    · obtain ⟨l_a, i_a, bd_11, k⟩ := hk
      exact ⟨_, k, fun K' k' => ⟨l_a, i_a, bd_11, k'⟩⟩
    · exact hk.elim
  · intro args H K hk
    simp only [S_laws_heldBoolS] at *
    unfold F_laws_heldBoolS at *
    split at hk
    · obtain ⟨l_a, i_a, bd_11, k⟩ := hk
      exact ⟨_, _, k⟩
    · exact hk.elim
  · intro hq; cases hq
  · have mm := @laws_heldBoolS_main
    revert mm
    generalize bodyK Try.prog E_laws_heldBoolS Try.f48 = Q
    intro mm args H K hk
    simp only [S_laws_heldBoolS] at *
    unfold F_laws_heldBoolS at *
    split at hk
    · exact mm _ _ _ _ H K hk
    · exact hk.elim
def p_laws_FnExactPlaneOf (l_aList : List Int) (aPlane : Int) : Bool := ((bif decide ((1048576 : Int) < (l_aList.length : Int)) then true else (bif !((p_laws_eqBoolS ((p_impl_PlaneOf l_aList aPlane).1) ((p_spec_PlaneOf l_aList aPlane).1))) then false else (bif !(((p_impl_PlaneOf l_aList aPlane).2) == ((p_spec_PlaneOf l_aList aPlane).2)) then false else (bif !(p_laws_eqInt64S l_aList l_aList) then false else (bif decide (((wk (1 : Int) l_aList.length) : Int) < 0) then false else (bif !((p_laws_eqBoolS ((p_impl_PlaneOf l_aList aPlane).1) ((p_spec_PlaneOf l_aList aPlane).1))) then false else (bif !(((p_impl_PlaneOf l_aList aPlane).2) == ((p_spec_PlaneOf l_aList aPlane).2)) then false else (bif decide (((p_laws_heldBoolS ((marks (fun n : Int => (Int.tmod n 3 == 0)) (1 : Int) ((p_impl_PlaneOf l_aList aPlane).1).length)) (1 : Int)) : Int) < 0) then false else (bif ((p_laws_heldBoolS ((marks (fun n : Int => (Int.tmod n 3 == 0)) (1 : Int) ((p_impl_PlaneOf l_aList aPlane).1).length)) (1 : Int)) : Int) != (wk (1 : Int) ((p_impl_PlaneOf l_aList aPlane).1).length) then false else (bif !((p_laws_eqBoolS ((p_impl_PlaneOf l_aList aPlane).1) ((p_spec_PlaneOf l_aList aPlane).1))) then false else (bif !(((p_impl_PlaneOf l_aList aPlane).2) == ((p_spec_PlaneOf l_aList aPlane).2)) then false else (bif decide (((p_laws_heldBoolS ((marks (fun n : Int => (Int.tmod n 3 == 0)) (1 : Int) ((p_impl_PlaneOf l_aList aPlane).1).length)) (1 : Int)) : Int) < 0) then false else (bif ((p_laws_heldBoolS ((marks (fun n : Int => (Int.tmod n 3 == 0)) (1 : Int) ((p_impl_PlaneOf l_aList aPlane).1).length)) (1 : Int)) : Int) != (wk (1 : Int) ((p_impl_PlaneOf l_aList aPlane).1).length) then false else true))))))))))))))
theorem p_laws_FnExactPlaneOf_eq (l_aList : List Int) (aPlane : Int) : p_laws_FnExactPlaneOf l_aList aPlane = ((bif decide ((1048576 : Int) < (l_aList.length : Int)) then true else (bif !((p_laws_eqBoolS ((p_impl_PlaneOf l_aList aPlane).1) ((p_spec_PlaneOf l_aList aPlane).1))) then false else (bif !(((p_impl_PlaneOf l_aList aPlane).2) == ((p_spec_PlaneOf l_aList aPlane).2)) then false else (bif !(p_laws_eqInt64S l_aList l_aList) then false else (bif decide (((wk (1 : Int) l_aList.length) : Int) < 0) then false else (bif !((p_laws_eqBoolS ((p_impl_PlaneOf l_aList aPlane).1) ((p_spec_PlaneOf l_aList aPlane).1))) then false else (bif !(((p_impl_PlaneOf l_aList aPlane).2) == ((p_spec_PlaneOf l_aList aPlane).2)) then false else (bif decide (((p_laws_heldBoolS ((marks (fun n : Int => (Int.tmod n 3 == 0)) (1 : Int) ((p_impl_PlaneOf l_aList aPlane).1).length)) (1 : Int)) : Int) < 0) then false else (bif ((p_laws_heldBoolS ((marks (fun n : Int => (Int.tmod n 3 == 0)) (1 : Int) ((p_impl_PlaneOf l_aList aPlane).1).length)) (1 : Int)) : Int) != (wk (1 : Int) ((p_impl_PlaneOf l_aList aPlane).1).length) then false else (bif !((p_laws_eqBoolS ((p_impl_PlaneOf l_aList aPlane).1) ((p_spec_PlaneOf l_aList aPlane).1))) then false else (bif !(((p_impl_PlaneOf l_aList aPlane).2) == ((p_spec_PlaneOf l_aList aPlane).2)) then false else (bif decide (((p_laws_heldBoolS ((marks (fun n : Int => (Int.tmod n 3 == 0)) (1 : Int) ((p_impl_PlaneOf l_aList aPlane).1).length)) (1 : Int)) : Int) < 0) then false else (bif ((p_laws_heldBoolS ((marks (fun n : Int => (Int.tmod n 3 == 0)) (1 : Int) ((p_impl_PlaneOf l_aList aPlane).1).length)) (1 : Int)) : Int) != (wk (1 : Int) ((p_impl_PlaneOf l_aList aPlane).1).length) then false else true)))))))))))))) := rfl
def T_laws_FnExactPlaneOf (aList_a : Option Addr) (aList_n : Nat) (aList_e : Nat) (aPlane : Int) (H : AHeap) (K : Bool → AHeap → Prop) : Prop := ∃ l_aList : List Int, IsL fI H aList_a aList_n l_aList ∧ (∀ y ∈ l_aList, I64 y) ∧ l_aList.length ≤ 9223372036854775807 ∧ I64 aPlane ∧ ∀ H' : AHeap, K true H'
theorem far_same {n : Int} (h : I64 n) : p_impl_far n = p_spec_l06Abs n := by
  unfold p_impl_far p_spec_l06Abs
  unfold I64 at h
  by_cases h0 : n < 0
  · rw [decide_eq_true h0, cond_true]
    by_cases hm : n = -9223372036854775808
    · subst hm; decide +kernel
    · rw [wrap64 (by omega) (by omega), if_pos (by omega)]
  · rw [decide_eq_false h0, cond_false, wrap64 (by omega) (by omega), if_neg (by omega)]
theorem digit_same {n plane : Int} (h : I64 n) (h0 : 0 ≤ plane) (h1 : plane ≤ 1000) : p_impl_digit n plane = p_spec_l06Digit n plane := by
  unfold p_impl_digit p_spec_l06Digit
  rw [far_same h, wrapu_id h0 (by omega)]
theorem i64_getD {l : List Int} (h : ∀ y ∈ l, I64 y) (i : Nat) : I64 (l.getD i 0) := by
  rw [List.getD_eq_getElem?_getD]
  cases hx : l[i]? with
  | none => exact ⟨by decide, by decide⟩
  | some y => exact h y (List.mem_of_getElem? hx)
theorem within_go (l : List Int) (m : Int) : ∀ (μ : Nat) (t : Bool) (i : Int), p_impl_areWithin_l1 l m μ t i = p_spec_l02Bound_l1 l m μ t i := by
  intro μ
  induction μ with
  | zero => intro t i; rfl
  | succ μ ih => intro t i; rw [p_impl_areWithin_l1_s, p_spec_l02Bound_l1_s, ih]; rfl
theorem integers_same (l : List Int) : p_impl_AreIntegers l = p_spec_l02Integers l := by
  rw [p_impl_AreIntegers_eq, p_spec_l02Integers_eq, p_impl_areWithin_eq, p_spec_l02Bound_eq, within_go]
  unfold p_impl_within
  cases decide ((1 : Int) ≤ (l.length : Int)) <;> cases decide (((l.length : Int) : Int) ≤ 128) <;> rfl
theorem wk_one {n : Nat} (h : n < 1073741824) : decide (wk 1 n < (0 : Int)) = false := by
  rw [wk_eq n 1 (by omega) (by omega)]; exact decide_eq_false (by omega)
theorem plane_go {l : List Int} {plane : Int} (hl : ∀ y ∈ l, I64 y) (h0 : 0 ≤ plane) (h1 : plane ≤ 1000) : ∀ (μ : Nat) (o : List Bool) (i : Int), p_impl_PlaneOf_l1 l plane μ o i = p_spec_PlaneOf_l1 l plane μ o i := by
  intro μ
  induction μ with
  | zero => intro o i; rfl
  | succ μ ih => intro o i; rw [p_impl_PlaneOf_l1_s, p_spec_PlaneOf_l1_s, ih, digit_same (i64_getD hl _) h0 h1]
theorem plane_same {l : List Int} (plane : Int) (hl : ∀ y ∈ l, I64 y) : p_impl_PlaneOf l plane = p_spec_PlaneOf l plane := by
  rw [p_impl_PlaneOf_eq, p_spec_PlaneOf_eq, integers_same, show p_impl_within plane 0 23 = p_spec_l00In plane 0 23 from rfl]
  cases p_spec_l02Integers l
  · rw [Bool.not_false, cond_true, cond_true]
  · cases h : p_spec_l00In plane 0 23
    · rw [Bool.not_true, cond_false, cond_false, Bool.not_false, cond_true, cond_true]
    · have := spec_l00In_t h
      rw [Bool.not_true, cond_false, cond_false, cond_false, cond_false, plane_go hl (by omega) (by omega)]
theorem laws_FnExactPlaneOf_true (l_aList : List Int) (aPlane : Int) (q0 : (∀ y ∈ l_aList, I64 y)) (q1 : I64 aPlane) : p_laws_FnExactPlaneOf l_aList aPlane = true := by
  rw [p_laws_FnExactPlaneOf_eq, plane_same aPlane q0]
  by_cases hL : (1048576 : Int) < (l_aList.length : Int)
  · rw [decide_eq_true hL]; rfl
  · have hr := spec_PlaneOf_len l_aList aPlane
    rw [decide_eq_false hL, cond_false]
    simp only [laws_eqBoolS_self, laws_eqInt64S_self, laws_heldBoolS_marks, Bool.not_true, cond_false, beq_self_eq_true, bne_self_eq_false, wk_one (show l_aList.length < 1073741824 by omega), wk_one (show (p_spec_PlaneOf l_aList aPlane).1.length < 1073741824 by omega)]
/-! laws_FnExactPlaneOf: function 13 -/
def E_laws_FnExactPlaneOf : Env := envOf [(33, S_laws_toInt64S), (44, S_spec_PlaneOf), (45, S_impl_PlaneOf), (22, S_laws_eqBoolS), (35, S_laws_eqInt64S), (46, S_laws_markInt64S), (47, S_laws_markBoolS), (48, S_laws_heldBoolS)]
def F_laws_FnExactPlaneOf : List Value → AHeap → (Value → AHeap → Prop) → Prop
  | [.slice aList_a aList_n aList_e, .int .i64 aPlane], H, K => T_laws_FnExactPlaneOf aList_a aList_n aList_e aPlane H fun (r1 : Bool) (H' : AHeap) => K (.bool r1) H'
  | _, _, _ => False
def S_laws_FnExactPlaneOf : FSpec := { F := F_laws_FnExactPlaneOf, quiet := false, tame := false }
theorem laws_FnExactPlaneOf_vc (aList_a : Option Addr) (aList_n : Nat) (aList_e : Nat) (aPlane : Int) (H : AHeap) (K : Value → AHeap → Prop) : bodyK Try.prog E_laws_FnExactPlaneOf Try.f13 [.slice aList_a aList_n aList_e, .int .i64 aPlane] H K =
  (Br (decide ((1048576 : Int) < (aList_n : Int))) (K (.bool true) H) (T_laws_toInt64S aList_a aList_n aList_e H fun (a1 : Option Addr) (r1 : Nat) (r2 : Nat) (H1 : AHeap) => T_spec_PlaneOf a1 r1 r2 aPlane H1 fun (a2 : Option Addr) (r3 : Nat) (r4 : Nat) (r5 : Bool) (H2 : AHeap) => T_laws_toInt64S aList_a aList_n aList_e H2 fun (a3 : Option Addr) (r6 : Nat) (r7 : Nat) (H3 : AHeap) => T_impl_PlaneOf a3 r6 r7 aPlane H3 fun (a4 : Option Addr) (r8 : Nat) (r9 : Nat) (r10 : Bool) (H4 : AHeap) => T_laws_eqBoolS a4 r8 r9 a2 r3 r4 H4 fun (r11 : Bool) (H5 : AHeap) => Br (!r11) (K (.bool false) H5) (Br (!(r10 == r5)) (K (.bool false) H5) (T_laws_toInt64S aList_a aList_n aList_e H5 fun (a5 : Option Addr) (r12 : Nat) (r13 : Nat) (H6 : AHeap) => T_laws_eqInt64S a3 r6 r7 a5 r12 r13 H6 fun (r14 : Bool) (H7 : AHeap) => Br (!r14) (K (.bool false) H7) (T_laws_markInt64S a3 r6 r7 1 H7 fun (r15 : Int) (H8 : AHeap) => Br (decide ((r15 : Int) < 0)) (K (.bool false) H8) (T_laws_eqBoolS a4 r8 r9 a2 r3 r4 H8 fun (r16 : Bool) (H9 : AHeap) => Br (!r16) (K (.bool false) H9) (Br (!(r10 == r5)) (K (.bool false) H9) (T_laws_markBoolS a4 r8 r9 1 H9 fun (r17 : Int) (H10 : AHeap) => T_laws_heldBoolS a4 r8 r9 1 H10 fun (r18 : Int) (H11 : AHeap) => Br (decide ((r18 : Int) < 0)) (K (.bool false) H11) (Br ((r18 : Int) != r17) (K (.bool false) H11) (T_laws_toInt64S aList_a aList_n aList_e H11 fun (a6 : Option Addr) (r19 : Nat) (r20 : Nat) (H12 : AHeap) => T_impl_PlaneOf a6 r19 r20 aPlane H12 fun (a7 : Option Addr) (r21 : Nat) (r22 : Nat) (r23 : Bool) (H13 : AHeap) => T_laws_eqBoolS a7 r21 r22 a2 r3 r4 H13 fun (r24 : Bool) (H14 : AHeap) => Br (!r24) (K (.bool false) H14) (Br (!(r23 == r5)) (K (.bool false) H14) (T_laws_heldBoolS a4 r8 r9 1 H14 fun (r25 : Int) (H15 : AHeap) => Br (decide ((r25 : Int) < 0)) (K (.bool false) H15) (Br ((r25 : Int) != r17) (K (.bool false) H15) (K (.bool true) H15)))))))))))))) := by kernel_rfl
theorem E_laws_FnExactPlaneOf_ok : ∀ g, FnOk Try.prog g (E_laws_FnExactPlaneOf g) := FnOk.envOf (by
  intro x hx
  simp only [List.mem_cons, List.not_mem_nil, or_false] at hx
  rcases hx with rfl | rfl | rfl | rfl | rfl | rfl | rfl | rfl
  · exact laws_toInt64S_ok
  · exact spec_PlaneOf_ok
  · exact impl_PlaneOf_ok
  · exact laws_eqBoolS_ok
  · exact laws_eqInt64S_ok
  · exact laws_markInt64S_ok
  · exact laws_markBoolS_ok
  · exact laws_heldBoolS_ok)
set_option maxHeartbeats 1000000 in
theorem laws_FnExactPlaneOf_main (aList_a : Option Addr) (aList_n : Nat) (aList_e : Nat) (aPlane : Int) (H : AHeap) (K : Value → AHeap → Prop) (h : T_laws_FnExactPlaneOf aList_a aList_n aList_e aPlane H fun (r1 : Bool) (H' : AHeap) => K (.bool r1) H') : bodyK Try.prog E_laws_FnExactPlaneOf Try.f13 [.slice aList_a aList_n aList_e, .int .i64 aPlane] H K := by
  rw [laws_FnExactPlaneOf_vc]
  obtain ⟨l_aList, h_0, h_1, h_2, h_3, hk⟩ := h
  have i_aList := h_0
  obtain rfl := i_aList.eqn
  have hl := laws_FnExactPlaneOf_true l_aList aPlane h_1 h_3
  have e : p_laws_FnExactPlaneOf l_aList aPlane = _ := rfl
  have e := e.trans (p_laws_FnExactPlaneOf_eq l_aList aPlane)
  have e := hl.symm.trans e
  have g0 := Grow.refl H
  refine Br.intro (fun c_1 => ?_) (fun c_1 => ?_)
  · have e := e.trans (cond_t c_1)
    have c_1' := of_decide_eq_true c_1
    first | exact hk _ | (exfalso; cases e; done) | (rw [← e]; exact hk _)
  · have e := e.trans (cond_f c_1)
    have c_1' := of_decide_eq_false c_1
    refine T_laws_toInt64S_i ⟨_, (i_aList.grow g0), (by first | omega | (simp only [List.length_set, List.length_replicate, List.length_append, List.length_cons, List.length_nil, List.length_take, List.length_drop, marks_length]; done) | (simp only [List.length_set, List.length_replicate, List.length_append, List.length_cons, List.length_nil, List.length_take, List.length_drop, marks_length]; omega)), fun a_2 n_3 e_4 H_1 g_6 r_5 => ?_⟩
    have l_7 := g_6.1
    have g_8 := g0.trans g_6
    have l_9 := g_8.1
    obtain rfl := r_5.isL.eqn
    have u_10 := r_5.up
    have u_11 := r_5.lo
    refine T_spec_PlaneOf_i ⟨_, r_5.isL, (by first | omega | (simp only [List.length_set, List.length_replicate, List.length_append, List.length_cons, List.length_nil, List.length_take, List.length_drop, marks_length]; done) | (simp only [List.length_set, List.length_replicate, List.length_append, List.length_cons, List.length_nil, List.length_take, List.length_drop, marks_length]; omega)), fun a_13 n_14 e_15 H_2 g_18 r_16 => ?_⟩
    have z_17 := spec_PlaneOf_len l_aList aPlane
    have l_19 := g_18.1
    have g_20 := g_8.trans g_18
    have l_21 := g_20.1
    have r_22 := r_5.grow g_18
    obtain rfl := r_16.isL.eqn
    have u_23 := r_16.up
    have u_24 := r_16.lo
    refine T_laws_toInt64S_i ⟨_, (i_aList.grow g_20), (by first | omega | (simp only [List.length_set, List.length_replicate, List.length_append, List.length_cons, List.length_nil, List.length_take, List.length_drop, marks_length]; done) | (simp only [List.length_set, List.length_replicate, List.length_append, List.length_cons, List.length_nil, List.length_take, List.length_drop, marks_length]; omega)), fun a_26 n_27 e_28 H_3 g_30 r_29 => ?_⟩
    have l_31 := g_30.1
    have g_32 := g_20.trans g_30
    have l_33 := g_32.1
    have r_34 := r_22.grow g_30
    have r_35 := r_16.grow g_30
    obtain rfl := r_29.isL.eqn
    have u_36 := r_29.up
    have u_37 := r_29.lo
    refine T_impl_PlaneOf_i ⟨_, r_29.isL, (by first | omega | (simp only [List.length_set, List.length_replicate, List.length_append, List.length_cons, List.length_nil, List.length_take, List.length_drop, marks_length]; done) | (simp only [List.length_set, List.length_replicate, List.length_append, List.length_cons, List.length_nil, List.length_take, List.length_drop, marks_length]; omega)), fun a_39 n_40 e_41 H_4 g_44 r_42 => ?_⟩
    have z_43 := impl_PlaneOf_len l_aList aPlane
    have l_45 := g_44.1
    have g_46 := g_32.trans g_44
    have l_47 := g_46.1
    have r_48 := r_34.grow g_44
    have r_49 := r_35.grow g_44
    have r_50 := r_29.grow g_44
    obtain rfl := r_42.isL.eqn
    have u_51 := r_42.up
    have u_52 := r_42.lo
    refine T_laws_eqBoolS_i ⟨_, _, r_42.isL, r_49.isL, (by first | omega | (simp only [List.length_set, List.length_replicate, List.length_append, List.length_cons, List.length_nil, List.length_take, List.length_drop, marks_length]; done) | (simp only [List.length_set, List.length_replicate, List.length_append, List.length_cons, List.length_nil, List.length_take, List.length_drop, marks_length]; omega)), (by first | omega | (simp only [List.length_set, List.length_replicate, List.length_append, List.length_cons, List.length_nil, List.length_take, List.length_drop, marks_length]; done) | (simp only [List.length_set, List.length_replicate, List.length_append, List.length_cons, List.length_nil, List.length_take, List.length_drop, marks_length]; omega)), ?_⟩
    refine Br.intro (fun c_54 => ?_) (fun c_54 => ?_)
    · have e := e.trans (cond_t c_54)
      have c_54n := nf_of_t c_54
      first | exact hk _ | (exfalso; cases e; done) | (rw [← e]; exact hk _)
    · have e := e.trans (cond_f c_54)
      have c_54n := nt_of_f c_54
      refine Br.intro (fun c_55 => ?_) (fun c_55 => ?_)
      · have e := e.trans (cond_t c_55)
        have c_55n := nf_of_t c_55
        first | exact hk _ | (exfalso; cases e; done) | (rw [← e]; exact hk _)
      · have e := e.trans (cond_f c_55)
        have c_55n := nt_of_f c_55
        refine T_laws_toInt64S_i ⟨_, (i_aList.grow g_46), (by first | omega | (simp only [List.length_set, List.length_replicate, List.length_append, List.length_cons, List.length_nil, List.length_take, List.length_drop, marks_length]; done) | (simp only [List.length_set, List.length_replicate, List.length_append, List.length_cons, List.length_nil, List.length_take, List.length_drop, marks_length]; omega)), fun a_56 n_57 e_58 H_5 g_60 r_59 => ?_⟩
        have l_61 := g_60.1
        have g_62 := g_46.trans g_60
        have l_63 := g_62.1
        have r_64 := r_48.grow g_60
        have r_65 := r_49.grow g_60
        have r_66 := r_50.grow g_60
        have r_67 := r_42.grow g_60
        obtain rfl := r_59.isL.eqn
        have u_68 := r_59.up
        have u_69 := r_59.lo
        refine T_laws_eqInt64S_i ⟨_, _, r_66.isL, r_59.isL, (by first | omega | (simp only [List.length_set, List.length_replicate, List.length_append, List.length_cons, List.length_nil, List.length_take, List.length_drop, marks_length]; done) | (simp only [List.length_set, List.length_replicate, List.length_append, List.length_cons, List.length_nil, List.length_take, List.length_drop, marks_length]; omega)), (by first | omega | (simp only [List.length_set, List.length_replicate, List.length_append, List.length_cons, List.length_nil, List.length_take, List.length_drop, marks_length]; done) | (simp only [List.length_set, List.length_replicate, List.length_append, List.length_cons, List.length_nil, List.length_take, List.length_drop, marks_length]; omega)), ?_⟩
        refine Br.intro (fun c_71 => ?_) (fun c_71 => ?_)
        · have e := e.trans (cond_t c_71)
          have c_71n := nf_of_t c_71
          first | exact hk _ | (exfalso; cases e; done) | (rw [← e]; exact hk _)
        · have e := e.trans (cond_f c_71)
          have c_71n := nt_of_f c_71
          refine T_laws_markInt64S_i ⟨_, _, r_66, (by first | omega | (simp only [List.length_set, List.length_replicate, List.length_append, List.length_cons, List.length_nil, List.length_take, List.length_drop, marks_length]; done) | (simp only [List.length_set, List.length_replicate, List.length_append, List.length_cons, List.length_nil, List.length_take, List.length_drop, marks_length]; omega)), (fun H_6 k_72 o_73 => ?_)⟩
          have l_74 := k_72.1
          have g_75 := g_62.keepA (fun x hx => by have := u_37 x hx; omega) k_72
          have l_76 := g_75.1
          have r_77 := r_64.keepA (fun x y hx hy => by have := u_37 x hx; have := u_36 x hx; have := u_11 y hy; have := u_10 y hy; omega) k_72
          have r_78 := r_65.keepA (fun x y hx hy => by have := u_37 x hx; have := u_36 x hx; have := u_24 y hy; have := u_23 y hy; omega) k_72
          have r_79 := r_67.keepA (fun x y hx hy => by have := u_37 x hx; have := u_36 x hx; have := u_52 y hy; have := u_51 y hy; omega) k_72
          have r_80 := r_59.keepA (fun x y hx hy => by have := u_37 x hx; have := u_36 x hx; have := u_69 y hy; have := u_68 y hy; omega) k_72
          refine Br.intro (fun c_81 => ?_) (fun c_81 => ?_)
          · have e := e.trans (cond_t c_81)
            have c_81' := of_decide_eq_true c_81
            first | exact hk _ | (exfalso; cases e; done) | (rw [← e]; exact hk _)
          · have e := e.trans (cond_f c_81)
            have c_81' := of_decide_eq_false c_81
            refine T_laws_eqBoolS_i ⟨_, _, r_79.isL, r_78.isL, (by first | omega | (simp only [List.length_set, List.length_replicate, List.length_append, List.length_cons, List.length_nil, List.length_take, List.length_drop, marks_length]; done) | (simp only [List.length_set, List.length_replicate, List.length_append, List.length_cons, List.length_nil, List.length_take, List.length_drop, marks_length]; omega)), (by first | omega | (simp only [List.length_set, List.length_replicate, List.length_append, List.length_cons, List.length_nil, List.length_take, List.length_drop, marks_length]; done) | (simp only [List.length_set, List.length_replicate, List.length_append, List.length_cons, List.length_nil, List.length_take, List.length_drop, marks_length]; omega)), ?_⟩
            refine Br.intro (fun c_82 => ?_) (fun c_82 => ?_)
            · have e := e.trans (cond_t c_82)
              have c_82n := nf_of_t c_82
              first | exact hk _ | (exfalso; cases e; done) | (rw [← e]; exact hk _)
            · have e := e.trans (cond_f c_82)
              have c_82n := nt_of_f c_82
              refine Br.intro (fun c_83 => ?_) (fun c_83 => ?_)
              · have e := e.trans (cond_t c_83)
                have c_83n := nf_of_t c_83
                first | exact hk _ | (exfalso; cases e; done) | (rw [← e]; exact hk _)
              · have e := e.trans (cond_f c_83)
                have c_83n := nt_of_f c_83
                refine T_laws_markBoolS_i ⟨_, _, r_79, (by first | omega | (simp only [List.length_set, List.length_replicate, List.length_append, List.length_cons, List.length_nil, List.length_take, List.length_drop, marks_length]; done) | (simp only [List.length_set, List.length_replicate, List.length_append, List.length_cons, List.length_nil, List.length_take, List.length_drop, marks_length]; omega)), (fun H_7 k_84 o_85 => ?_)⟩
                have l_86 := k_84.1
                have g_87 := g_75.keepA (fun x hx => by have := u_52 x hx; omega) k_84
                have l_88 := g_87.1
                have r_89 := r_77.keepA (fun x y hx hy => by have := u_52 x hx; have := u_51 x hx; have := u_11 y hy; have := u_10 y hy; omega) k_84
                have r_90 := r_78.keepA (fun x y hx hy => by have := u_52 x hx; have := u_51 x hx; have := u_24 y hy; have := u_23 y hy; omega) k_84
                have r_91 := o_73.keepA (fun x y hx hy => by have := u_52 x hx; have := u_51 x hx; have := u_37 y hy; have := u_36 y hy; omega) k_84
                have r_92 := r_80.keepA (fun x y hx hy => by have := u_52 x hx; have := u_51 x hx; have := u_69 y hy; have := u_68 y hy; omega) k_84
                refine T_laws_heldBoolS_i ⟨_, o_85.isL, (by first | omega | (simp only [List.length_set, List.length_replicate, List.length_append, List.length_cons, List.length_nil, List.length_take, List.length_drop, marks_length]; done) | (simp only [List.length_set, List.length_replicate, List.length_append, List.length_cons, List.length_nil, List.length_take, List.length_drop, marks_length]; omega)), ?_⟩
                refine Br.intro (fun c_93 => ?_) (fun c_93 => ?_)
                · have e := e.trans (cond_t c_93)
                  have c_93' := of_decide_eq_true c_93
                  first | exact hk _ | (exfalso; cases e; done) | (rw [← e]; exact hk _)
                · have e := e.trans (cond_f c_93)
                  have c_93' := of_decide_eq_false c_93
                  refine Br.intro (fun c_94 => ?_) (fun c_94 => ?_)
                  · have e := e.trans (cond_t c_94)
                    have c_94' := ine_t c_94
                    first | exact hk _ | (exfalso; cases e; done) | (rw [← e]; exact hk _)
                  · have e := e.trans (cond_f c_94)
                    have c_94' := ine_f c_94
                    refine T_laws_toInt64S_i ⟨_, (i_aList.grow g_87), (by first | omega | (simp only [List.length_set, List.length_replicate, List.length_append, List.length_cons, List.length_nil, List.length_take, List.length_drop, marks_length]; done) | (simp only [List.length_set, List.length_replicate, List.length_append, List.length_cons, List.length_nil, List.length_take, List.length_drop, marks_length]; omega)), fun a_95 n_96 e_97 H_8 g_99 r_98 => ?_⟩
                    have l_100 := g_99.1
                    have g_101 := g_87.trans g_99
                    have l_102 := g_101.1
                    have r_103 := r_89.grow g_99
                    have r_104 := r_90.grow g_99
                    have r_105 := r_91.grow g_99
                    have r_106 := o_85.grow g_99
                    have r_107 := r_92.grow g_99
                    obtain rfl := r_98.isL.eqn
                    have u_108 := r_98.up
                    have u_109 := r_98.lo
                    refine T_impl_PlaneOf_i ⟨_, r_98.isL, (by first | omega | (simp only [List.length_set, List.length_replicate, List.length_append, List.length_cons, List.length_nil, List.length_take, List.length_drop, marks_length]; done) | (simp only [List.length_set, List.length_replicate, List.length_append, List.length_cons, List.length_nil, List.length_take, List.length_drop, marks_length]; omega)), fun a_111 n_112 e_113 H_9 g_116 r_114 => ?_⟩
                    have z_115 := impl_PlaneOf_len l_aList aPlane
                    have l_117 := g_116.1
                    have g_118 := g_101.trans g_116
                    have l_119 := g_118.1
                    have r_120 := r_103.grow g_116
                    have r_121 := r_104.grow g_116
                    have r_122 := r_105.grow g_116
                    have r_123 := r_106.grow g_116
                    have r_124 := r_107.grow g_116
                    have r_125 := r_98.grow g_116
                    obtain rfl := r_114.isL.eqn
                    have u_126 := r_114.up
                    have u_127 := r_114.lo
                    refine T_laws_eqBoolS_i ⟨_, _, r_114.isL, r_121.isL, (by first | omega | (simp only [List.length_set, List.length_replicate, List.length_append, List.length_cons, List.length_nil, List.length_take, List.length_drop, marks_length]; done) | (simp only [List.length_set, List.length_replicate, List.length_append, List.length_cons, List.length_nil, List.length_take, List.length_drop, marks_length]; omega)), (by first | omega | (simp only [List.length_set, List.length_replicate, List.length_append, List.length_cons, List.length_nil, List.length_take, List.length_drop, marks_length]; done) | (simp only [List.length_set, List.length_replicate, List.length_append, List.length_cons, List.length_nil, List.length_take, List.length_drop, marks_length]; omega)), ?_⟩
                    refine Br.intro (fun c_129 => ?_) (fun c_129 => ?_)
                    · have e := e.trans (cond_t c_129)
                      have c_129n := nf_of_t c_129
                      first | exact hk _ | (exfalso; cases e; done) | (rw [← e]; exact hk _)
                    · have e := e.trans (cond_f c_129)
                      have c_129n := nt_of_f c_129
                      refine Br.intro (fun c_130 => ?_) (fun c_130 => ?_)
                      · have e := e.trans (cond_t c_130)
                        have c_130n := nf_of_t c_130
                        first | exact hk _ | (exfalso; cases e; done) | (rw [← e]; exact hk _)
                      · have e := e.trans (cond_f c_130)
                        have c_130n := nt_of_f c_130
                        refine T_laws_heldBoolS_i ⟨_, r_123.isL, (by first | omega | (simp only [List.length_set, List.length_replicate, List.length_append, List.length_cons, List.length_nil, List.length_take, List.length_drop, marks_length]; done) | (simp only [List.length_set, List.length_replicate, List.length_append, List.length_cons, List.length_nil, List.length_take, List.length_drop, marks_length]; omega)), ?_⟩
                        refine Br.intro (fun c_131 => ?_) (fun c_131 => ?_)
                        · have e := e.trans (cond_t c_131)
                          have c_131' := of_decide_eq_true c_131
                          first | exact hk _ | (exfalso; cases e; done) | (rw [← e]; exact hk _)
                        · have e := e.trans (cond_f c_131)
                          have c_131' := of_decide_eq_false c_131
                          refine Br.intro (fun c_132 => ?_) (fun c_132 => ?_)
                          · have e := e.trans (cond_t c_132)
                            have c_132' := ine_t c_132
                            first | exact hk _ | (exfalso; cases e; done) | (rw [← e]; exact hk _)
                          · have e := e.trans (cond_f c_132)
                            have c_132' := ine_f c_132
                            first | exact hk _ | (exfalso; cases e; done) | (rw [← e]; exact hk _)
theorem laws_FnExactPlaneOf_ok : FnOk Try.prog 13 S_laws_FnExactPlaneOf := by
  refine FnOk.body mix_ok E_laws_FnExactPlaneOf_ok Try.func13 rfl (by kernel_rfl) (by kernel_rfl) ?_ ?_ ?_ ?_ ?_
  · intro args H K K' h hk
    simp only [S_laws_FnExactPlaneOf] at *
    unfold F_laws_FnExactPlaneOf at *
    split at hk
    · obtain ⟨l_aList, h_0, h_1, h_2, h_3, k⟩ := hk
      exact ⟨l_aList, h_0, h_1, h_2, h_3, (fun H' => h _ _ (k H'))⟩
    · exact hk.elim
  · intro hq; cases hq
  · intro args H K hk
    simp only [S_laws_FnExactPlaneOf] at *
    unfold F_laws_FnExactPlaneOf at *
    split at hk
    · obtain ⟨l_aList, h_0, h_1, h_2, h_3, k⟩ := hk
      exact ⟨_, _, k []⟩
    · exact hk.elim
  · intro hq; cases hq
  · have mm := @laws_FnExactPlaneOf_main
    revert mm
    generalize bodyK Try.prog E_laws_FnExactPlaneOf Try.f13 = Q
    intro mm args H K hk
    simp only [S_laws_FnExactPlaneOf] at *
    unfold F_laws_FnExactPlaneOf at *
    split at hk
    · exact mm _ _ _ _ H K hk
    · exact hk.elim
end Go.Proofs.Ytfofkmlohmodeaa.Ai
