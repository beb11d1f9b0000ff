/- What functions of the program come to on the abstract machine, and that they do so; printed by a program of mine around proofs of mine. -/
import Derived.Test.YtfofkmlohmodeaaProg
import Derived.Test.YtfofkmlohmodeaaLibA
import Derived.Test.YtfofkmlohmodeaaOpen
import Derived.Test.YtfofkmlohmodeaaLibB
import Derived.Test.YtfofkmlohmodeaaFl
import Derived.Test.YtfofkmlohmodeaaExt
import Derived.Test.YtfofkmlohmodeaaFm
import Derived.Test.YtfofkmlohmodeaaFb
set_option linter.unusedVariables false
set_option linter.unusedSimpArgs false
set_option maxRecDepth 100000
namespace Go.Proofs.Ytfofkmlohmodeaa.Ai
open Go
attribute [local irreducible] bodyK
theorem mix_ok : Try.prog.follows .mixedOrders = true := by kernel_rfl
def p_laws_toInt64S_l1 (l_a : List Int) : Nat → Int → (List Int) → (List Int)
  | 0, _, _ => []
  | μ + 1, i, y1_1 => (bif decide ((i : Int) < (l_a.length : Int)) then (p_laws_toInt64S_l1 l_a μ (i + 1) (((y1_1).set (i : Int).toNat ((((l_a).getD (i : Int).toNat 0) : Int))))) else y1_1)
theorem p_laws_toInt64S_l1_s (l_a : List Int) (μ : Nat) (i : Int) (y1_1 : List Int) : p_laws_toInt64S_l1 l_a (μ + 1) i y1_1 = (bif decide ((i : Int) < (l_a.length : Int)) then (p_laws_toInt64S_l1 l_a μ (i + 1) (((y1_1).set (i : Int).toNat ((((l_a).getD (i : Int).toNat 0) : Int))))) else y1_1) := rfl
def p_laws_toInt64S (l_a : List Int) : (List Int) := (p_laws_toInt64S_l1 l_a (Int.toNat ((l_a.length : Int) - (0 : Int)) + 1) (0 : Int) (List.replicate (((l_a.length : Int)).toNat) 0))
theorem p_laws_toInt64S_eq (l_a : List Int) : p_laws_toInt64S l_a = (p_laws_toInt64S_l1 l_a (Int.toNat ((l_a.length : Int) - (0 : Int)) + 1) (0 : Int) (List.replicate (((l_a.length : Int)).toNat) 0)) := rfl
def T_laws_toInt64S (a_a : Option Addr) (a_n : Nat) (a_e : Nat) (H : AHeap) (K : (Option Addr) → Nat → Nat → AHeap → Prop) : Prop := ∃ (l_a : List Int), IsL fI H a_a a_n l_a ∧ l_a.length < 1073741824 ∧ ((∀ (r1_a : Option Addr) (r1_n r1_e : Nat), ∀ H' : AHeap, Grow H H' → OwnS fI H' H.length r1_a r1_n r1_e l_a → K r1_a r1_n r1_e H'))
theorem T_laws_toInt64S_i {a_a : Option Addr} {a_n : Nat} {a_e : Nat} {H : AHeap} {K : (Option Addr) → Nat → Nat → AHeap → Prop} (h : ∃ (l_a : List Int), IsL fI H a_a a_n l_a ∧ l_a.length < 1073741824 ∧ ((∀ (r1_a : Option Addr) (r1_n r1_e : Nat), ∀ H' : AHeap, Grow H H' → OwnS fI H' H.length r1_a r1_n r1_e l_a → K r1_a r1_n r1_e H'))) : T_laws_toInt64S a_a a_n a_e H K := h
theorem laws_toInt64S_go (l : List Int) : ∀ (μ : Nat) (i : Nat) (ys : List Int), ys.length = l.length → i ≤ l.length → l.length - i < μ →
    p_laws_toInt64S_l1 l μ (i : Int) (l.take i ++ ys.drop i) = l := by
  intro μ
  induction μ with
  | zero => intro i ys _ _ h; omega
  | succ μ ih =>
    intro i ys hy hi hm
    rw [p_laws_toInt64S_l1_s]
    by_cases h : i < l.length
    · rw [decide_eq_true (show (i : Int) < (l.length : Int) by omega), cond_true]
      have hx : l[i]? = some (l.getD i 0) := by rw [List.getD_eq_getElem?_getD, List.getElem?_eq_getElem h]; rfl
      rw [Int.toNat_natCast, set_front l ys i (by omega) hy.symm _ hx]
      exact ih (i + 1) ys hy (by omega) (by omega)
    · rw [decide_eq_false (show ¬ (i : Int) < (l.length : Int) by omega), cond_false]
      rw [List.take_of_length_le (by omega), List.drop_eq_nil_of_le (by omega), List.append_nil]
theorem laws_toInt64S_id (l : List Int) : p_laws_toInt64S l = l := by
  rw [p_laws_toInt64S_eq]
  have := laws_toInt64S_go l (Int.toNat ((l.length : Int) - 0) + 1) 0 (List.replicate ((l.length : Int)).toNat 0) (by simp) (by omega) (by omega)
  simpa using this
/-! laws_toInt64S: function 33 -/
def E_laws_toInt64S : Env := envOf []
def F_laws_toInt64S : List Value → AHeap → (Value → AHeap → Prop) → Prop
  | [.slice a_a a_n a_e], H, K => T_laws_toInt64S a_a a_n a_e H fun (r1_a : Option Addr) (r1_n : Nat) (r1_e : Nat) (H' : AHeap) => K (.slice r1_a r1_n r1_e) H'
  | _, _, _ => False
def S_laws_toInt64S : FSpec := { F := F_laws_toInt64S, quiet := false, tame := true }
theorem laws_toInt64S_vc (a_a : Option Addr) (a_n : Nat) (a_e : Nat) (H : AHeap) (K : Value → AHeap → Prop) : bodyK Try.prog E_laws_toInt64S Try.f33 [.slice a_a a_n a_e] H K =
  ((0 : Int) ≤ (a_n : Int) ∧ (a_n : Int) = (a_n : Int) ∧ (a_n : Int) < (most : Int) ∧ Al (zerosOf (.int .i64 0) ((a_n : Int)).toNat) H fun b1 H1 => loopK (exK Try.prog E_laws_toInt64S (cl (cl (cr (cl (cr (cr (bodyC Try.f33)))))))) [.slice a_a a_n a_e, undef, .slice none 0 0, .slice (some ⟨b1, 0, none⟩) (((a_n : Int)).toNat) 1, .int .i64 0, .slice a_a a_n a_e, .int .i64 (a_n : Int), .slice (some ⟨b1, 0, none⟩) (((a_n : Int)).toNat) 1, undef, undef, undef, undef, undef, undef, undef, undef, undef, undef, undef, undef, undef, undef] H1 (blockQ 0 (seqQ (exK Try.prog E_laws_toInt64S (cr (cr (cr (bodyC Try.f33))))) (retK Try.prog Try.f33 K)))) := by kernel_rfl
theorem laws_toInt64S_r1 (a_a : Option Addr) (a_e : Nat) (a_n : Nat) (b1 : Nat) (i : Int) (g8 g9 g10 g11 g12 g13 g14 g15 g16 g17 g18 g19 g20 : Value) (H : AHeap) (R : Post) : exK Try.prog E_laws_toInt64S (cl (cl (cr (cl (cr (cr (bodyC Try.f33))))))) [.slice a_a a_n a_e, undef, .slice none 0 0, .slice (some ⟨b1, 0, none⟩) (((a_n : Int)).toNat) 1, .int .i64 i, .slice a_a a_n a_e, .int .i64 (a_n : Int), .slice (some ⟨b1, 0, none⟩) (((a_n : Int)).toNat) 1, g8, g9, g10, g11, g12, g13, g14, g15, g16, g17, g18, g19, g20, undef] H R =
  (Br (decide ((i : Int) < (a_n : Int))) ((0 : Int) ≤ i ∧ i < (a_n : Int) ∧ ∃ b2 f1, (a_a : Option Addr) = some ⟨b2, f1, none⟩ ∧ ∃ x1 : Int,  rdC H b2 (f1 + (i : Int).toNat * 1) = some (.int .i64 x1) ∧ (0 : Int) ≤ i ∧ i < (((a_n : Int)).toNat : Int) ∧ ∃ b3 f2, (some ⟨b1, 0, none⟩ : Option Addr) = some ⟨b3, f2, none⟩ ∧ isOwn H b3 ∧ (∃ l, rdN H b3 (f2 + (i : Int).toNat * 1) 1 = some l) ∧ Lt (setC H b3 (f2 + (i : Int).toNat * 1) (.int .i64 x1)) fun H2 => R .normal [.slice a_a a_n a_e, undef, .slice none 0 0, .slice (some ⟨b1, 0, none⟩) (((a_n : Int)).toNat) 1, .int .i64 (IntKind.wrap .i64 (i + 1)), .slice a_a a_n a_e, .int .i64 (a_n : Int), .slice (some ⟨b1, 0, none⟩) (((a_n : Int)).toNat) 1, .int .i64 i, .slice a_a a_n a_e, .int .i64 (a_n : Int), .bool (decide ((i : Int) < (a_n : Int))), .int .i64 i, .int .i64 (IntKind.wrap .i64 (i + 1)), .slice (some ⟨b1, 0, none⟩) (((a_n : Int)).toNat) 1, .int .i64 i, .slice a_a a_n a_e, .int .i64 i, .pointer (some ⟨b2, f1 + (i : Int).toNat * 1, none⟩), .int .i64 x1, .pointer (some ⟨b3, f2 + (i : Int).toNat * 1, none⟩), undef] H2) (R (.exit 0) [.slice a_a a_n a_e, undef, .slice none 0 0, .slice (some ⟨b1, 0, none⟩) (((a_n : Int)).toNat) 1, .int .i64 i, .slice a_a a_n a_e, .int .i64 (a_n : Int), .slice (some ⟨b1, 0, none⟩) (((a_n : Int)).toNat) 1, .int .i64 i, .slice a_a a_n a_e, .int .i64 (a_n : Int), .bool (decide ((i : Int) < (a_n : Int))), g12, g13, g14, g15, g16, g17, g18, g19, g20, undef] H)) := by kernel_rfl
def laws_toInt64S_I1 (a_a : Option Addr) (a_e : Nat) (a_n : Nat) (b1 : Nat) (Inv : Nat → Int → AHeap → Prop) : Nat → List Value → AHeap → Prop := fun μ tm H => ∃ (i : Int), ∃ g8 g9 g10 g11 g12 g13 g14 g15 g16 g17 g18 g19 g20, tm = [.slice a_a a_n a_e, undef, .slice none 0 0, .slice (some ⟨b1, 0, none⟩) (((a_n : Int)).toNat) 1, .int .i64 i, .slice a_a a_n a_e, .int .i64 (a_n : Int), .slice (some ⟨b1, 0, none⟩) (((a_n : Int)).toNat) 1, g8, g9, g10, g11, g12, g13, g14, g15, g16, g17, g18, g19, g20, undef] ∧ Inv μ i H
theorem laws_toInt64S_L1 (a_a : Option Addr) (a_e : Nat) (a_n : Nat) (b1 : Nat) {Q : Post} (Inv : Nat → Int → AHeap → Prop) (ν : Nat) (i : Int) (g8 g9 g10 g11 g12 g13 g14 g15 g16 g17 g18 g19 g20 : Value) (H : AHeap) (h0 : Inv ν i H)
    (hs : ∀ (μ : Nat) (i : Int) (g8 g9 g10 g11 g12 g13 g14 g15 g16 g17 g18 g19 g20 : Value) (H : AHeap), Inv μ i H → exK Try.prog E_laws_toInt64S (cl (cl (cr (cl (cr (cr (bodyC Try.f33))))))) [.slice a_a a_n a_e, undef, .slice none 0 0, .slice (some ⟨b1, 0, none⟩) (((a_n : Int)).toNat) 1, .int .i64 i, .slice a_a a_n a_e, .int .i64 (a_n : Int), .slice (some ⟨b1, 0, none⟩) (((a_n : Int)).toNat) 1, g8, g9, g10, g11, g12, g13, g14, g15, g16, g17, g18, g19, g20, undef] H (loopQ (laws_toInt64S_I1 a_a a_e a_n b1 Inv) μ Q)) : loopK (exK Try.prog E_laws_toInt64S (cl (cl (cr (cl (cr (cr (bodyC Try.f33)))))))) [.slice a_a a_n a_e, undef, .slice none 0 0, .slice (some ⟨b1, 0, none⟩) (((a_n : Int)).toNat) 1, .int .i64 i, .slice a_a a_n a_e, .int .i64 (a_n : Int), .slice (some ⟨b1, 0, none⟩) (((a_n : Int)).toNat) 1, g8, g9, g10, g11, g12, g13, g14, g15, g16, g17, g18, g19, g20, undef] H Q :=
  ⟨laws_toInt64S_I1 a_a a_e a_n b1 Inv, ν, ⟨i, g8, g9, g10, g11, g12, g13, g14, g15, g16, g17, g18, g19, g20, rfl, h0⟩, fun μ tm H h => by obtain ⟨i, g8, g9, g10, g11, g12, g13, g14, g15, g16, g17, g18, g19, g20, rfl, hI⟩ := h; exact hs μ i g8 g9 g10 g11 g12 g13 g14 g15 g16 g17 g18 g19 g20 H hI⟩
theorem laws_toInt64S_n1 {a_a : Option Addr} {a_e : Nat} {a_n : Nat} {b1 : Nat} {Q : Post} {Inv : Nat → Int → AHeap → Prop} {μ : Nat} (μ' : Nat) {i : Int} {g8 g9 g10 g11 g12 g13 g14 g15 g16 g17 g18 g19 g20 : Value} {H : AHeap} (hm : μ' < μ) (hI : Inv μ' i H) : loopQ (laws_toInt64S_I1 a_a a_e a_n b1 Inv) μ Q .normal [.slice a_a a_n a_e, undef, .slice none 0 0, .slice (some ⟨b1, 0, none⟩) (((a_n : Int)).toNat) 1, .int .i64 i, .slice a_a a_n a_e, .int .i64 (a_n : Int), .slice (some ⟨b1, 0, none⟩) (((a_n : Int)).toNat) 1, g8, g9, g10, g11, g12, g13, g14, g15, g16, g17, g18, g19, g20, undef] H := ⟨μ', hm, i, g8, g9, g10, g11, g12, g13, g14, g15, g16, g17, g18, g19, g20, rfl, hI⟩
theorem laws_toInt64S_x1_0 (a_a : Option Addr) (a_e : Nat) (a_n : Nat) (b1 : Nat) (i : Int) (g8 g9 g10 g11 g12 g13 g14 g15 g16 g17 g18 g19 g20 : Value) (H : AHeap) (K : Value → AHeap → Prop)  {I : Nat → List Value → AHeap → Prop} {μ : Nat} : loopQ I μ (blockQ 0 (seqQ (exK Try.prog E_laws_toInt64S (cr (cr (cr (bodyC Try.f33))))) (retK Try.prog Try.f33 K))) (.exit 0) [.slice a_a a_n a_e, undef, .slice none 0 0, .slice (some ⟨b1, 0, none⟩) (((a_n : Int)).toNat) 1, .int .i64 i, .slice a_a a_n a_e, .int .i64 (a_n : Int), .slice (some ⟨b1, 0, none⟩) (((a_n : Int)).toNat) 1, g8, g9, g10, g11, g12, g13, g14, g15, g16, g17, g18, g19, g20, undef] H =
  (K (.slice (some ⟨b1, 0, none⟩) (((a_n : Int)).toNat) 1) H) := by kernel_rfl
theorem E_laws_toInt64S_ok : ∀ g, FnOk Try.prog g (E_laws_toInt64S g) := FnOk.envOf (by
  intro x hx; cases hx)
set_option maxHeartbeats 1000000 in
theorem laws_toInt64S_main (a_a : Option Addr) (a_n : Nat) (a_e : Nat) (H : AHeap) (K : Value → AHeap → Prop) (h : T_laws_toInt64S a_a a_n a_e H fun (r1_a : Option Addr) (r1_n : Nat) (r1_e : Nat) (H' : AHeap) => K (.slice r1_a r1_n r1_e) H') : bodyK Try.prog E_laws_toInt64S Try.f33 [.slice a_a a_n a_e] H K := by
  rw [laws_toInt64S_vc]
  obtain ⟨l_a, i_a, bd_29, hk⟩ := h
  have hk : (∀ (r1_a : Option Addr) (r1_n r1_e : Nat), ∀ H' : AHeap, Grow H H' → OwnS fI H' H.length r1_a r1_n r1_e (p_laws_toInt64S l_a) → (fun (r1_a : Option Addr) (r1_n : Nat) (r1_e : Nat) (H' : AHeap) => K (.slice r1_a r1_n r1_e) H') r1_a r1_n r1_e H') := by rw [laws_toInt64S_id l_a]; exact hk
  obtain rfl := i_a.eqn
  have e : (p_laws_toInt64S l_a) = _ := rfl
  have e := e.trans (p_laws_toInt64S_eq l_a)
  have g0 := Grow.refl H
  refine ⟨by omega, rfl, (by have := most_eq; omega), ?_⟩
  refine Al.intro (fun b_1 H_1 hb_2 hl_3 g_4 o_5 => ?_)
  rw [zeros_map fI 0 _ rfl] at o_5
  have l_7 := g_4.1
  have g_8 := g0.trans g_4
  have l_9 := g_8.1
  have w_28 := o_5.lt
  refine laws_toInt64S_L1 _ _ _ _ (fun (μ : Nat) (i : Int) (H_2 : AHeap) => ∃ (y1_1 : List Int), Own H_2 b_1 (y1_1.map fI) ∧ y1_1.length = ((l_a.length : Int)).toNat ∧ Grow H H_2 ∧ (0 : Int) ≤ i ∧ i ≤ (l_a.length : Int) ∧ (l_a.length : Int) - i ≤ (μ : Int) ∧ p_laws_toInt64S l_a = p_laws_toInt64S_l1 l_a (μ + 1) i y1_1) (Int.toNat ((l_a.length : Int) - (0 : Int))) _ _ _ _ _ _ _ _ _ _ _ _ _ _ H_1 ?_ ?_
  · exact ⟨_, o_5, (by first | rfl | (simp; done)), g_8, (by first | omega | (simp; done) | (simp; omega)), (by first | omega | (simp; done) | (simp; omega)), (by omega), e⟩
  · intro μ i g8 g9 g10 g11 g12 g13 g14 g15 g16 g17 g18 g19 g20 H_2 hI
    obtain ⟨y1_1, o_10, y_11, g_12, v_13, v_14, hμ, e⟩ := hI
    rw [laws_toInt64S_r1]
    have e := e.trans (p_laws_toInt64S_l1_s l_a μ i y1_1)
    have w_15 := o_10.lt
    have l_16 := g_12.1
    refine Br.intro (fun c_17 => ?_) (fun c_17 => ?_)
    · have e := e.trans (cond_t c_17)
      have c_17' := of_decide_eq_true c_17
      obtain ⟨b_18, f_19, q_20⟩ := ((i_a.grow g_12)).pos (by first | omega | (simp only [List.length_set, List.length_replicate, List.length_append, List.length_cons, List.length_nil, List.length_take, List.length_drop, marks_length]; done) | (simp only [List.length_set, List.length_replicate, List.length_append, List.length_cons, List.length_nil, List.length_take, List.length_drop, marks_length]; omega))
      refine ⟨by omega, by omega, b_18, f_19, q_20, ?_⟩
      refine ⟨((l_a).getD (i : Int).toNat 0), (i_a).rd g_12 q_20 (by omega) _, ?_⟩
      refine ⟨by omega, (by omega), _, _, rfl, ?_⟩
      refine Lt.set o_10 (by simp only [List.length_map]; (first | omega | (simp only [List.length_set, List.length_replicate, List.length_append, List.length_cons, List.length_nil, List.length_take, List.length_drop, marks_length]; done) | (simp only [List.length_set, List.length_replicate, List.length_append, List.length_cons, List.length_nil, List.length_take, List.length_drop, marks_length]; omega))) (fun H_3 hl_21 o_23 k_22 => ?_)
      have o_23 := map_set o_23
      have l_24 := k_22.1
      have g_25 := g_12.keep (b := b_1) (by omega) k_22
      have l_26 := g_25.1
      have w_27 := o_23.lt
      rw [show IntKind.wrap .i64 (i + 1) = (i + 1) from wrap64 (by omega) (by omega)]
      refine laws_toInt64S_n1 (μ - 1) (by first | omega) ⟨_, o_23, (by first | assumption | omega | (simp only [List.length_set]; first | rfl | assumption | omega)), g_25, (by first | omega | (simp only [List.length_append, List.length_cons, List.length_nil, List.length_set]; done) | (simp only [List.length_append, List.length_cons, List.length_nil, List.length_set]; omega)), (by first | omega | (simp only [List.length_append, List.length_cons, List.length_nil, List.length_set]; done) | (simp only [List.length_append, List.length_cons, List.length_nil, List.length_set]; omega)), (by first | omega), (by rw [show μ - 1 + 1 = μ from by first | omega]; exact e)⟩
    · have e := e.trans (cond_f c_17)
      have c_17' := of_decide_eq_false c_17
      rw [laws_toInt64S_x1_0]
      rw [e] at hk
      exact hk _ _ _ H_2 g_12 (o_10.ownS (by first | (simp only [List.length_replicate]; done) | omega | (simp; omega)) (by omega))
theorem laws_toInt64S_ok : FnOk Try.prog 33 S_laws_toInt64S := by
  refine FnOk.body mix_ok E_laws_toInt64S_ok Try.func33 rfl (by kernel_rfl) (by kernel_rfl) ?_ ?_ ?_ ?_ ?_
  · intro args H K K' h hk
    simp only [S_laws_toInt64S] at *
    unfold F_laws_toInt64S at *
    split at hk
    · obtain ⟨l_a, i_a, bd_29, k⟩ := hk
      exact ⟨l_a, i_a, bd_29, (fun r1_a r1_n r1_e H' gg ow0 => h _ _ (k r1_a r1_n r1_e H' gg ow0))⟩
    · exact hk.elim
  · intro hq; cases hq
  · intro args H K hk
    simp only [S_laws_toInt64S] at *
    unfold F_laws_toInt64S at *
    split at hk
    · obtain ⟨l_a, i_a, bd_29, k⟩ := hk
      exact liveS fun a n e H1 g o => ⟨_, _, k a n e H1 g o⟩
    · exact hk.elim
  · intro _ args H K hk
    simp only [S_laws_toInt64S] at *
    unfold F_laws_toInt64S at *
    split at hk
    · obtain ⟨l_a, i_a, bd_29, k⟩ := hk
      exact ⟨l_a, i_a, bd_29, (fun r1_a r1_n r1_e H' gg ow0 => ⟨gg, k r1_a r1_n r1_e H' gg ow0⟩)⟩
    · exact hk.elim
  · have mm := @laws_toInt64S_main
    revert mm
    generalize bodyK Try.prog E_laws_toInt64S Try.f33 = Q
    intro mm args H K hk
    simp only [S_laws_toInt64S] at *
    unfold F_laws_toInt64S at *
    split at hk
    · exact mm _ _ _ H K hk
    · exact hk.elim
def p_spec_l00In (n : Int) (low : Int) (high : Int) : Bool := (bif decide ((low : Int) ≤ n) then decide ((n : Int) ≤ high) else false)
theorem p_spec_l00In_eq (n : Int) (low : Int) (high : Int) : p_spec_l00In n low high = (bif decide ((low : Int) ≤ n) then decide ((n : Int) ≤ high) else false) := rfl
def T_spec_l00In (n : Int) (low : Int) (high : Int) (H : AHeap) (K : Bool → AHeap → Prop) : Prop := K (p_spec_l00In n low high) H
theorem spec_l00In_t {n a b : Int} (h : p_spec_l00In n a b = true) : a ≤ n ∧ n ≤ b := by
  unfold p_spec_l00In at h
  by_cases h1 : a ≤ n
  · rw [decide_eq_true h1, cond_true] at h; exact ⟨h1, of_decide_eq_true h⟩
  · rw [decide_eq_false h1] at h; cases h
theorem T_spec_l00In_i {n : Int} {low : Int} {high : Int} {H : AHeap} {K : Bool → AHeap → Prop} (h : K (p_spec_l00In n low high) H) : T_spec_l00In n low high H K := h
/-! spec_l00In: function 51 -/
def E_spec_l00In : Env := envOf []
def F_spec_l00In : List Value → AHeap → (Value → AHeap → Prop) → Prop
  | [.int .i64 n, .int .i64 low, .int .i64 high], H, K => T_spec_l00In n low high H fun (r1 : Bool) (H' : AHeap) => K (.bool r1) H'
  | _, _, _ => False
def S_spec_l00In : FSpec := { F := F_spec_l00In, quiet := true, tame := false }
theorem spec_l00In_vc (n : Int) (low : Int) (high : Int) (H : AHeap) (K : Value → AHeap → Prop) : bodyK Try.prog E_spec_l00In Try.f51 [.int .i64 n, .int .i64 low, .int .i64 high] H K =
  (Br (decide ((low : Int) ≤ n)) (K (.bool (decide ((n : Int) ≤ high))) H) (K (.bool false) H)) := by kernel_rfl
theorem E_spec_l00In_ok : ∀ g, FnOk Try.prog g (E_spec_l00In g) := FnOk.envOf (by
  intro x hx; cases hx)
set_option maxHeartbeats 1000000 in
theorem spec_l00In_main (n : Int) (low : Int) (high : Int) (H : AHeap) (K : Value → AHeap → Prop) (h : T_spec_l00In n low high H fun (r1 : Bool) (H' : AHeap) => K (.bool r1) H') : bodyK Try.prog E_spec_l00In Try.f51 [.int .i64 n, .int .i64 low, .int .i64 high] H K := by
  rw [spec_l00In_vc]
  unfold T_spec_l00In p_spec_l00In at h
  repeat' (first | exact h | (exfalso; simp_all; done) | (refine ⟨by decide, ?_⟩) | (refine Br.intro (fun hb => ?_) (fun hb => ?_) <;> (try simp only [hb, cond_true, cond_false, Bool.not_true, Bool.not_false] at h)))
theorem spec_l00In_ok : FnOk Try.prog 51 S_spec_l00In := by
  refine FnOk.body mix_ok E_spec_l00In_ok Try.func51 rfl (by kernel_rfl) (by kernel_rfl) ?_ ?_ ?_ ?_ ?_
  · intro args H K K' h hk
    simp only [S_spec_l00In] at *
    unfold F_spec_l00In at *
    split at hk
    · have k := hk
      exact h _ _ k
    · exact hk.elim
  · intro _ args H K hk
    simp only [S_spec_l00In] at *
    unfold F_spec_l00In at *
    split at hk
    · have k := hk
      exact ⟨_, k, fun K' k' => k'⟩
    · exact hk.elim
  · intro args H K hk
    simp only [S_spec_l00In] at *
    unfold F_spec_l00In at *
    split at hk
    · have k := hk
      exact ⟨_, _, k⟩
    · exact hk.elim
  · intro hq; cases hq
  · have mm := @spec_l00In_main
    revert mm
    generalize bodyK Try.prog E_spec_l00In Try.f51 = Q
    intro mm args H K hk
    simp only [S_spec_l00In] at *
    unfold F_spec_l00In at *
    split at hk
    · exact mm _ _ _ H K hk
    · exact hk.elim
def p_spec_l02Bound_l1 (l_list : List Int) (vmost : Int) : Nat → Bool → Int → Bool
  | 0, _, _ => false
  | μ + 1, t4, i => (bif decide ((i : Int) < (l_list.length : Int)) then (bif !((p_spec_l00In (((l_list).getD (i : Int).toNat 0)) (IntKind.wrap .i64 (0 - vmost)) vmost)) then false else (p_spec_l02Bound_l1 l_list vmost μ t4 (i + 1))) else true)
theorem p_spec_l02Bound_l1_s (l_list : List Int) (vmost : Int) (μ : Nat) (t4 : Bool) (i : Int) : p_spec_l02Bound_l1 l_list vmost (μ + 1) t4 i = (bif decide ((i : Int) < (l_list.length : Int)) then (bif !((p_spec_l00In (((l_list).getD (i : Int).toNat 0)) (IntKind.wrap .i64 (0 - vmost)) vmost)) then false else (p_spec_l02Bound_l1 l_list vmost μ t4 (i + 1))) else true) := rfl
def p_spec_l02Bound (l_list : List Int) (vmost : Int) : Bool := (p_spec_l02Bound_l1 l_list vmost (Int.toNat ((l_list.length : Int) - (0 : Int)) + 1) false (0 : Int))
theorem p_spec_l02Bound_eq (l_list : List Int) (vmost : Int) : p_spec_l02Bound l_list vmost = (p_spec_l02Bound_l1 l_list vmost (Int.toNat ((l_list.length : Int) - (0 : Int)) + 1) false (0 : Int)) := rfl
def T_spec_l02Bound (list_a : Option Addr) (list_n : Nat) (list_e : Nat) (vmost : Int) (H : AHeap) (K : Bool → AHeap → Prop) : Prop := ∃ (l_list : List Int), IsL fI H list_a list_n l_list ∧ l_list.length < 1073741824 ∧ K (p_spec_l02Bound l_list vmost) H
theorem T_spec_l02Bound_i {list_a : Option Addr} {list_n : Nat} {list_e : Nat} {vmost : Int} {H : AHeap} {K : Bool → AHeap → Prop} (h : ∃ (l_list : List Int), IsL fI H list_a list_n l_list ∧ l_list.length < 1073741824 ∧ K (p_spec_l02Bound l_list vmost) H) : T_spec_l02Bound list_a list_n list_e vmost H K := h
theorem spec_bound_go (l : List Int) (v : Int) (h0 : 0 ≤ v) (h1 : v ≤ 1000000) : ∀ (μ : Nat) (t : Bool) (i : Nat), l.length - i < μ → p_spec_l02Bound_l1 l v μ t (i : Int) = true → ∀ j : Nat, i ≤ j → -v ≤ l.getD j 0 ∧ l.getD j 0 ≤ v := by
  intro μ
  induction μ with
  | zero => intro t i h; omega
  | succ μ ih =>
    intro t i hm h j hj
    rw [p_spec_l02Bound_l1_s, Int.toNat_natCast, wrap64 (n := 0 - v) (by omega) (by omega)] at h
    by_cases c : (i : Int) < (l.length : Int)
    · rw [decide_eq_true c, cond_true] at h
      cases hin : p_spec_l00In (l.getD i 0) (0 - v) v with
      | false => rw [hin] at h; cases h
      | true =>
        rw [hin, Bool.not_true, cond_false] at h
        by_cases hji : j = i
        · subst hji; have := spec_l00In_t hin; omega
        · exact ih t (i + 1) (by omega) h j (by omega)
    · rw [List.getD_eq_getElem?_getD, List.getElem?_eq_none (by omega)]
      show -v ≤ (0 : Int) ∧ (0 : Int) ≤ v
      omega
theorem spec_bound_t {l : List Int} {v : Int} (h0 : 0 ≤ v) (h1 : v ≤ 1000000) (h : p_spec_l02Bound l v = true) : ∀ j : Nat, -v ≤ l.getD j 0 ∧ l.getD j 0 ≤ v := by
  rw [p_spec_l02Bound_eq] at h
  intro j
  exact spec_bound_go l v h0 h1 _ _ 0 (by omega) h j (Nat.zero_le _)
/-! spec_l02Bound: function 83 -/
def E_spec_l02Bound : Env := envOf [(51, S_spec_l00In)]
def F_spec_l02Bound : List Value → AHeap → (Value → AHeap → Prop) → Prop
  | [.slice list_a list_n list_e, .int .i64 vmost], H, K => T_spec_l02Bound list_a list_n list_e vmost H fun (r1 : Bool) (H' : AHeap) => K (.bool r1) H'
  | _, _, _ => False
def S_spec_l02Bound : FSpec := { F := F_spec_l02Bound, quiet := true, tame := false }
theorem spec_l02Bound_vc (list_a : Option Addr) (list_n : Nat) (list_e : Nat) (vmost : Int) (H : AHeap) (K : Value → AHeap → Prop) : bodyK Try.prog E_spec_l02Bound Try.f83 [.slice list_a list_n list_e, .int .i64 vmost] H K =
  (loopK (exK Try.prog E_spec_l02Bound (cl (cl (cr (cl (cr (bodyC Try.f83))))))) [.slice list_a list_n list_e, .int .i64 vmost, undef, undef, .bool false, .int .i64 0, undef, undef, undef, undef, undef, undef, undef, undef, undef, undef, undef, undef, undef, undef, undef] H (blockQ 0 (seqQ (exK Try.prog E_spec_l02Bound (cr (cr (bodyC Try.f83)))) (retK Try.prog Try.f83 K)))) := by kernel_rfl
theorem spec_l02Bound_r1 (list_a : Option Addr) (list_e : Nat) (list_n : Nat) (vmost : Int) (t4 : Bool) (i : Int) (g6 g7 g8 g9 g10 g11 g12 g13 g14 g15 g16 g17 g18 g19 g20 : Value) (H : AHeap) (R : Post) : exK Try.prog E_spec_l02Bound (cl (cl (cr (cl (cr (bodyC Try.f83)))))) [.slice list_a list_n list_e, .int .i64 vmost, undef, undef, .bool t4, .int .i64 i, g6, g7, g8, g9, g10, g11, g12, g13, g14, g15, g16, g17, g18, g19, g20] H R =
  (Br (decide ((i : Int) < (list_n : Int))) ((0 : Int) ≤ i ∧ i < (list_n : Int) ∧ ∃ b1 f1, (list_a : Option Addr) = some ⟨b1, f1, none⟩ ∧ ∃ x1 : Int,  rdC H b1 (f1 + (i : Int).toNat * 1) = some (.int .i64 x1) ∧ T_spec_l00In x1 (IntKind.wrap .i64 (0 - vmost)) vmost H fun (r1 : Bool) (H1 : AHeap) => Br (!r1) (R .ret [.slice list_a list_n list_e, .int .i64 vmost, undef, undef, .bool false, .int .i64 i, .int .i64 i, .slice list_a list_n list_e, .int .i64 (list_n : Int), .bool (decide ((i : Int) < (list_n : Int))), g10, g11, .slice list_a list_n list_e, .int .i64 i, .pointer (some ⟨b1, f1 + (i : Int).toNat * 1, none⟩), .int .i64 x1, .int .i64 vmost, .int .i64 (IntKind.wrap .i64 (0 - vmost)), .int .i64 vmost, .bool r1, .bool (!r1)] H1) (R .normal [.slice list_a list_n list_e, .int .i64 vmost, undef, undef, .bool t4, .int .i64 (IntKind.wrap .i64 (i + 1)), .int .i64 i, .slice list_a list_n list_e, .int .i64 (list_n : Int), .bool (decide ((i : Int) < (list_n : Int))), .int .i64 i, .int .i64 (IntKind.wrap .i64 (i + 1)), .slice list_a list_n list_e, .int .i64 i, .pointer (some ⟨b1, f1 + (i : Int).toNat * 1, none⟩), .int .i64 x1, .int .i64 vmost, .int .i64 (IntKind.wrap .i64 (0 - vmost)), .int .i64 vmost, .bool r1, .bool (!r1)] H1)) (R (.exit 0) [.slice list_a list_n list_e, .int .i64 vmost, undef, undef, .bool t4, .int .i64 i, .int .i64 i, .slice list_a list_n list_e, .int .i64 (list_n : Int), .bool (decide ((i : Int) < (list_n : Int))), g10, g11, g12, g13, g14, g15, g16, g17, g18, g19, g20] H)) := by kernel_rfl
def spec_l02Bound_I1 (list_a : Option Addr) (list_e : Nat) (list_n : Nat) (vmost : Int) (Inv : Nat → Bool → Int → AHeap → Prop) : Nat → List Value → AHeap → Prop := fun μ tm H => ∃ (t4 : Bool), ∃ (i : Int), ∃ g6 g7 g8 g9 g10 g11 g12 g13 g14 g15 g16 g17 g18 g19 g20, tm = [.slice list_a list_n list_e, .int .i64 vmost, undef, undef, .bool t4, .int .i64 i, g6, g7, g8, g9, g10, g11, g12, g13, g14, g15, g16, g17, g18, g19, g20] ∧ Inv μ t4 i H
theorem spec_l02Bound_L1 (list_a : Option Addr) (list_e : Nat) (list_n : Nat) (vmost : Int) {Q : Post} (Inv : Nat → Bool → Int → AHeap → Prop) (ν : Nat) (t4 : Bool) (i : Int) (g6 g7 g8 g9 g10 g11 g12 g13 g14 g15 g16 g17 g18 g19 g20 : Value) (H : AHeap) (h0 : Inv ν t4 i H)
    (hs : ∀ (μ : Nat) (t4 : Bool) (i : Int) (g6 g7 g8 g9 g10 g11 g12 g13 g14 g15 g16 g17 g18 g19 g20 : Value) (H : AHeap), Inv μ t4 i H → exK Try.prog E_spec_l02Bound (cl (cl (cr (cl (cr (bodyC Try.f83)))))) [.slice list_a list_n list_e, .int .i64 vmost, undef, undef, .bool t4, .int .i64 i, g6, g7, g8, g9, g10, g11, g12, g13, g14, g15, g16, g17, g18, g19, g20] H (loopQ (spec_l02Bound_I1 list_a list_e list_n vmost Inv) μ Q)) : loopK (exK Try.prog E_spec_l02Bound (cl (cl (cr (cl (cr (bodyC Try.f83))))))) [.slice list_a list_n list_e, .int .i64 vmost, undef, undef, .bool t4, .int .i64 i, g6, g7, g8, g9, g10, g11, g12, g13, g14, g15, g16, g17, g18, g19, g20] H Q :=
  ⟨spec_l02Bound_I1 list_a list_e list_n vmost Inv, ν, ⟨t4, i, g6, g7, g8, g9, g10, g11, g12, g13, g14, g15, g16, g17, g18, g19, g20, rfl, h0⟩, fun μ tm H h => by obtain ⟨t4, i, g6, g7, g8, g9, g10, g11, g12, g13, g14, g15, g16, g17, g18, g19, g20, rfl, hI⟩ := h; exact hs μ t4 i g6 g7 g8 g9 g10 g11 g12 g13 g14 g15 g16 g17 g18 g19 g20 H hI⟩
theorem spec_l02Bound_n1 {list_a : Option Addr} {list_e : Nat} {list_n : Nat} {vmost : Int} {Q : Post} {Inv : Nat → Bool → Int → AHeap → Prop} {μ : Nat} (μ' : Nat) {t4 : Bool} {i : Int} {g6 g7 g8 g9 g10 g11 g12 g13 g14 g15 g16 g17 g18 g19 g20 : Value} {H : AHeap} (hm : μ' < μ) (hI : Inv μ' t4 i H) : loopQ (spec_l02Bound_I1 list_a list_e list_n vmost Inv) μ Q .normal [.slice list_a list_n list_e, .int .i64 vmost, undef, undef, .bool t4, .int .i64 i, g6, g7, g8, g9, g10, g11, g12, g13, g14, g15, g16, g17, g18, g19, g20] H := ⟨μ', hm, t4, i, g6, g7, g8, g9, g10, g11, g12, g13, g14, g15, g16, g17, g18, g19, g20, rfl, hI⟩
theorem spec_l02Bound_x1_0 (list_a : Option Addr) (list_e : Nat) (list_n : Nat) (vmost : Int) (t4 : Bool) (i : Int) (g6 g7 g8 g9 g10 g11 g12 g13 g14 g15 g16 g17 g18 g19 g20 : Value) (H : AHeap) (K : Value → AHeap → Prop)  {I : Nat → List Value → AHeap → Prop} {μ : Nat} : loopQ I μ (blockQ 0 (seqQ (exK Try.prog E_spec_l02Bound (cr (cr (bodyC Try.f83)))) (retK Try.prog Try.f83 K))) (.exit 0) [.slice list_a list_n list_e, .int .i64 vmost, undef, undef, .bool t4, .int .i64 i, g6, g7, g8, g9, g10, g11, g12, g13, g14, g15, g16, g17, g18, g19, g20] H =
  (K (.bool true) H) := by kernel_rfl
theorem spec_l02Bound_x1_ret (list_a : Option Addr) (list_e : Nat) (list_n : Nat) (vmost : Int) (t4 : Bool) (i : Int) (g6 g7 g8 g9 g10 g11 g12 g13 g14 g15 g16 g17 g18 g19 g20 : Value) (H : AHeap) (K : Value → AHeap → Prop)  {I : Nat → List Value → AHeap → Prop} {μ : Nat} : loopQ I μ (blockQ 0 (seqQ (exK Try.prog E_spec_l02Bound (cr (cr (bodyC Try.f83)))) (retK Try.prog Try.f83 K))) .ret [.slice list_a list_n list_e, .int .i64 vmost, undef, undef, .bool t4, .int .i64 i, g6, g7, g8, g9, g10, g11, g12, g13, g14, g15, g16, g17, g18, g19, g20] H =
  (K (.bool t4) H) := by kernel_rfl
theorem E_spec_l02Bound_ok : ∀ g, FnOk Try.prog g (E_spec_l02Bound g) := FnOk.envOf (by
  intro x hx
  simp only [List.mem_cons, List.not_mem_nil, or_false] at hx
  subst hx; exact spec_l00In_ok)
set_option maxHeartbeats 1000000 in
theorem spec_l02Bound_main (list_a : Option Addr) (list_n : Nat) (list_e : Nat) (vmost : Int) (H : AHeap) (K : Value → AHeap → Prop) (h : T_spec_l02Bound list_a list_n list_e vmost H fun (r1 : Bool) (H' : AHeap) => K (.bool r1) H') : bodyK Try.prog E_spec_l02Bound Try.f83 [.slice list_a list_n list_e, .int .i64 vmost] H K := by
  rw [spec_l02Bound_vc]
  obtain ⟨l_list, i_list, bd_9, hk⟩ := h
  obtain rfl := i_list.eqn
  have e : (p_spec_l02Bound l_list vmost) = _ := rfl
  have e := e.trans (p_spec_l02Bound_eq l_list vmost)
  have g0 := Grow.refl H
  refine spec_l02Bound_L1 _ _ _ _ (fun (μ : Nat) (t4 : Bool) (i : Int) (H_1 : AHeap) => H = H_1 ∧ (0 : Int) ≤ i ∧ i ≤ (l_list.length : Int) ∧ (l_list.length : Int) - i ≤ (μ : Int) ∧ p_spec_l02Bound l_list vmost = p_spec_l02Bound_l1 l_list vmost (μ + 1) t4 i) (Int.toNat ((l_list.length : Int) - (0 : Int))) _ _ _ _ _ _ _ _ _ _ _ _ _ _ _ _ _ H ?_ ?_
  · exact ⟨rfl, (by first | omega | (simp; done) | (simp; omega)), (by first | omega | (simp; done) | (simp; omega)), (by omega), e⟩
  · intro μ t4 i g6 g7 g8 g9 g10 g11 g12 g13 g14 g15 g16 g17 g18 g19 g20 H_1 hI
    obtain ⟨rfl, v_1, v_2, hμ, e⟩ := hI
    rw [spec_l02Bound_r1]
    have e := e.trans (p_spec_l02Bound_l1_s l_list vmost μ t4 i)
    have l_3 := g0.1
    refine Br.intro (fun c_4 => ?_) (fun c_4 => ?_)
    · have e := e.trans (cond_t c_4)
      have c_4' := of_decide_eq_true c_4
      obtain ⟨b_5, f_6, q_7⟩ := ((i_list.grow g0)).pos (by first | omega | (simp only [List.length_set, List.length_replicate, List.length_append, List.length_cons, List.length_nil, List.length_take, List.length_drop, marks_length]; done) | (simp only [List.length_set, List.length_replicate, List.length_append, List.length_cons, List.length_nil, List.length_take, List.length_drop, marks_length]; omega))
      refine ⟨by omega, by omega, b_5, f_6, q_7, ?_⟩
      refine ⟨((l_list).getD (i : Int).toNat 0), (i_list).rd g0 q_7 (by omega) _, ?_⟩
      refine T_spec_l00In_i ?_
      refine Br.intro (fun c_8 => ?_) (fun c_8 => ?_)
      · have e := e.trans (cond_t c_8)
        have c_8n := nf_of_t c_8
        rw [spec_l02Bound_x1_ret]
        rw [e] at hk
        exact hk
      · have e := e.trans (cond_f c_8)
        have c_8n := nt_of_f c_8
        have c_8n' := spec_l00In_t c_8n
        rw [show IntKind.wrap .i64 (i + 1) = (i + 1) from wrap64 (by omega) (by omega)]
        refine spec_l02Bound_n1 (μ - 1) (by first | omega) ⟨rfl, (by first | omega | (simp only [List.length_append, List.length_cons, List.length_nil, List.length_set]; done) | (simp only [List.length_append, List.length_cons, List.length_nil, List.length_set]; omega)), (by first | omega | (simp only [List.length_append, List.length_cons, List.length_nil, List.length_set]; done) | (simp only [List.length_append, List.length_cons, List.length_nil, List.length_set]; omega)), (by first | omega), (by rw [show μ - 1 + 1 = μ from by first | omega]; exact e)⟩
    · have e := e.trans (cond_f c_4)
      have c_4' := of_decide_eq_false c_4
      rw [spec_l02Bound_x1_0]
      rw [e] at hk
      exact hk
theorem spec_l02Bound_ok : FnOk Try.prog 83 S_spec_l02Bound := by
  refine FnOk.body mix_ok E_spec_l02Bound_ok Try.func83 rfl (by kernel_rfl) (by kernel_rfl) ?_ ?_ ?_ ?_ ?_
  · intro args H K K' h hk
    simp only [S_spec_l02Bound] at *
    unfold F_spec_l02Bound at *
    split at hk
    · obtain ⟨l_list, i_list, bd_9, k⟩ := hk
      exact ⟨l_list, i_list, bd_9, h _ _ k⟩
    · exact hk.elim
  · intro _ args H K hk
    simp only [S_spec_l02Bound] at *
    unfold F_spec_l02Bound at *
    split at hk
    · obtain ⟨l_list, i_list, bd_9, k⟩ := hk
      exact ⟨_, k, fun K' k' => ⟨l_list, i_list, bd_9, k'⟩⟩
    · exact hk.elim
  · intro args H K hk
    simp only [S_spec_l02Bound] at *
    unfold F_spec_l02Bound at *
    split at hk
    · obtain ⟨l_list, i_list, bd_9, k⟩ := hk
      exact ⟨_, _, k⟩
    · exact hk.elim
  · intro hq; cases hq
  · have mm := @spec_l02Bound_main
    revert mm
    generalize bodyK Try.prog E_spec_l02Bound Try.f83 = Q
    intro mm args H K hk
    simp only [S_spec_l02Bound] at *
    unfold F_spec_l02Bound at *
    split at hk
    · exact mm _ _ _ _ H K hk
    · exact hk.elim
def p_spec_l02Integers (l_list : List Int) : Bool := (bif decide ((1 : Int) ≤ (l_list.length : Int)) then (bif decide (((l_list.length : Int) : Int) ≤ 128) then (p_spec_l02Bound l_list (1000000 : Int)) else false) else false)
theorem p_spec_l02Integers_eq (l_list : List Int) : p_spec_l02Integers l_list = (bif decide ((1 : Int) ≤ (l_list.length : Int)) then (bif decide (((l_list.length : Int) : Int) ≤ 128) then (p_spec_l02Bound l_list (1000000 : Int)) else false) else false) := rfl
def T_spec_l02Integers (list_a : Option Addr) (list_n : Nat) (list_e : Nat) (H : AHeap) (K : Bool → AHeap → Prop) : Prop := ∃ (l_list : List Int), IsL fI H list_a list_n l_list ∧ l_list.length < 1073741824 ∧ K (p_spec_l02Integers l_list) H
theorem T_spec_l02Integers_i {list_a : Option Addr} {list_n : Nat} {list_e : Nat} {H : AHeap} {K : Bool → AHeap → Prop} (h : ∃ (l_list : List Int), IsL fI H list_a list_n l_list ∧ l_list.length < 1073741824 ∧ K (p_spec_l02Integers l_list) H) : T_spec_l02Integers list_a list_n list_e H K := h
theorem spec_int_t {l : List Int} (h : p_spec_l02Integers l = true) : 1 ≤ (l.length : Int) ∧ (l.length : Int) ≤ 128 ∧ ∀ j : Nat, -1000000 ≤ l.getD j 0 ∧ l.getD j 0 ≤ 1000000 := by
  rw [p_spec_l02Integers_eq] at h
  by_cases a : (1 : Int) ≤ (l.length : Int)
  · rw [decide_eq_true a, cond_true] at h
    by_cases b : ((l.length : Int) : Int) ≤ 128
    · rw [decide_eq_true b, cond_true] at h
      exact ⟨a, b, spec_bound_t (by decide) (by decide) h⟩
    · rw [decide_eq_false b] at h; cases h
  · rw [decide_eq_false a] at h; cases h
/-! spec_l02Integers: function 68 -/
def E_spec_l02Integers : Env := envOf [(83, S_spec_l02Bound)]
def F_spec_l02Integers : List Value → AHeap → (Value → AHeap → Prop) → Prop
  | [.slice list_a list_n list_e], H, K => T_spec_l02Integers list_a list_n list_e H fun (r1 : Bool) (H' : AHeap) => K (.bool r1) H'
  | _, _, _ => False
def S_spec_l02Integers : FSpec := { F := F_spec_l02Integers, quiet := true, tame := false }
theorem spec_l02Integers_vc (list_a : Option Addr) (list_n : Nat) (list_e : Nat) (H : AHeap) (K : Value → AHeap → Prop) : bodyK Try.prog E_spec_l02Integers Try.f68 [.slice list_a list_n list_e] H K =
  (Br (decide ((1 : Int) ≤ (list_n : Int))) (Br (decide (((list_n : Int) : Int) ≤ 128)) (T_spec_l02Bound list_a list_n list_e 1000000 H fun (r1 : Bool) (H1 : AHeap) => K (.bool r1) H1) (K (.bool false) H)) (K (.bool false) H)) := by kernel_rfl
theorem E_spec_l02Integers_ok : ∀ g, FnOk Try.prog g (E_spec_l02Integers g) := FnOk.envOf (by
  intro x hx
  simp only [List.mem_cons, List.not_mem_nil, or_false] at hx
  subst hx; exact spec_l02Bound_ok)
set_option maxHeartbeats 1000000 in
theorem spec_l02Integers_main (list_a : Option Addr) (list_n : Nat) (list_e : Nat) (H : AHeap) (K : Value → AHeap → Prop) (h : T_spec_l02Integers list_a list_n list_e H fun (r1 : Bool) (H' : AHeap) => K (.bool r1) H') : bodyK Try.prog E_spec_l02Integers Try.f68 [.slice list_a list_n list_e] H K := by
  rw [spec_l02Integers_vc]
  obtain ⟨l_list, i_list, bd_3, hk⟩ := h
  obtain rfl := i_list.eqn
  have e : (p_spec_l02Integers l_list) = _ := rfl
  have e := e.trans (p_spec_l02Integers_eq l_list)
  have g0 := Grow.refl H
  refine Br.intro (fun c_1 => ?_) (fun c_1 => ?_)
  · have e := e.trans (cond_t c_1)
    have c_1' := of_decide_eq_true c_1
    refine Br.intro (fun c_2 => ?_) (fun c_2 => ?_)
    · have e := e.trans (cond_t c_2)
      have c_2' := of_decide_eq_true c_2
      refine T_spec_l02Bound_i ⟨_, (i_list.grow g0), (by first | omega | (simp only [List.length_set, List.length_replicate, List.length_append, List.length_cons, List.length_nil, List.length_take, List.length_drop, marks_length]; done) | (simp only [List.length_set, List.length_replicate, List.length_append, List.length_cons, List.length_nil, List.length_take, List.length_drop, marks_length]; omega)), ?_⟩
      rw [e] at hk
      exact hk
    · have e := e.trans (cond_f c_2)
      have c_2' := of_decide_eq_false c_2
      rw [e] at hk
      exact hk
  · have e := e.trans (cond_f c_1)
    have c_1' := of_decide_eq_false c_1
    rw [e] at hk
    exact hk
theorem spec_l02Integers_ok : FnOk Try.prog 68 S_spec_l02Integers := by
  refine FnOk.body mix_ok E_spec_l02Integers_ok Try.func68 rfl (by kernel_rfl) (by kernel_rfl) ?_ ?_ ?_ ?_ ?_
  · intro args H K K' h hk
    simp only [S_spec_l02Integers] at *
    unfold F_spec_l02Integers at *
    split at hk
    · obtain ⟨l_list, i_list, bd_3, k⟩ := hk
      exact ⟨l_list, i_list, bd_3, h _ _ k⟩
    · exact hk.elim
  · intro _ args H K hk
    simp only [S_spec_l02Integers] at *
    unfold F_spec_l02Integers at *
    split at hk
    · obtain ⟨l_list, i_list, bd_3, k⟩ := hk
      exact ⟨_, k, fun K' k' => ⟨l_list, i_list, bd_3, k'⟩⟩
    · exact hk.elim
  · intro args H K hk
    simp only [S_spec_l02Integers] at *
    unfold F_spec_l02Integers at *
    split at hk
    · obtain ⟨l_list, i_list, bd_3, k⟩ := hk
      exact ⟨_, _, k⟩
    · exact hk.elim
  · intro hq; cases hq
  · have mm := @spec_l02Integers_main
    revert mm
    generalize bodyK Try.prog E_spec_l02Integers Try.f68 = Q
    intro mm args H K hk
    simp only [S_spec_l02Integers] at *
    unfold F_spec_l02Integers at *
    split at hk
    · exact mm _ _ _ H K hk
    · exact hk.elim
def p_spec_l06Plane (plane : Int) : Bool := (p_spec_l00In plane 0 24)
theorem p_spec_l06Plane_eq (plane : Int) : p_spec_l06Plane plane = (p_spec_l00In plane 0 24) := rfl
def T_spec_l06Plane (plane : Int) (H : AHeap) (K : Bool → AHeap → Prop) : Prop := K (p_spec_l06Plane plane) H
theorem spec_l06Plane_t {p : Int} (h : p_spec_l06Plane p = true) : 0 ≤ p ∧ p ≤ 64 := by
  have := spec_l00In_t (show p_spec_l00In p 0 _ = true from h)
  omega
theorem T_spec_l06Plane_i {plane : Int} {H : AHeap} {K : Bool → AHeap → Prop} (h : K (p_spec_l06Plane plane) H) : T_spec_l06Plane plane H K := h
/-! spec_l06Plane: function 73 -/
def E_spec_l06Plane : Env := envOf [(51, S_spec_l00In)]
def F_spec_l06Plane : List Value → AHeap → (Value → AHeap → Prop) → Prop
  | [.int .i64 plane], H, K => T_spec_l06Plane plane H fun (r1 : Bool) (H' : AHeap) => K (.bool r1) H'
  | _, _, _ => False
def S_spec_l06Plane : FSpec := { F := F_spec_l06Plane, quiet := true, tame := false }
theorem spec_l06Plane_vc (plane : Int) (H : AHeap) (K : Value → AHeap → Prop) : bodyK Try.prog E_spec_l06Plane Try.f73 [.int .i64 plane] H K =
  (T_spec_l00In plane 0 24 H fun (r1 : Bool) (H1 : AHeap) => K (.bool r1) H1) := by kernel_rfl
theorem E_spec_l06Plane_ok : ∀ g, FnOk Try.prog g (E_spec_l06Plane g) := FnOk.envOf (by
  intro x hx
  simp only [List.mem_cons, List.not_mem_nil, or_false] at hx
  subst hx; exact spec_l00In_ok)
set_option maxHeartbeats 1000000 in
theorem spec_l06Plane_main (plane : Int) (H : AHeap) (K : Value → AHeap → Prop) (h : T_spec_l06Plane plane H fun (r1 : Bool) (H' : AHeap) => K (.bool r1) H') : bodyK Try.prog E_spec_l06Plane Try.f73 [.int .i64 plane] H K := by
  rw [spec_l06Plane_vc]
  simp only [T_spec_l00In]
  unfold T_spec_l06Plane p_spec_l06Plane at h
  repeat' (first | exact h | (exfalso; simp_all; done) | (refine ⟨by decide, ?_⟩) | (refine Br.intro (fun hb => ?_) (fun hb => ?_) <;> (try simp only [hb, cond_true, cond_false, Bool.not_true, Bool.not_false] at h)))
theorem spec_l06Plane_ok : FnOk Try.prog 73 S_spec_l06Plane := by
  refine FnOk.body mix_ok E_spec_l06Plane_ok Try.func73 rfl (by kernel_rfl) (by kernel_rfl) ?_ ?_ ?_ ?_ ?_
  · intro args H K K' h hk
    simp only [S_spec_l06Plane] at *
    unfold F_spec_l06Plane at *
    split at hk
    · have k := hk
      exact h _ _ k
    · exact hk.elim
  · intro _ args H K hk
    simp only [S_spec_l06Plane] at *
    unfold F_spec_l06Plane at *
    split at hk
    · have k := hk
      exact ⟨_, k, fun K' k' => k'⟩
    · exact hk.elim
  · intro args H K hk
    simp only [S_spec_l06Plane] at *
    unfold F_spec_l06Plane at *
    split at hk
    · have k := hk
      exact ⟨_, _, k⟩
    · exact hk.elim
  · intro hq; cases hq
  · have mm := @spec_l06Plane_main
    revert mm
    generalize bodyK Try.prog E_spec_l06Plane Try.f73 = Q
    intro mm args H K hk
    simp only [S_spec_l06Plane] at *
    unfold F_spec_l06Plane at *
    split at hk
    · exact mm _ H K hk
    · exact hk.elim
def p_spec_l06Abs (n : Int) : Int := (bif decide ((n : Int) < 0) then IntKind.wrap .i64 (0 - n) else n)
theorem p_spec_l06Abs_eq (n : Int) : p_spec_l06Abs n = (bif decide ((n : Int) < 0) then IntKind.wrap .i64 (0 - n) else n) := rfl
def T_spec_l06Abs (n : Int) (H : AHeap) (K : Int → AHeap → Prop) : Prop := K (p_spec_l06Abs n) H
theorem spec_abs_rng {n : Int} (h : -1000000 ≤ n ∧ n ≤ 1000000) : 0 ≤ p_spec_l06Abs n ∧ p_spec_l06Abs n ≤ 1000000 ∧ p_spec_l06Abs n = (n.natAbs : Int) := by
  unfold p_spec_l06Abs
  by_cases c : n < 0
  · rw [decide_eq_true c, cond_true, wrap64 (by omega) (by omega)]; omega
  · rw [decide_eq_false c, cond_false]; omega
theorem T_spec_l06Abs_i {n : Int} {H : AHeap} {K : Int → AHeap → Prop} (h : K (p_spec_l06Abs n) H) : T_spec_l06Abs n H K := h
/-! spec_l06Abs: function 84 -/
def E_spec_l06Abs : Env := envOf []
def F_spec_l06Abs : List Value → AHeap → (Value → AHeap → Prop) → Prop
  | [.int .i64 n], H, K => T_spec_l06Abs n H fun (r1 : Int) (H' : AHeap) => K (.int .i64 r1) H'
  | _, _, _ => False
def S_spec_l06Abs : FSpec := { F := F_spec_l06Abs, quiet := true, tame := false }
theorem spec_l06Abs_vc (n : Int) (H : AHeap) (K : Value → AHeap → Prop) : bodyK Try.prog E_spec_l06Abs Try.f84 [.int .i64 n] H K =
  (Br (decide ((n : Int) < 0)) (K (.int .i64 (IntKind.wrap .i64 (0 - n))) H) (K (.int .i64 n) H)) := by kernel_rfl
theorem E_spec_l06Abs_ok : ∀ g, FnOk Try.prog g (E_spec_l06Abs g) := FnOk.envOf (by
  intro x hx; cases hx)
set_option maxHeartbeats 1000000 in
theorem spec_l06Abs_main (n : Int) (H : AHeap) (K : Value → AHeap → Prop) (h : T_spec_l06Abs n H fun (r1 : Int) (H' : AHeap) => K (.int .i64 r1) H') : bodyK Try.prog E_spec_l06Abs Try.f84 [.int .i64 n] H K := by
  rw [spec_l06Abs_vc]
  unfold T_spec_l06Abs p_spec_l06Abs at h
  repeat' (first | exact h | (exfalso; simp_all; done) | (refine ⟨by decide, ?_⟩) | (refine Br.intro (fun hb => ?_) (fun hb => ?_) <;> (try simp only [hb, cond_true, cond_false, Bool.not_true, Bool.not_false] at h)))
theorem spec_l06Abs_ok : FnOk Try.prog 84 S_spec_l06Abs := by
  refine FnOk.body mix_ok E_spec_l06Abs_ok Try.func84 rfl (by kernel_rfl) (by kernel_rfl) ?_ ?_ ?_ ?_ ?_
  · intro args H K K' h hk
    simp only [S_spec_l06Abs] at *
    unfold F_spec_l06Abs at *
    split at hk
    · have k := hk
      exact h _ _ k
    · exact hk.elim
  · intro _ args H K hk
    simp only [S_spec_l06Abs] at *
    unfold F_spec_l06Abs at *
    split at hk
    · have k := hk
      exact ⟨_, k, fun K' k' => k'⟩
    · exact hk.elim
  · intro args H K hk
    simp only [S_spec_l06Abs] at *
    unfold F_spec_l06Abs at *
    split at hk
    · have k := hk
      exact ⟨_, _, k⟩
    · exact hk.elim
  · intro hq; cases hq
  · have mm := @spec_l06Abs_main
    revert mm
    generalize bodyK Try.prog E_spec_l06Abs Try.f84 = Q
    intro mm args H K hk
    simp only [S_spec_l06Abs] at *
    unfold F_spec_l06Abs at *
    split at hk
    · exact mm _ H K hk
    · exact hk.elim
def p_spec_l06Planes_l2 (l_list : List Int) (n : Int) (i : Int) (k2_2 : Int → Int) : Nat → Int → Int
  | 0, _ => 0
  | μ2 + 1, n_3 => (bif (Int.fdiv ((p_spec_l06Abs (((l_list).getD (i : Int).toNat 0)))) (2 ^ (min (IntKind.wrap .u64 n_3 : Int).toNat (IntKind.bits .i64))) : Int) != 0 then (p_spec_l06Planes_l2 l_list n i k2_2 μ2 (n_3 + 1)) else (k2_2 n_3))
theorem p_spec_l06Planes_l2_s (l_list : List Int) (n : Int) (i : Int) (k2_2 : Int → Int) (μ2 : Nat) (n_3 : Int) : p_spec_l06Planes_l2 l_list n i k2_2 (μ2 + 1) n_3 = (bif (Int.fdiv ((p_spec_l06Abs (((l_list).getD (i : Int).toNat 0)))) (2 ^ (min (IntKind.wrap .u64 n_3 : Int).toNat (IntKind.bits .i64))) : Int) != 0 then (p_spec_l06Planes_l2 l_list n i k2_2 μ2 (n_3 + 1)) else (k2_2 n_3)) := rfl
def p_spec_l06Planes_l1 (l_list : List Int) : Nat → Int → Int → Int
  | 0, _, _ => 0
  | μ + 1, n, i => (bif decide ((i : Int) < (l_list.length : Int)) then (p_spec_l06Planes_l2 l_list n i (fun (n_3 : Int) => (p_spec_l06Planes_l1 l_list μ n_3 (i + 1))) (Int.toNat (64 - n) + 1) n) else n)
theorem p_spec_l06Planes_l1_s (l_list : List Int) (μ : Nat) (n : Int) (i : Int) : p_spec_l06Planes_l1 l_list (μ + 1) n i = (bif decide ((i : Int) < (l_list.length : Int)) then (p_spec_l06Planes_l2 l_list n i (fun (n_3 : Int) => (p_spec_l06Planes_l1 l_list μ n_3 (i + 1))) (Int.toNat (64 - n) + 1) n) else n) := rfl
def p_spec_l06Planes (l_list : List Int) : Int := (p_spec_l06Planes_l1 l_list (Int.toNat ((l_list.length : Int) - (0 : Int)) + 1) (0 : Int) (0 : Int))
theorem p_spec_l06Planes_eq (l_list : List Int) : p_spec_l06Planes l_list = (p_spec_l06Planes_l1 l_list (Int.toNat ((l_list.length : Int) - (0 : Int)) + 1) (0 : Int) (0 : Int)) := rfl
def T_spec_l06Planes (list_a : Option Addr) (list_n : Nat) (list_e : Nat) (H : AHeap) (K : Int → AHeap → Prop) : Prop := ∃ (l_list : List Int), IsL fI H list_a list_n l_list ∧ l_list.length < 1073741824 ∧ (∀ j : Nat, -1000000 ≤ l_list.getD j 0 ∧ l_list.getD j 0 ≤ 1000000) ∧ K (p_spec_l06Planes l_list) H
theorem T_spec_l06Planes_i {list_a : Option Addr} {list_n : Nat} {list_e : Nat} {H : AHeap} {K : Int → AHeap → Prop} (h : ∃ (l_list : List Int), IsL fI H list_a list_n l_list ∧ l_list.length < 1073741824 ∧ (∀ j : Nat, -1000000 ≤ l_list.getD j 0 ∧ l_list.getD j 0 ≤ 1000000) ∧ K (p_spec_l06Planes l_list) H) : T_spec_l06Planes list_a list_n list_e H K := h
theorem planes_rng2 (l : List Int) (n0 i : Int) (K : Int → Int) (hK : ∀ n, 0 ≤ n → n ≤ 64 → 0 ≤ K n ∧ K n ≤ 64) : ∀ (μ : Nat) (n : Int), 0 ≤ n → n + μ ≤ 65 → 0 ≤ p_spec_l06Planes_l2 l n0 i K μ n ∧ p_spec_l06Planes_l2 l n0 i K μ n ≤ 64 := by
  intro μ
  induction μ with
  | zero => intro n _ _; unfold p_spec_l06Planes_l2; omega
  | succ μ ih =>
    intro n h0 h1
    rw [p_spec_l06Planes_l2_s]
    cases (Int.fdiv ((p_spec_l06Abs (((l).getD (i : Int).toNat 0)))) (2 ^ (min (IntKind.wrap .u64 n : Int).toNat (IntKind.bits .i64))) : Int) != 0 with
    | true => exact ih _ (by omega) (by omega)
    | false => exact hK _ h0 (by omega)
theorem planes_rng1 (l : List Int) : ∀ (μ : Nat) (n i : Int), 0 ≤ n → n ≤ 64 → 0 ≤ p_spec_l06Planes_l1 l μ n i ∧ p_spec_l06Planes_l1 l μ n i ≤ 64 := by
  intro μ
  induction μ with
  | zero => intro n i _ _; unfold p_spec_l06Planes_l1; omega
  | succ μ ih =>
    intro n i h0 h1
    rw [p_spec_l06Planes_l1_s]
    cases decide (i < (l.length : Int)) with
    | true => exact planes_rng2 l n i _ (fun m a b => ih m (i + 1) a b) _ n h0 (by omega)
    | false => exact ⟨h0, h1⟩
theorem spec_l06Planes_rng (l : List Int) : 0 ≤ p_spec_l06Planes l ∧ p_spec_l06Planes l ≤ 64 := by
  rw [p_spec_l06Planes_eq]
  exact planes_rng1 l _ 0 0 (by decide) (by decide)
/-! spec_l06Planes: function 69 -/
def E_spec_l06Planes : Env := envOf [(84, S_spec_l06Abs)]
def F_spec_l06Planes : List Value → AHeap → (Value → AHeap → Prop) → Prop
  | [.slice list_a list_n list_e], H, K => T_spec_l06Planes list_a list_n list_e H fun (r1 : Int) (H' : AHeap) => K (.int .i64 r1) H'
  | _, _, _ => False
def S_spec_l06Planes : FSpec := { F := F_spec_l06Planes, quiet := true, tame := false }
theorem spec_l06Planes_vc (list_a : Option Addr) (list_n : Nat) (list_e : Nat) (H : AHeap) (K : Value → AHeap → Prop) : bodyK Try.prog E_spec_l06Planes Try.f69 [.slice list_a list_n list_e] H K =
  (loopK (exK Try.prog E_spec_l06Planes (cl (cl (cr (cl (cr (cr (bodyC Try.f69)))))))) [.slice list_a list_n list_e, undef, .int .i64 0, .int .i64 0, .int .i64 0, undef, undef, undef, undef, undef, undef, undef, undef, undef, undef, undef, undef, undef, undef, undef, undef, undef, undef] H (blockQ 0 (seqQ (exK Try.prog E_spec_l06Planes (cr (cr (cr (bodyC Try.f69))))) (retK Try.prog Try.f69 K)))) := by kernel_rfl
theorem spec_l06Planes_r1 (list_a : Option Addr) (list_e : Nat) (list_n : Nat) (n : Int) (i : Int) (g5 g6 g7 g8 g9 g10 g11 g12 g13 g14 g15 g16 g17 g18 g19 g20 g21 : Value) (H : AHeap) (R : Post) : exK Try.prog E_spec_l06Planes (cl (cl (cr (cl (cr (cr (bodyC Try.f69))))))) [.slice list_a list_n list_e, undef, .int .i64 0, .int .i64 n, .int .i64 i, g5, g6, g7, g8, g9, g10, g11, g12, g13, g14, g15, g16, g17, g18, g19, g20, g21, undef] H R =
  (Br (decide ((i : Int) < (list_n : Int))) (loopK (exK Try.prog E_spec_l06Planes (cl (cl (cl (cl (cr (cl (cl (cr (cl (cr (cr (bodyC Try.f69))))))))))))) [.slice list_a list_n list_e, undef, .int .i64 0, .int .i64 n, .int .i64 i, .int .i64 i, .slice list_a list_n list_e, .int .i64 (list_n : Int), .bool (decide ((i : Int) < (list_n : Int))), g9, g10, g11, g12, g13, g14, g15, g16, g17, g18, g19, g20, g21, undef] H (blockQ 2 (blockQ 1 (seqQ (exK Try.prog E_spec_l06Planes (cr (cr (cl (cl (cr (cl (cr (cr (bodyC Try.f69)))))))))) (R))))) (R (.exit 0) [.slice list_a list_n list_e, undef, .int .i64 0, .int .i64 n, .int .i64 i, .int .i64 i, .slice list_a list_n list_e, .int .i64 (list_n : Int), .bool (decide ((i : Int) < (list_n : Int))), g9, g10, g11, g12, g13, g14, g15, g16, g17, g18, g19, g20, g21, undef] H)) := by kernel_rfl
def spec_l06Planes_I1 (list_a : Option Addr) (list_e : Nat) (list_n : Nat) (Inv : Nat → Int → Int → AHeap → Prop) : Nat → List Value → AHeap → Prop := fun μ tm H => ∃ (n : Int), ∃ (i : Int), ∃ g5 g6 g7 g8 g9 g10 g11 g12 g13 g14 g15 g16 g17 g18 g19 g20 g21, tm = [.slice list_a list_n list_e, undef, .int .i64 0, .int .i64 n, .int .i64 i, g5, g6, g7, g8, g9, g10, g11, g12, g13, g14, g15, g16, g17, g18, g19, g20, g21, undef] ∧ Inv μ n i H
theorem spec_l06Planes_L1 (list_a : Option Addr) (list_e : Nat) (list_n : Nat) {Q : Post} (Inv : Nat → Int → Int → AHeap → Prop) (ν : Nat) (n : Int) (i : Int) (g5 g6 g7 g8 g9 g10 g11 g12 g13 g14 g15 g16 g17 g18 g19 g20 g21 : Value) (H : AHeap) (h0 : Inv ν n i H)
    (hs : ∀ (μ : Nat) (n : Int) (i : Int) (g5 g6 g7 g8 g9 g10 g11 g12 g13 g14 g15 g16 g17 g18 g19 g20 g21 : Value) (H : AHeap), Inv μ n i H → exK Try.prog E_spec_l06Planes (cl (cl (cr (cl (cr (cr (bodyC Try.f69))))))) [.slice list_a list_n list_e, undef, .int .i64 0, .int .i64 n, .int .i64 i, g5, g6, g7, g8, g9, g10, g11, g12, g13, g14, g15, g16, g17, g18, g19, g20, g21, undef] H (loopQ (spec_l06Planes_I1 list_a list_e list_n Inv) μ Q)) : loopK (exK Try.prog E_spec_l06Planes (cl (cl (cr (cl (cr (cr (bodyC Try.f69)))))))) [.slice list_a list_n list_e, undef, .int .i64 0, .int .i64 n, .int .i64 i, g5, g6, g7, g8, g9, g10, g11, g12, g13, g14, g15, g16, g17, g18, g19, g20, g21, undef] H Q :=
  ⟨spec_l06Planes_I1 list_a list_e list_n Inv, ν, ⟨n, i, g5, g6, g7, g8, g9, g10, g11, g12, g13, g14, g15, g16, g17, g18, g19, g20, g21, rfl, h0⟩, fun μ tm H h => by obtain ⟨n, i, g5, g6, g7, g8, g9, g10, g11, g12, g13, g14, g15, g16, g17, g18, g19, g20, g21, rfl, hI⟩ := h; exact hs μ n i g5 g6 g7 g8 g9 g10 g11 g12 g13 g14 g15 g16 g17 g18 g19 g20 g21 H hI⟩
theorem spec_l06Planes_n1 {list_a : Option Addr} {list_e : Nat} {list_n : Nat} {Q : Post} {Inv : Nat → Int → Int → AHeap → Prop} {μ : Nat} (μ' : Nat) {n : Int} {i : Int} {g5 g6 g7 g8 g9 g10 g11 g12 g13 g14 g15 g16 g17 g18 g19 g20 g21 : Value} {H : AHeap} (hm : μ' < μ) (hI : Inv μ' n i H) : loopQ (spec_l06Planes_I1 list_a list_e list_n Inv) μ Q .normal [.slice list_a list_n list_e, undef, .int .i64 0, .int .i64 n, .int .i64 i, g5, g6, g7, g8, g9, g10, g11, g12, g13, g14, g15, g16, g17, g18, g19, g20, g21, undef] H := ⟨μ', hm, n, i, g5, g6, g7, g8, g9, g10, g11, g12, g13, g14, g15, g16, g17, g18, g19, g20, g21, rfl, hI⟩
theorem spec_l06Planes_x1_0 (list_a : Option Addr) (list_e : Nat) (list_n : Nat) (n : Int) (i : Int) (g5 g6 g7 g8 g9 g10 g11 g12 g13 g14 g15 g16 g17 g18 g19 g20 g21 : Value) (H : AHeap) (K : Value → AHeap → Prop)  {I : Nat → List Value → AHeap → Prop} {μ : Nat} : loopQ I μ (blockQ 0 (seqQ (exK Try.prog E_spec_l06Planes (cr (cr (cr (bodyC Try.f69))))) (retK Try.prog Try.f69 K))) (.exit 0) [.slice list_a list_n list_e, undef, .int .i64 0, .int .i64 n, .int .i64 i, g5, g6, g7, g8, g9, g10, g11, g12, g13, g14, g15, g16, g17, g18, g19, g20, g21, undef] H =
  (K (.int .i64 n) H) := by kernel_rfl
theorem spec_l06Planes_r2 (g10 : Value) (g9 : Value) (i : Int) (list_a : Option Addr) (list_e : Nat) (list_n : Nat) (n_3 : Int) (g11 g12 g13 g14 g15 g16 g17 g18 g19 g20 g21 : Value) (H : AHeap) (R : Post) : exK Try.prog E_spec_l06Planes (cl (cl (cl (cl (cr (cl (cl (cr (cl (cr (cr (bodyC Try.f69)))))))))))) [.slice list_a list_n list_e, undef, .int .i64 0, .int .i64 n_3, .int .i64 i, .int .i64 i, .slice list_a list_n list_e, .int .i64 (list_n : Int), .bool (decide ((i : Int) < (list_n : Int))), g9, g10, g11, g12, g13, g14, g15, g16, g17, g18, g19, g20, g21, undef] H R =
  ((0 : Int) ≤ i ∧ i < (list_n : Int) ∧ ∃ b1 f1, (list_a : Option Addr) = some ⟨b1, f1, none⟩ ∧ ∃ x1 : Int,  rdC H b1 (f1 + (i : Int).toNat * 1) = some (.int .i64 x1) ∧ T_spec_l06Abs x1 H fun (r1 : Int) (H1 : AHeap) => (0 : Int) ≤ IntKind.wrap .u64 n_3 ∧ Br ((Int.fdiv r1 (2 ^ (min (IntKind.wrap .u64 n_3 : Int).toNat (IntKind.bits .i64))) : Int) != 0) (R .normal [.slice list_a list_n list_e, undef, .int .i64 0, .int .i64 (IntKind.wrap .i64 (n_3 + 1)), .int .i64 i, .int .i64 i, .slice list_a list_n list_e, .int .i64 (list_n : Int), .bool (decide ((i : Int) < (list_n : Int))), g9, g10, .slice list_a list_n list_e, .int .i64 i, .pointer (some ⟨b1, f1 + (i : Int).toNat * 1, none⟩), .int .i64 x1, .int .i64 r1, .int .i64 n_3, .int .u64 (IntKind.wrap .u64 n_3), .int .i64 (Int.fdiv r1 (2 ^ (min (IntKind.wrap .u64 n_3 : Int).toNat (IntKind.bits .i64)))), .bool ((Int.fdiv r1 (2 ^ (min (IntKind.wrap .u64 n_3 : Int).toNat (IntKind.bits .i64))) : Int) != 0), .int .i64 n_3, .int .i64 (IntKind.wrap .i64 (n_3 + 1)), undef] H1) (R (.exit 2) [.slice list_a list_n list_e, undef, .int .i64 0, .int .i64 n_3, .int .i64 i, .int .i64 i, .slice list_a list_n list_e, .int .i64 (list_n : Int), .bool (decide ((i : Int) < (list_n : Int))), g9, g10, .slice list_a list_n list_e, .int .i64 i, .pointer (some ⟨b1, f1 + (i : Int).toNat * 1, none⟩), .int .i64 x1, .int .i64 r1, .int .i64 n_3, .int .u64 (IntKind.wrap .u64 n_3), .int .i64 (Int.fdiv r1 (2 ^ (min (IntKind.wrap .u64 n_3 : Int).toNat (IntKind.bits .i64)))), .bool ((Int.fdiv r1 (2 ^ (min (IntKind.wrap .u64 n_3 : Int).toNat (IntKind.bits .i64))) : Int) != 0), g20, g21, undef] H1)) := by kernel_rfl
def spec_l06Planes_I2 (g10 : Value) (g9 : Value) (i : Int) (list_a : Option Addr) (list_e : Nat) (list_n : Nat) (Inv : Nat → Int → AHeap → Prop) : Nat → List Value → AHeap → Prop := fun μ tm H => ∃ (n_3 : Int), ∃ g11 g12 g13 g14 g15 g16 g17 g18 g19 g20 g21, tm = [.slice list_a list_n list_e, undef, .int .i64 0, .int .i64 n_3, .int .i64 i, .int .i64 i, .slice list_a list_n list_e, .int .i64 (list_n : Int), .bool (decide ((i : Int) < (list_n : Int))), g9, g10, g11, g12, g13, g14, g15, g16, g17, g18, g19, g20, g21, undef] ∧ Inv μ n_3 H
theorem spec_l06Planes_L2 (g10 : Value) (g9 : Value) (i : Int) (list_a : Option Addr) (list_e : Nat) (list_n : Nat) {Q : Post} (Inv : Nat → Int → AHeap → Prop) (ν : Nat) (n_3 : Int) (g11 g12 g13 g14 g15 g16 g17 g18 g19 g20 g21 : Value) (H : AHeap) (h0 : Inv ν n_3 H)
    (hs : ∀ (μ : Nat) (n_3 : Int) (g11 g12 g13 g14 g15 g16 g17 g18 g19 g20 g21 : Value) (H : AHeap), Inv μ n_3 H → exK Try.prog E_spec_l06Planes (cl (cl (cl (cl (cr (cl (cl (cr (cl (cr (cr (bodyC Try.f69)))))))))))) [.slice list_a list_n list_e, undef, .int .i64 0, .int .i64 n_3, .int .i64 i, .int .i64 i, .slice list_a list_n list_e, .int .i64 (list_n : Int), .bool (decide ((i : Int) < (list_n : Int))), g9, g10, g11, g12, g13, g14, g15, g16, g17, g18, g19, g20, g21, undef] H (loopQ (spec_l06Planes_I2 g10 g9 i list_a list_e list_n Inv) μ Q)) : loopK (exK Try.prog E_spec_l06Planes (cl (cl (cl (cl (cr (cl (cl (cr (cl (cr (cr (bodyC Try.f69))))))))))))) [.slice list_a list_n list_e, undef, .int .i64 0, .int .i64 n_3, .int .i64 i, .int .i64 i, .slice list_a list_n list_e, .int .i64 (list_n : Int), .bool (decide ((i : Int) < (list_n : Int))), g9, g10, g11, g12, g13, g14, g15, g16, g17, g18, g19, g20, g21, undef] H Q :=
  ⟨spec_l06Planes_I2 g10 g9 i list_a list_e list_n Inv, ν, ⟨n_3, g11, g12, g13, g14, g15, g16, g17, g18, g19, g20, g21, rfl, h0⟩, fun μ tm H h => by obtain ⟨n_3, g11, g12, g13, g14, g15, g16, g17, g18, g19, g20, g21, rfl, hI⟩ := h; exact hs μ n_3 g11 g12 g13 g14 g15 g16 g17 g18 g19 g20 g21 H hI⟩
theorem spec_l06Planes_n2 {g10 : Value} {g9 : Value} {i : Int} {list_a : Option Addr} {list_e : Nat} {list_n : Nat} {Q : Post} {Inv : Nat → Int → AHeap → Prop} {μ : Nat} (μ' : Nat) {n_3 : Int} {g11 g12 g13 g14 g15 g16 g17 g18 g19 g20 g21 : Value} {H : AHeap} (hm : μ' < μ) (hI : Inv μ' n_3 H) : loopQ (spec_l06Planes_I2 g10 g9 i list_a list_e list_n Inv) μ Q .normal [.slice list_a list_n list_e, undef, .int .i64 0, .int .i64 n_3, .int .i64 i, .int .i64 i, .slice list_a list_n list_e, .int .i64 (list_n : Int), .bool (decide ((i : Int) < (list_n : Int))), g9, g10, g11, g12, g13, g14, g15, g16, g17, g18, g19, g20, g21, undef] H := ⟨μ', hm, n_3, g11, g12, g13, g14, g15, g16, g17, g18, g19, g20, g21, rfl, hI⟩
theorem spec_l06Planes_x2_2 (g10 : Value) (g9 : Value) (i : Int) (list_a : Option Addr) (list_e : Nat) (list_n : Nat) (n_3 : Int) (g11 g12 g13 g14 g15 g16 g17 g18 g19 g20 g21 : Value) (H : AHeap)  (R : Post) {I : Nat → List Value → AHeap → Prop} {μ : Nat} : loopQ I μ (blockQ 2 (blockQ 1 (seqQ (exK Try.prog E_spec_l06Planes (cr (cr (cl (cl (cr (cl (cr (cr (bodyC Try.f69)))))))))) (R)))) (.exit 2) [.slice list_a list_n list_e, undef, .int .i64 0, .int .i64 n_3, .int .i64 i, .int .i64 i, .slice list_a list_n list_e, .int .i64 (list_n : Int), .bool (decide ((i : Int) < (list_n : Int))), g9, g10, g11, g12, g13, g14, g15, g16, g17, g18, g19, g20, g21, undef] H =
  (R .normal [.slice list_a list_n list_e, undef, .int .i64 0, .int .i64 n_3, .int .i64 (IntKind.wrap .i64 (i + 1)), .int .i64 i, .slice list_a list_n list_e, .int .i64 (list_n : Int), .bool (decide ((i : Int) < (list_n : Int))), .int .i64 i, .int .i64 (IntKind.wrap .i64 (i + 1)), g11, g12, g13, g14, g15, g16, g17, g18, g19, g20, g21, undef] H) := by kernel_rfl
theorem E_spec_l06Planes_ok : ∀ g, FnOk Try.prog g (E_spec_l06Planes g) := FnOk.envOf (by
  intro x hx
  simp only [List.mem_cons, List.not_mem_nil, or_false] at hx
  subst hx; exact spec_l06Abs_ok)
theorem pl_lt {a n : Int} (h : Int.fdiv a (2 ^ (min (IntKind.wrap .u64 n : Int).toNat (IntKind.bits .i64))) ≠ 0) (h0 : 0 ≤ n) (h1 : n ≤ 20) {b : Int} (ha : 0 ≤ a ∧ a ≤ 1000000 ∧ a = b) : n < 20 := by
  by_cases c : n = 20
  · subst c
    exfalso; apply h
    rw [show (2 : Int) ^ (min (IntKind.wrap .u64 20 : Int).toNat (IntKind.bits .i64)) = 1048576 from by decide, Int.fdiv_eq_ediv_of_nonneg _ (by decide)]
    omega
  · omega

set_option maxHeartbeats 1000000 in
theorem spec_l06Planes_main (list_a : Option Addr) (list_n : Nat) (list_e : Nat) (H : AHeap) (K : Value → AHeap → Prop) (h : T_spec_l06Planes list_a list_n list_e H fun (r1 : Int) (H' : AHeap) => K (.int .i64 r1) H') : bodyK Try.prog E_spec_l06Planes Try.f69 [.slice list_a list_n list_e] H K := by
  rw [spec_l06Planes_vc]
  obtain ⟨l_list, i_list, bd_14, pr0, hk⟩ := h
  obtain rfl := i_list.eqn
  have e : (p_spec_l06Planes l_list) = _ := rfl
  have e := e.trans (p_spec_l06Planes_eq l_list)
  have g0 := Grow.refl H
  refine spec_l06Planes_L1 _ _ _ (fun (μ : Nat) (n : Int) (i : Int) (H_1 : AHeap) => H = H_1 ∧ (0 : Int) ≤ i ∧ i ≤ (l_list.length : Int) ∧ 0 ≤ n ∧ n ≤ 20 ∧ (l_list.length : Int) - i ≤ (μ : Int) ∧ p_spec_l06Planes l_list = p_spec_l06Planes_l1 l_list (μ + 1) n i) (Int.toNat ((l_list.length : Int) - (0 : Int))) _ _ _ _ _ _ _ _ _ _ _ _ _ _ _ _ _ _ _ H ?_ ?_
  · exact ⟨rfl, (by first | omega | (simp; done) | (simp; omega)), (by first | omega | (simp; done) | (simp; omega)), (by first | omega | (simp; done) | (simp; omega)), (by first | omega | (simp; done) | (simp; omega)), (by omega), e⟩
  · intro μ n i g5 g6 g7 g8 g9 g10 g11 g12 g13 g14 g15 g16 g17 g18 g19 g20 g21 H_1 hI
    obtain ⟨rfl, v_1, v_2, v_3, v_4, hμ, e⟩ := hI
    rw [spec_l06Planes_r1]
    have e := e.trans (p_spec_l06Planes_l1_s l_list μ n i)
    have l_5 := g0.1
    refine Br.intro (fun c_6 => ?_) (fun c_6 => ?_)
    · have e := e.trans (cond_t c_6)
      have c_6' := of_decide_eq_true c_6
      refine spec_l06Planes_L2 _ _ _ _ _ _ (fun (μ2 : Nat) (n_3 : Int) (H_2 : AHeap) => H = H_2 ∧ 0 ≤ n_3 ∧ n_3 ≤ 20 ∧ 64 - n_3 ≤ (μ2 : Int) ∧ p_spec_l06Planes l_list = p_spec_l06Planes_l2 l_list n i (fun (n_3 : Int) => (p_spec_l06Planes_l1 l_list μ n_3 (i + 1))) (μ2 + 1) n_3) (Int.toNat (64 - n)) _ _ _ _ _ _ _ _ _ _ _ _ H ?_ ?_
      · exact ⟨rfl, (by first | omega | (simp; done) | (simp; omega) | (first | omega | (have := pl_lt (by assumption) (by assumption) (by assumption) (spec_abs_rng ((by assumption : ∀ j : Nat, -1000000 ≤ l_list.getD j 0 ∧ l_list.getD j 0 ≤ 1000000) _)); omega))), (by first | omega | (simp; done) | (simp; omega) | (first | omega | (have := pl_lt (by assumption) (by assumption) (by assumption) (spec_abs_rng ((by assumption : ∀ j : Nat, -1000000 ≤ l_list.getD j 0 ∧ l_list.getD j 0 ≤ 1000000) _)); omega))), (by omega), e⟩
      · intro μ2 n_3 g11 g12 g13 g14 g15 g16 g17 g18 g19 g20 g21 H_2 hI
        obtain ⟨rfl, v_7, v_8, hμ, e⟩ := hI
        rw [spec_l06Planes_r2]
        have e := e.trans (p_spec_l06Planes_l2_s l_list n i (fun (n_3 : Int) => (p_spec_l06Planes_l1 l_list μ n_3 (i + 1))) μ2 n_3)
        have l_9 := g0.1
        obtain ⟨b_10, f_11, q_12⟩ := ((i_list.grow g0)).pos (by first | omega | (simp only [List.length_set, List.length_replicate, List.length_append, List.length_cons, List.length_nil, List.length_take, List.length_drop, marks_length]; done) | (simp only [List.length_set, List.length_replicate, List.length_append, List.length_cons, List.length_nil, List.length_take, List.length_drop, marks_length]; omega))
        refine ⟨by omega, by omega, b_10, f_11, q_12, ?_⟩
        refine ⟨((l_list).getD (i : Int).toNat 0), (i_list).rd g0 q_12 (by omega) _, ?_⟩
        refine T_spec_l06Abs_i ?_
        refine ⟨(wrapu_nonneg _), ?_⟩
        refine Br.intro (fun c_13 => ?_) (fun c_13 => ?_)
        · have e := e.trans (cond_t c_13)
          have c_13' := ine_t c_13
          rw [show IntKind.wrap .i64 (n_3 + 1) = (n_3 + 1) from wrap64 (by omega) (by omega)]
          refine spec_l06Planes_n2 (μ2 - 1) (by first | omega | (omega)) ⟨rfl, (by first | omega | (first | omega | (have := pl_lt (by assumption) (by assumption) (by assumption) (spec_abs_rng ((by assumption : ∀ j : Nat, -1000000 ≤ l_list.getD j 0 ∧ l_list.getD j 0 ≤ 1000000) _)); omega)) | (simp only [List.length_append, List.length_cons, List.length_nil, List.length_set]; done) | (simp only [List.length_append, List.length_cons, List.length_nil, List.length_set]; omega)), (by first | omega | (first | omega | (have := pl_lt (by assumption) (by assumption) (by assumption) (spec_abs_rng ((by assumption : ∀ j : Nat, -1000000 ≤ l_list.getD j 0 ∧ l_list.getD j 0 ≤ 1000000) _)); omega)) | (simp only [List.length_append, List.length_cons, List.length_nil, List.length_set]; done) | (simp only [List.length_append, List.length_cons, List.length_nil, List.length_set]; omega)), (by first | omega | (omega)), (by rw [show μ2 - 1 + 1 = μ2 from by first | omega | (omega)]; exact e)⟩
        · have e := e.trans (cond_f c_13)
          have c_13' := ine_f c_13
          rw [spec_l06Planes_x2_2]
          rw [show IntKind.wrap .i64 (i + 1) = (i + 1) from wrap64 (by omega) (by omega)]
          refine spec_l06Planes_n1 (μ - 1) (by first | omega) ⟨rfl, (by first | omega | (simp only [List.length_append, List.length_cons, List.length_nil, List.length_set]; done) | (simp only [List.length_append, List.length_cons, List.length_nil, List.length_set]; omega)), (by first | omega | (simp only [List.length_append, List.length_cons, List.length_nil, List.length_set]; done) | (simp only [List.length_append, List.length_cons, List.length_nil, List.length_set]; omega)), (by first | omega | (simp only [List.length_append, List.length_cons, List.length_nil, List.length_set]; done) | (simp only [List.length_append, List.length_cons, List.length_nil, List.length_set]; omega)), (by first | omega | (simp only [List.length_append, List.length_cons, List.length_nil, List.length_set]; done) | (simp only [List.length_append, List.length_cons, List.length_nil, List.length_set]; omega)), (by first | omega), (by rw [show μ - 1 + 1 = μ from by first | omega]; exact e)⟩
    · have e := e.trans (cond_f c_6)
      have c_6' := of_decide_eq_false c_6
      rw [spec_l06Planes_x1_0]
      rw [e] at hk
      exact hk
theorem spec_l06Planes_ok : FnOk Try.prog 69 S_spec_l06Planes := by
  refine FnOk.body mix_ok E_spec_l06Planes_ok Try.func69 rfl (by kernel_rfl) (by kernel_rfl) ?_ ?_ ?_ ?_ ?_
  · intro args H K K' h hk
    simp only [S_spec_l06Planes] at *
    unfold F_spec_l06Planes at *
    split at hk
    · obtain ⟨l_list, i_list, bd_14, pr0, k⟩ := hk
      exact ⟨l_list, i_list, bd_14, pr0, h _ _ k⟩
    · exact hk.elim
  · intro _ args H K hk
    simp only [S_spec_l06Planes] at *
    unfold F_spec_l06Planes at *
    split at hk
    · obtain ⟨l_list, i_list, bd_14, pr0, k⟩ := hk
      exact ⟨_, k, fun K' k' => ⟨l_list, i_list, bd_14, pr0, k'⟩⟩
    · exact hk.elim
  · intro args H K hk
    simp only [S_spec_l06Planes] at *
    unfold F_spec_l06Planes at *
    split at hk
    · obtain ⟨l_list, i_list, bd_14, pr0, k⟩ := hk
      exact ⟨_, _, k⟩
    · exact hk.elim
  · intro hq; cases hq
  · have mm := @spec_l06Planes_main
    revert mm
    generalize bodyK Try.prog E_spec_l06Planes Try.f69 = Q
    intro mm args H K hk
    simp only [S_spec_l06Planes] at *
    unfold F_spec_l06Planes at *
    split at hk
    · exact mm _ _ _ H K hk
    · exact hk.elim
def p_spec_l06Digit (n : Int) (plane : Int) : Bool := ((IntKind.wrap .i64 (((BitVec.ofInt (IntKind.bits .i64) (Int.fdiv (p_spec_l06Abs n) (2 ^ (min (IntKind.wrap .u64 plane : Int).toNat (IntKind.bits .i64)))) &&& BitVec.ofInt (IntKind.bits .i64) 1).toNat : Int)) : Int) == 1)
theorem p_spec_l06Digit_eq (n : Int) (plane : Int) : p_spec_l06Digit n plane = ((IntKind.wrap .i64 (((BitVec.ofInt (IntKind.bits .i64) (Int.fdiv (p_spec_l06Abs n) (2 ^ (min (IntKind.wrap .u64 plane : Int).toNat (IntKind.bits .i64)))) &&& BitVec.ofInt (IntKind.bits .i64) 1).toNat : Int)) : Int) == 1) := rfl
def T_spec_l06Digit (n : Int) (plane : Int) (H : AHeap) (K : Bool → AHeap → Prop) : Prop := K (p_spec_l06Digit n plane) H
theorem T_spec_l06Digit_i {n : Int} {plane : Int} {H : AHeap} {K : Bool → AHeap → Prop} (h : K (p_spec_l06Digit n plane) H) : T_spec_l06Digit n plane H K := h

/-! spec_l06Digit: function 71 -/
def E_spec_l06Digit : Env := envOf [(84, S_spec_l06Abs)]
def F_spec_l06Digit : List Value → AHeap → (Value → AHeap → Prop) → Prop
  | [.int .i64 n, .int .i64 plane], H, K => T_spec_l06Digit n plane H fun (r1 : Bool) (H' : AHeap) => K (.bool r1) H'
  | _, _, _ => False
def S_spec_l06Digit : FSpec := { F := F_spec_l06Digit, quiet := true, tame := false }
theorem spec_l06Digit_vc (n : Int) (plane : Int) (H : AHeap) (K : Value → AHeap → Prop) : bodyK Try.prog E_spec_l06Digit Try.f71 [.int .i64 n, .int .i64 plane] H K =
  (T_spec_l06Abs n H fun (r1 : Int) (H1 : AHeap) => (0 : Int) ≤ IntKind.wrap .u64 plane ∧ K (.bool ((IntKind.wrap .i64 (((BitVec.ofInt (IntKind.bits .i64) (Int.fdiv r1 (2 ^ (min (IntKind.wrap .u64 plane : Int).toNat (IntKind.bits .i64)))) &&& BitVec.ofInt (IntKind.bits .i64) 1).toNat : Int)) : Int) == 1)) H1) := by kernel_rfl
theorem E_spec_l06Digit_ok : ∀ g, FnOk Try.prog g (E_spec_l06Digit g) := FnOk.envOf (by
  intro x hx
  simp only [List.mem_cons, List.not_mem_nil, or_false] at hx
  subst hx; exact spec_l06Abs_ok)
set_option maxHeartbeats 1000000 in
theorem spec_l06Digit_main (n : Int) (plane : Int) (H : AHeap) (K : Value → AHeap → Prop) (h : T_spec_l06Digit n plane H fun (r1 : Bool) (H' : AHeap) => K (.bool r1) H') : bodyK Try.prog E_spec_l06Digit Try.f71 [.int .i64 n, .int .i64 plane] H K := by
  rw [spec_l06Digit_vc]
  have hk := h
  unfold T_spec_l06Digit at hk
  have e : (p_spec_l06Digit n plane) = _ := rfl
  have e := e.trans (p_spec_l06Digit_eq n plane)
  have g0 := Grow.refl H
  refine T_spec_l06Abs_i ?_
  refine ⟨(wrapu_nonneg _), ?_⟩
  rw [e] at hk
  exact hk
theorem spec_l06Digit_ok : FnOk Try.prog 71 S_spec_l06Digit := by
  refine FnOk.body mix_ok E_spec_l06Digit_ok Try.func71 rfl (by kernel_rfl) (by kernel_rfl) ?_ ?_ ?_ ?_ ?_
  · intro args H K K' h hk
    simp only [S_spec_l06Digit] at *
    unfold F_spec_l06Digit at *
    split at hk
    · have k := hk
      exact h _ _ k
    · exact hk.elim
  · intro _ args H K hk
    simp only [S_spec_l06Digit] at *
    unfold F_spec_l06Digit at *
    split at hk
    · have k := hk
      exact ⟨_, k, fun K' k' => k'⟩
    · exact hk.elim
  · intro args H K hk
    simp only [S_spec_l06Digit] at *
    unfold F_spec_l06Digit at *
    split at hk
    · have k := hk
      exact ⟨_, _, k⟩
    · exact hk.elim
  · intro hq; cases hq
  · have mm := @spec_l06Digit_main
    revert mm
    generalize bodyK Try.prog E_spec_l06Digit Try.f71 = Q
    intro mm args H K hk
    simp only [S_spec_l06Digit] at *
    unfold F_spec_l06Digit at *
    split at hk
    · exact mm _ _ H K hk
    · exact hk.elim
def p_spec_l06Code_l2 (l_list : List Int) (plane : Int) (k : Int) (q1_1 : Int) (q1_2 : Int) (q1_4 : Int) (q1_5 : Int) (q1_6 : List Bool) (k2_2 : Int → Int → Int → (List Bool) → (Int × Int × (List Bool))) : Nat → Int → Int → Int → (List Bool) → Int × Int × (List Bool)
  | 0, _, _, _, _ => (0, 0, [])
  | μ2 + 1, i, q2_1, q2_2, q2_3 => (bif decide ((i : Int) < (l_list.length : Int)) then (bif (p_spec_l06Digit (((l_list).getD (i : Int).toNat 0)) k) then (bif (Int.fdiv ((p_spec_l06Abs (((l_list).getD (i : Int).toNat 0)))) (2 ^ (min (IntKind.wrap .u64 (k + 1) : Int).toNat (IntKind.bits .i64))) : Int) == 0 then (p_spec_l06Code_l2 l_list plane k q1_1 q1_2 q1_4 q1_5 q1_6 k2_2 μ2 (i + 1) q2_1 q2_2 (((q2_3 ++ [((p_spec_l06Digit (((l_list).getD (i : Int).toNat 0)) k))]) ++ [(decide ((((l_list).getD (i : Int).toNat 0) : Int) < 0))]))) else (p_spec_l06Code_l2 l_list plane k q1_1 q1_2 q1_4 q1_5 q1_6 k2_2 μ2 (i + 1) q2_1 q2_2 ((q2_3 ++ [((p_spec_l06Digit (((l_list).getD (i : Int).toNat 0)) k))])))) else (p_spec_l06Code_l2 l_list plane k q1_1 q1_2 q1_4 q1_5 q1_6 k2_2 μ2 (i + 1) q2_1 q2_2 ((q2_3 ++ [((p_spec_l06Digit (((l_list).getD (i : Int).toNat 0)) k))])))) else (k2_2 i q2_1 q2_2 q2_3))
theorem p_spec_l06Code_l2_s (l_list : List Int) (plane : Int) (k : Int) (q1_1 : Int) (q1_2 : Int) (q1_4 : Int) (q1_5 : Int) (q1_6 : List Bool) (k2_2 : Int → Int → Int → (List Bool) → (Int × Int × (List Bool))) (μ2 : Nat) (i : Int) (q2_1 : Int) (q2_2 : Int) (q2_3 : List Bool) : p_spec_l06Code_l2 l_list plane k q1_1 q1_2 q1_4 q1_5 q1_6 k2_2 (μ2 + 1) i q2_1 q2_2 q2_3 = (bif decide ((i : Int) < (l_list.length : Int)) then (bif (p_spec_l06Digit (((l_list).getD (i : Int).toNat 0)) k) then (bif (Int.fdiv ((p_spec_l06Abs (((l_list).getD (i : Int).toNat 0)))) (2 ^ (min (IntKind.wrap .u64 (k + 1) : Int).toNat (IntKind.bits .i64))) : Int) == 0 then (p_spec_l06Code_l2 l_list plane k q1_1 q1_2 q1_4 q1_5 q1_6 k2_2 μ2 (i + 1) q2_1 q2_2 (((q2_3 ++ [((p_spec_l06Digit (((l_list).getD (i : Int).toNat 0)) k))]) ++ [(decide ((((l_list).getD (i : Int).toNat 0) : Int) < 0))]))) else (p_spec_l06Code_l2 l_list plane k q1_1 q1_2 q1_4 q1_5 q1_6 k2_2 μ2 (i + 1) q2_1 q2_2 ((q2_3 ++ [((p_spec_l06Digit (((l_list).getD (i : Int).toNat 0)) k))])))) else (p_spec_l06Code_l2 l_list plane k q1_1 q1_2 q1_4 q1_5 q1_6 k2_2 μ2 (i + 1) q2_1 q2_2 ((q2_3 ++ [((p_spec_l06Digit (((l_list).getD (i : Int).toNat 0)) k))])))) else (k2_2 i q2_1 q2_2 q2_3)) := rfl
def p_spec_l06Code_l1 (l_list : List Int) (plane : Int) : Nat → Int → Int → Int → Int → Int → (List Bool) → Int × Int × (List Bool)
  | 0, _, _, _, _, _, _ => (0, 0, [])
  | μ + 1, k, q1_1, q1_2, q1_4, q1_5, q1_6 => (bif decide ((plane : Int) ≤ k) then (p_spec_l06Code_l2 l_list plane k q1_1 q1_2 q1_4 q1_5 q1_6 (fun (i : Int) (q2_1 : Int) (q2_2 : Int) (q2_3 : List Bool) => (p_spec_l06Code_l1 l_list plane μ (k - 1) q1_1 q1_2 q2_1 q2_2 q2_3)) (Int.toNat ((l_list.length : Int) - (0 : Int)) + 1) (0 : Int) q1_4 q1_5 q1_6) else (q1_4, q1_5, q1_6))
theorem p_spec_l06Code_l1_s (l_list : List Int) (plane : Int) (μ : Nat) (k : Int) (q1_1 : Int) (q1_2 : Int) (q1_4 : Int) (q1_5 : Int) (q1_6 : List Bool) : p_spec_l06Code_l1 l_list plane (μ + 1) k q1_1 q1_2 q1_4 q1_5 q1_6 = (bif decide ((plane : Int) ≤ k) then (p_spec_l06Code_l2 l_list plane k q1_1 q1_2 q1_4 q1_5 q1_6 (fun (i : Int) (q2_1 : Int) (q2_2 : Int) (q2_3 : List Bool) => (p_spec_l06Code_l1 l_list plane μ (k - 1) q1_1 q1_2 q2_1 q2_2 q2_3)) (Int.toNat ((l_list.length : Int) - (0 : Int)) + 1) (0 : Int) q1_4 q1_5 q1_6) else (q1_4, q1_5, q1_6)) := rfl
def p_spec_l06Code (l_list : List Int) (plane : Int) : Int × Int × (List Bool) := (p_spec_l06Code_l1 l_list plane (Int.toNat (((((p_spec_l06Planes l_list) - 1))) - plane + 1) + 1) ((((p_spec_l06Planes l_list) - 1))) 0 0 (l_list.length : Int) (p_spec_l06Planes l_list) ([] : List Bool))
theorem p_spec_l06Code_eq (l_list : List Int) (plane : Int) : p_spec_l06Code l_list plane = (p_spec_l06Code_l1 l_list plane (Int.toNat (((((p_spec_l06Planes l_list) - 1))) - plane + 1) + 1) ((((p_spec_l06Planes l_list) - 1))) 0 0 (l_list.length : Int) (p_spec_l06Planes l_list) ([] : List Bool)) := rfl
def T_spec_l06Code (list_a : Option Addr) (list_n : Nat) (list_e : Nat) (plane : Int) (H : AHeap) (K : Int → Int → (Option Addr) → Nat → Nat → AHeap → Prop) : Prop := ∃ (l_list : List Int), IsL fI H list_a list_n l_list ∧ l_list.length < 1073741824 ∧ (∀ j : Nat, -1000000 ≤ l_list.getD j 0 ∧ l_list.getD j 0 ≤ 1000000) ∧ (l_list.length : Int) ≤ 128 ∧ 0 ≤ plane ∧ ((∀ (r1_Bits_a : Option Addr) (r1_Bits_n r1_Bits_e : Nat), ∀ H' : AHeap, Grow H H' → OwnS fB H' H.length r1_Bits_a r1_Bits_n r1_Bits_e ((p_spec_l06Code l_list plane).2.2) → K ((p_spec_l06Code l_list plane).1) ((p_spec_l06Code l_list plane).2.1) r1_Bits_a r1_Bits_n r1_Bits_e H'))
theorem T_spec_l06Code_i {list_a : Option Addr} {list_n : Nat} {list_e : Nat} {plane : Int} {H : AHeap} {K : Int → Int → (Option Addr) → Nat → Nat → AHeap → Prop} (h : ∃ (l_list : List Int), IsL fI H list_a list_n l_list ∧ l_list.length < 1073741824 ∧ (∀ j : Nat, -1000000 ≤ l_list.getD j 0 ∧ l_list.getD j 0 ≤ 1000000) ∧ (l_list.length : Int) ≤ 128 ∧ 0 ≤ plane ∧ ((∀ (r1_Bits_a : Option Addr) (r1_Bits_n r1_Bits_e : Nat), ∀ H' : AHeap, Grow H H' → OwnS fB H' H.length r1_Bits_a r1_Bits_n r1_Bits_e ((p_spec_l06Code l_list plane).2.2) → K ((p_spec_l06Code l_list plane).1) ((p_spec_l06Code l_list plane).2.1) r1_Bits_a r1_Bits_n r1_Bits_e H'))) : T_spec_l06Code list_a list_n list_e plane H K := h

/-! spec_l06Code: function 74 -/
def E_spec_l06Code : Env := envOf [(69, S_spec_l06Planes), (71, S_spec_l06Digit), (84, S_spec_l06Abs)]
def F_spec_l06Code : List Value → AHeap → (Value → AHeap → Prop) → Prop
  | [.slice list_a list_n list_e, .int .i64 plane], H, K => T_spec_l06Code list_a list_n list_e plane H fun (r1_Count : Int) (r1_Top : Int) (r1_Bits_a : Option Addr) (r1_Bits_n : Nat) (r1_Bits_e : Nat) (H' : AHeap) => K (.agg #[.int .i64 r1_Count, .int .i64 r1_Top, .slice r1_Bits_a r1_Bits_n r1_Bits_e]) H'
  | _, _, _ => False
def S_spec_l06Code : FSpec := { F := F_spec_l06Code, quiet := false, tame := true }
theorem spec_l06Code_vc (list_a : Option Addr) (list_n : Nat) (list_e : Nat) (plane : Int) (H : AHeap) (K : Value → AHeap → Prop) : bodyK Try.prog E_spec_l06Code Try.f74 [.slice list_a list_n list_e, .int .i64 plane] H K =
  (Al [.int .i64 0, .int .i64 0, .slice none 0 0] H fun b1 H1 => T_spec_l06Planes list_a list_n list_e H1 fun (r1 : Int) (H2 : AHeap) => Al [] H2 fun b2 H3 => Al [.int .i64 0, .int .i64 0, .slice none 0 0] H3 fun b3 H4 => isOwn H4 b3 ∧ (∃ l, rdN H4 b3 0 3 = some l) ∧ Lt (setN H4 b3 0 [.int .i64 (list_n : Int), .int .i64 r1, .slice (some ⟨b2, 0, none⟩) 0 1]) fun H5 => ∃ x1 : Int,  rdC H5 b3 1 = some (.int .i64 x1) ∧ loopK (exK Try.prog E_spec_l06Code (cl (cl (cr (cl (cr (cr (bodyC Try.f74)))))))) [.slice list_a list_n list_e, .int .i64 plane, undef, undef, .pointer (some ⟨b1, 0, none⟩), .pointer (some ⟨b3, 0, none⟩), .int .i64 (IntKind.wrap .i64 (x1 - 1)), undef, undef, .slice list_a list_n list_e, .int .i64 (list_n : Int), .slice list_a list_n list_e, .int .i64 r1, .slice (some ⟨b2, 0, none⟩) 0 1, .agg #[.int .i64 (list_n : Int), .int .i64 r1, .slice (some ⟨b2, 0, none⟩) 0 1], .pointer (some ⟨b3, 1, none⟩), .int .i64 x1, .int .i64 (IntKind.wrap .i64 (x1 - 1)), undef, undef, undef, undef, undef, undef, undef, undef, undef, undef, undef, undef, undef, undef, undef, undef, undef, undef, undef, undef, undef, undef, undef, undef, undef, undef, undef, undef, undef, undef, undef, undef, undef, undef, undef, undef, undef, undef, undef, undef, undef, undef, undef, undef, undef, undef, undef] H5 (blockQ 0 (seqQ (exK Try.prog E_spec_l06Code (cr (cr (cr (bodyC Try.f74))))) (retK Try.prog Try.f74 K)))) := by kernel_rfl
theorem spec_l06Code_r1 (b1 : Nat) (b2 : Nat) (b3 : Nat) (list_a : Option Addr) (list_e : Nat) (list_n : Nat) (plane : Int) (r1 : Int) (x1 : Int) (z1_17 : Int) (k : Int) (g7 g8 g18 g19 g20 g21 g22 g23 g24 g25 g26 g27 g28 g29 g30 g31 g32 g33 g34 g35 g36 g37 g38 g39 g40 g41 g42 g43 g44 g45 g46 g47 g48 g49 g50 g51 g52 g53 g54 g55 g56 g57 g58 g59 g60 g61 g62 g63 : Value) (H : AHeap) (R : Post) : exK Try.prog E_spec_l06Code (cl (cl (cr (cl (cr (cr (bodyC Try.f74))))))) [.slice list_a list_n list_e, .int .i64 plane, undef, undef, .pointer (some ⟨b1, 0, none⟩), .pointer (some ⟨b3, 0, none⟩), .int .i64 k, g7, g8, .slice list_a list_n list_e, .int .i64 (list_n : Int), .slice list_a list_n list_e, .int .i64 r1, .slice (some ⟨b2, 0, none⟩) 0 1, .agg #[.int .i64 (list_n : Int), .int .i64 r1, .slice (some ⟨b2, 0, none⟩) 0 1], .pointer (some ⟨b3, 1, none⟩), .int .i64 x1, .int .i64 z1_17, g18, g19, g20, g21, g22, g23, g24, g25, g26, g27, g28, g29, g30, g31, g32, g33, g34, g35, g36, g37, g38, g39, g40, g41, g42, g43, g44, g45, g46, g47, g48, g49, g50, g51, g52, g53, g54, g55, g56, g57, g58, g59, g60, g61, g62, g63, undef] H R =
  (Br (decide ((plane : Int) ≤ k)) (loopK (exK Try.prog E_spec_l06Code (cl (cl (cr (cl (cl (cr (cl (cl (cr (cl (cr (cr (bodyC Try.f74)))))))))))))) [.slice list_a list_n list_e, .int .i64 plane, undef, undef, .pointer (some ⟨b1, 0, none⟩), .pointer (some ⟨b3, 0, none⟩), .int .i64 k, .int .i64 0, g8, .slice list_a list_n list_e, .int .i64 (list_n : Int), .slice list_a list_n list_e, .int .i64 r1, .slice (some ⟨b2, 0, none⟩) 0 1, .agg #[.int .i64 (list_n : Int), .int .i64 r1, .slice (some ⟨b2, 0, none⟩) 0 1], .pointer (some ⟨b3, 1, none⟩), .int .i64 x1, .int .i64 z1_17, .int .i64 k, .int .i64 plane, .bool (decide ((plane : Int) ≤ k)), g21, g22, g23, g24, g25, g26, g27, g28, g29, g30, g31, g32, g33, g34, g35, g36, g37, g38, g39, g40, g41, g42, g43, g44, g45, g46, g47, g48, g49, g50, g51, g52, g53, g54, g55, g56, g57, g58, g59, g60, g61, g62, g63, undef] H (blockQ 2 (blockQ 1 (seqQ (exK Try.prog E_spec_l06Code (cr (cr (cl (cl (cr (cl (cr (cr (bodyC Try.f74)))))))))) (R))))) (R (.exit 0) [.slice list_a list_n list_e, .int .i64 plane, undef, undef, .pointer (some ⟨b1, 0, none⟩), .pointer (some ⟨b3, 0, none⟩), .int .i64 k, g7, g8, .slice list_a list_n list_e, .int .i64 (list_n : Int), .slice list_a list_n list_e, .int .i64 r1, .slice (some ⟨b2, 0, none⟩) 0 1, .agg #[.int .i64 (list_n : Int), .int .i64 r1, .slice (some ⟨b2, 0, none⟩) 0 1], .pointer (some ⟨b3, 1, none⟩), .int .i64 x1, .int .i64 z1_17, .int .i64 k, .int .i64 plane, .bool (decide ((plane : Int) ≤ k)), g21, g22, g23, g24, g25, g26, g27, g28, g29, g30, g31, g32, g33, g34, g35, g36, g37, g38, g39, g40, g41, g42, g43, g44, g45, g46, g47, g48, g49, g50, g51, g52, g53, g54, g55, g56, g57, g58, g59, g60, g61, g62, g63, undef] H)) := by kernel_rfl
def spec_l06Code_I1 (b1 : Nat) (b2 : Nat) (b3 : Nat) (list_a : Option Addr) (list_e : Nat) (list_n : Nat) (plane : Int) (r1 : Int) (x1 : Int) (z1_17 : Int) (Inv : Nat → Int → AHeap → Prop) : Nat → List Value → AHeap → Prop := fun μ tm H => ∃ (k : Int), ∃ g7 g8 g18 g19 g20 g21 g22 g23 g24 g25 g26 g27 g28 g29 g30 g31 g32 g33 g34 g35 g36 g37 g38 g39 g40 g41 g42 g43 g44 g45 g46 g47 g48 g49 g50 g51 g52 g53 g54 g55 g56 g57 g58 g59 g60 g61 g62 g63, tm = [.slice list_a list_n list_e, .int .i64 plane, undef, undef, .pointer (some ⟨b1, 0, none⟩), .pointer (some ⟨b3, 0, none⟩), .int .i64 k, g7, g8, .slice list_a list_n list_e, .int .i64 (list_n : Int), .slice list_a list_n list_e, .int .i64 r1, .slice (some ⟨b2, 0, none⟩) 0 1, .agg #[.int .i64 (list_n : Int), .int .i64 r1, .slice (some ⟨b2, 0, none⟩) 0 1], .pointer (some ⟨b3, 1, none⟩), .int .i64 x1, .int .i64 z1_17, g18, g19, g20, g21, g22, g23, g24, g25, g26, g27, g28, g29, g30, g31, g32, g33, g34, g35, g36, g37, g38, g39, g40, g41, g42, g43, g44, g45, g46, g47, g48, g49, g50, g51, g52, g53, g54, g55, g56, g57, g58, g59, g60, g61, g62, g63, undef] ∧ Inv μ k H
theorem spec_l06Code_L1 (b1 : Nat) (b2 : Nat) (b3 : Nat) (list_a : Option Addr) (list_e : Nat) (list_n : Nat) (plane : Int) (r1 : Int) (x1 : Int) (z1_17 : Int) {Q : Post} (Inv : Nat → Int → AHeap → Prop) (ν : Nat) (k : Int) (g7 g8 g18 g19 g20 g21 g22 g23 g24 g25 g26 g27 g28 g29 g30 g31 g32 g33 g34 g35 g36 g37 g38 g39 g40 g41 g42 g43 g44 g45 g46 g47 g48 g49 g50 g51 g52 g53 g54 g55 g56 g57 g58 g59 g60 g61 g62 g63 : Value) (H : AHeap) (h0 : Inv ν k H)
    (hs : ∀ (μ : Nat) (k : Int) (g7 g8 g18 g19 g20 g21 g22 g23 g24 g25 g26 g27 g28 g29 g30 g31 g32 g33 g34 g35 g36 g37 g38 g39 g40 g41 g42 g43 g44 g45 g46 g47 g48 g49 g50 g51 g52 g53 g54 g55 g56 g57 g58 g59 g60 g61 g62 g63 : Value) (H : AHeap), Inv μ k H → exK Try.prog E_spec_l06Code (cl (cl (cr (cl (cr (cr (bodyC Try.f74))))))) [.slice list_a list_n list_e, .int .i64 plane, undef, undef, .pointer (some ⟨b1, 0, none⟩), .pointer (some ⟨b3, 0, none⟩), .int .i64 k, g7, g8, .slice list_a list_n list_e, .int .i64 (list_n : Int), .slice list_a list_n list_e, .int .i64 r1, .slice (some ⟨b2, 0, none⟩) 0 1, .agg #[.int .i64 (list_n : Int), .int .i64 r1, .slice (some ⟨b2, 0, none⟩) 0 1], .pointer (some ⟨b3, 1, none⟩), .int .i64 x1, .int .i64 z1_17, g18, g19, g20, g21, g22, g23, g24, g25, g26, g27, g28, g29, g30, g31, g32, g33, g34, g35, g36, g37, g38, g39, g40, g41, g42, g43, g44, g45, g46, g47, g48, g49, g50, g51, g52, g53, g54, g55, g56, g57, g58, g59, g60, g61, g62, g63, undef] H (loopQ (spec_l06Code_I1 b1 b2 b3 list_a list_e list_n plane r1 x1 z1_17 Inv) μ Q)) : loopK (exK Try.prog E_spec_l06Code (cl (cl (cr (cl (cr (cr (bodyC Try.f74)))))))) [.slice list_a list_n list_e, .int .i64 plane, undef, undef, .pointer (some ⟨b1, 0, none⟩), .pointer (some ⟨b3, 0, none⟩), .int .i64 k, g7, g8, .slice list_a list_n list_e, .int .i64 (list_n : Int), .slice list_a list_n list_e, .int .i64 r1, .slice (some ⟨b2, 0, none⟩) 0 1, .agg #[.int .i64 (list_n : Int), .int .i64 r1, .slice (some ⟨b2, 0, none⟩) 0 1], .pointer (some ⟨b3, 1, none⟩), .int .i64 x1, .int .i64 z1_17, g18, g19, g20, g21, g22, g23, g24, g25, g26, g27, g28, g29, g30, g31, g32, g33, g34, g35, g36, g37, g38, g39, g40, g41, g42, g43, g44, g45, g46, g47, g48, g49, g50, g51, g52, g53, g54, g55, g56, g57, g58, g59, g60, g61, g62, g63, undef] H Q :=
  ⟨spec_l06Code_I1 b1 b2 b3 list_a list_e list_n plane r1 x1 z1_17 Inv, ν, ⟨k, g7, g8, g18, g19, g20, g21, g22, g23, g24, g25, g26, g27, g28, g29, g30, g31, g32, g33, g34, g35, g36, g37, g38, g39, g40, g41, g42, g43, g44, g45, g46, g47, g48, g49, g50, g51, g52, g53, g54, g55, g56, g57, g58, g59, g60, g61, g62, g63, rfl, h0⟩, fun μ tm H h => by obtain ⟨k, g7, g8, g18, g19, g20, g21, g22, g23, g24, g25, g26, g27, g28, g29, g30, g31, g32, g33, g34, g35, g36, g37, g38, g39, g40, g41, g42, g43, g44, g45, g46, g47, g48, g49, g50, g51, g52, g53, g54, g55, g56, g57, g58, g59, g60, g61, g62, g63, rfl, hI⟩ := h; exact hs μ k g7 g8 g18 g19 g20 g21 g22 g23 g24 g25 g26 g27 g28 g29 g30 g31 g32 g33 g34 g35 g36 g37 g38 g39 g40 g41 g42 g43 g44 g45 g46 g47 g48 g49 g50 g51 g52 g53 g54 g55 g56 g57 g58 g59 g60 g61 g62 g63 H hI⟩
theorem spec_l06Code_n1 {b1 : Nat} {b2 : Nat} {b3 : Nat} {list_a : Option Addr} {list_e : Nat} {list_n : Nat} {plane : Int} {r1 : Int} {x1 : Int} {z1_17 : Int} {Q : Post} {Inv : Nat → Int → AHeap → Prop} {μ : Nat} (μ' : Nat) {k : Int} {g7 g8 g18 g19 g20 g21 g22 g23 g24 g25 g26 g27 g28 g29 g30 g31 g32 g33 g34 g35 g36 g37 g38 g39 g40 g41 g42 g43 g44 g45 g46 g47 g48 g49 g50 g51 g52 g53 g54 g55 g56 g57 g58 g59 g60 g61 g62 g63 : Value} {H : AHeap} (hm : μ' < μ) (hI : Inv μ' k H) : loopQ (spec_l06Code_I1 b1 b2 b3 list_a list_e list_n plane r1 x1 z1_17 Inv) μ Q .normal [.slice list_a list_n list_e, .int .i64 plane, undef, undef, .pointer (some ⟨b1, 0, none⟩), .pointer (some ⟨b3, 0, none⟩), .int .i64 k, g7, g8, .slice list_a list_n list_e, .int .i64 (list_n : Int), .slice list_a list_n list_e, .int .i64 r1, .slice (some ⟨b2, 0, none⟩) 0 1, .agg #[.int .i64 (list_n : Int), .int .i64 r1, .slice (some ⟨b2, 0, none⟩) 0 1], .pointer (some ⟨b3, 1, none⟩), .int .i64 x1, .int .i64 z1_17, g18, g19, g20, g21, g22, g23, g24, g25, g26, g27, g28, g29, g30, g31, g32, g33, g34, g35, g36, g37, g38, g39, g40, g41, g42, g43, g44, g45, g46, g47, g48, g49, g50, g51, g52, g53, g54, g55, g56, g57, g58, g59, g60, g61, g62, g63, undef] H := ⟨μ', hm, k, g7, g8, g18, g19, g20, g21, g22, g23, g24, g25, g26, g27, g28, g29, g30, g31, g32, g33, g34, g35, g36, g37, g38, g39, g40, g41, g42, g43, g44, g45, g46, g47, g48, g49, g50, g51, g52, g53, g54, g55, g56, g57, g58, g59, g60, g61, g62, g63, rfl, hI⟩
theorem spec_l06Code_x1_0 (b1 : Nat) (b2 : Nat) (b3 : Nat) (list_a : Option Addr) (list_e : Nat) (list_n : Nat) (plane : Int) (r1 : Int) (x1 : Int) (z1_17 : Int) (k : Int) (g7 g8 g18 g19 g20 g21 g22 g23 g24 g25 g26 g27 g28 g29 g30 g31 g32 g33 g34 g35 g36 g37 g38 g39 g40 g41 g42 g43 g44 g45 g46 g47 g48 g49 g50 g51 g52 g53 g54 g55 g56 g57 g58 g59 g60 g61 g62 g63 : Value) (H : AHeap) (K : Value → AHeap → Prop)  {I : Nat → List Value → AHeap → Prop} {μ : Nat} : loopQ I μ (blockQ 0 (seqQ (exK Try.prog E_spec_l06Code (cr (cr (cr (bodyC Try.f74))))) (retK Try.prog Try.f74 K))) (.exit 0) [.slice list_a list_n list_e, .int .i64 plane, undef, undef, .pointer (some ⟨b1, 0, none⟩), .pointer (some ⟨b3, 0, none⟩), .int .i64 k, g7, g8, .slice list_a list_n list_e, .int .i64 (list_n : Int), .slice list_a list_n list_e, .int .i64 r1, .slice (some ⟨b2, 0, none⟩) 0 1, .agg #[.int .i64 (list_n : Int), .int .i64 r1, .slice (some ⟨b2, 0, none⟩) 0 1], .pointer (some ⟨b3, 1, none⟩), .int .i64 x1, .int .i64 z1_17, g18, g19, g20, g21, g22, g23, g24, g25, g26, g27, g28, g29, g30, g31, g32, g33, g34, g35, g36, g37, g38, g39, g40, g41, g42, g43, g44, g45, g46, g47, g48, g49, g50, g51, g52, g53, g54, g55, g56, g57, g58, g59, g60, g61, g62, g63, undef] H =
  (∃ c1 : Int, ∃ c2 : Int, ∃ c3_a : Option Addr, ∃ c3_n : Nat, ∃ c3_e : Nat,  rdN H b3 0 3 = some [.int .i64 c1, .int .i64 c2, .slice c3_a c3_n c3_e] ∧ isOwn H b1 ∧ (∃ l, rdN H b1 0 3 = some l) ∧ Lt (setN H b1 0 [.int .i64 c1, .int .i64 c2, .slice c3_a c3_n c3_e]) fun H14 => ∃ c4 : Int, ∃ c5 : Int, ∃ c6_a : Option Addr, ∃ c6_n : Nat, ∃ c6_e : Nat,  rdN H14 b1 0 3 = some [.int .i64 c4, .int .i64 c5, .slice c6_a c6_n c6_e] ∧ K (.agg #[.int .i64 c4, .int .i64 c5, .slice c6_a c6_n c6_e]) H14) := by kernel_rfl
theorem spec_l06Code_r2 (b1 : Nat) (b2 : Nat) (b3 : Nat) (g21 : Value) (g22 : Value) (k : Int) (list_a : Option Addr) (list_e : Nat) (list_n : Nat) (plane : Int) (r1 : Int) (x1 : Int) (z1_17 : Int) (i : Int) (g8 g23 g24 g25 g26 g27 g28 g29 g30 g31 g32 g33 g34 g35 g36 g37 g38 g39 g40 g41 g42 g43 g44 g45 g46 g47 g48 g49 g50 g51 g52 g53 g54 g55 g56 g57 g58 g59 g60 g61 g62 g63 : Value) (H : AHeap) (R : Post) : exK Try.prog E_spec_l06Code (cl (cl (cr (cl (cl (cr (cl (cl (cr (cl (cr (cr (bodyC Try.f74))))))))))))) [.slice list_a list_n list_e, .int .i64 plane, undef, undef, .pointer (some ⟨b1, 0, none⟩), .pointer (some ⟨b3, 0, none⟩), .int .i64 k, .int .i64 i, g8, .slice list_a list_n list_e, .int .i64 (list_n : Int), .slice list_a list_n list_e, .int .i64 r1, .slice (some ⟨b2, 0, none⟩) 0 1, .agg #[.int .i64 (list_n : Int), .int .i64 r1, .slice (some ⟨b2, 0, none⟩) 0 1], .pointer (some ⟨b3, 1, none⟩), .int .i64 x1, .int .i64 z1_17, .int .i64 k, .int .i64 plane, .bool (decide ((plane : Int) ≤ k)), g21, g22, g23, g24, g25, g26, g27, g28, g29, g30, g31, g32, g33, g34, g35, g36, g37, g38, g39, g40, g41, g42, g43, g44, g45, g46, g47, g48, g49, g50, g51, g52, g53, g54, g55, g56, g57, g58, g59, g60, g61, g62, g63, undef] H R =
  (Br (decide ((i : Int) < (list_n : Int))) ((0 : Int) ≤ i ∧ i < (list_n : Int) ∧ ∃ b4 f1, (list_a : Option Addr) = some ⟨b4, f1, none⟩ ∧ ∃ x2 : Int,  rdC H b4 (f1 + (i : Int).toNat * 1) = some (.int .i64 x2) ∧ T_spec_l06Digit x2 k H fun (r2 : Bool) (H6 : AHeap) => ∃ x3_a : Option Addr, ∃ x3_n : Nat, ∃ x3_e : Nat,  rdC H6 b3 2 = some (.slice x3_a x3_n x3_e) ∧ Al [.bool r2] H6 fun b5 H7 => ∃ o1 w1 : List Value, ownB H7 x3_a x3_n x3_e 1 = some o1 ∧ rdS H7 (some ⟨b5, 0, none⟩) (1 * 1) = some w1 ∧ ((x3_a : Option Addr) = none → 0 < (1 : Nat)) ∧ (x3_n : Nat) + 1 < most ∧ Ap H7 (killB H7 x3_a ++ [some ⟨o1 ++ w1, true⟩]) fun b6 H8 => isOwn H8 b3 ∧ (∃ l, rdN H8 b3 2 1 = some l) ∧ Lt (setC H8 b3 2 (.slice (some ⟨b6, 0, none⟩) (x3_n + 1) 1)) fun H9 => Br r2 ((0 : Int) ≤ i ∧ i < (list_n : Int) ∧ ∃ b7 f2, (list_a : Option Addr) = some ⟨b7, f2, none⟩ ∧ ∃ x4 : Int,  rdC H9 b7 (f2 + (i : Int).toNat * 1) = some (.int .i64 x4) ∧ T_spec_l06Abs x4 H9 fun (r3 : Int) (H10 : AHeap) => (0 : Int) ≤ IntKind.wrap .u64 (IntKind.wrap .i64 (k + 1)) ∧ Br ((Int.fdiv r3 (2 ^ (min (IntKind.wrap .u64 (IntKind.wrap .i64 (k + 1)) : Int).toNat (IntKind.bits .i64))) : Int) == 0) (∃ x5_a : Option Addr, ∃ x5_n : Nat, ∃ x5_e : Nat,  rdC H10 b3 2 = some (.slice x5_a x5_n x5_e) ∧ (0 : Int) ≤ i ∧ i < (list_n : Int) ∧ ∃ b8 f3, (list_a : Option Addr) = some ⟨b8, f3, none⟩ ∧ ∃ x6 : Int,  rdC H10 b8 (f3 + (i : Int).toNat * 1) = some (.int .i64 x6) ∧ Al [.bool (decide ((x6 : Int) < 0))] H10 fun b9 H11 => ∃ o2 w2 : List Value, ownB H11 x5_a x5_n x5_e 1 = some o2 ∧ rdS H11 (some ⟨b9, 0, none⟩) (1 * 1) = some w2 ∧ ((x5_a : Option Addr) = none → 0 < (1 : Nat)) ∧ (x5_n : Nat) + 1 < most ∧ Ap H11 (killB H11 x5_a ++ [some ⟨o2 ++ w2, true⟩]) fun b10 H12 => isOwn H12 b3 ∧ (∃ l, rdN H12 b3 2 1 = some l) ∧ Lt (setC H12 b3 2 (.slice (some ⟨b10, 0, none⟩) (x5_n + 1) 1)) fun H13 => R .normal [.slice list_a list_n list_e, .int .i64 plane, undef, undef, .pointer (some ⟨b1, 0, none⟩), .pointer (some ⟨b3, 0, none⟩), .int .i64 k, .int .i64 (IntKind.wrap .i64 (i + 1)), .bool r2, .slice list_a list_n list_e, .int .i64 (list_n : Int), .slice list_a list_n list_e, .int .i64 r1, .slice (some ⟨b2, 0, none⟩) 0 1, .agg #[.int .i64 (list_n : Int), .int .i64 r1, .slice (some ⟨b2, 0, none⟩) 0 1], .pointer (some ⟨b3, 1, none⟩), .int .i64 x1, .int .i64 z1_17, .int .i64 k, .int .i64 plane, .bool (decide ((plane : Int) ≤ k)), g21, g22, .int .i64 i, .slice list_a list_n list_e, .int .i64 (list_n : Int), .bool (decide ((i : Int) < (list_n : Int))), .int .i64 i, .int .i64 (IntKind.wrap .i64 (i + 1)), .slice list_a list_n list_e, .int .i64 i, .pointer (some ⟨b4, f1 + (i : Int).toNat * 1, none⟩), .int .i64 x2, .int .i64 k, .bool r2, .pointer (some ⟨b3, 2, none⟩), .slice x3_a x3_n x3_e, .bool r2, .slice (some ⟨b5, 0, none⟩) 1 1, .slice (some ⟨b6, 0, none⟩) (x3_n + 1) 1, .pointer (some ⟨b3, 2, none⟩), .bool r2, .bool true, .slice list_a list_n list_e, .int .i64 i, .pointer (some ⟨b7, f2 + (i : Int).toNat * 1, none⟩), .int .i64 x4, .int .i64 r3, .int .i64 k, .int .i64 (IntKind.wrap .i64 (k + 1)), .int .u64 (IntKind.wrap .u64 (IntKind.wrap .i64 (k + 1))), .int .i64 (Int.fdiv r3 (2 ^ (min (IntKind.wrap .u64 (IntKind.wrap .i64 (k + 1)) : Int).toNat (IntKind.bits .i64)))), .bool ((Int.fdiv r3 (2 ^ (min (IntKind.wrap .u64 (IntKind.wrap .i64 (k + 1)) : Int).toNat (IntKind.bits .i64))) : Int) == 0), .bool ((Int.fdiv r3 (2 ^ (min (IntKind.wrap .u64 (IntKind.wrap .i64 (k + 1)) : Int).toNat (IntKind.bits .i64))) : Int) == 0), .pointer (some ⟨b3, 2, none⟩), .slice x5_a x5_n x5_e, .slice list_a list_n list_e, .int .i64 i, .pointer (some ⟨b8, f3 + (i : Int).toNat * 1, none⟩), .int .i64 x6, .bool (decide ((x6 : Int) < 0)), .slice (some ⟨b9, 0, none⟩) 1 1, .slice (some ⟨b10, 0, none⟩) (x5_n + 1) 1, .pointer (some ⟨b3, 2, none⟩), undef] H13) (R .normal [.slice list_a list_n list_e, .int .i64 plane, undef, undef, .pointer (some ⟨b1, 0, none⟩), .pointer (some ⟨b3, 0, none⟩), .int .i64 k, .int .i64 (IntKind.wrap .i64 (i + 1)), .bool r2, .slice list_a list_n list_e, .int .i64 (list_n : Int), .slice list_a list_n list_e, .int .i64 r1, .slice (some ⟨b2, 0, none⟩) 0 1, .agg #[.int .i64 (list_n : Int), .int .i64 r1, .slice (some ⟨b2, 0, none⟩) 0 1], .pointer (some ⟨b3, 1, none⟩), .int .i64 x1, .int .i64 z1_17, .int .i64 k, .int .i64 plane, .bool (decide ((plane : Int) ≤ k)), g21, g22, .int .i64 i, .slice list_a list_n list_e, .int .i64 (list_n : Int), .bool (decide ((i : Int) < (list_n : Int))), .int .i64 i, .int .i64 (IntKind.wrap .i64 (i + 1)), .slice list_a list_n list_e, .int .i64 i, .pointer (some ⟨b4, f1 + (i : Int).toNat * 1, none⟩), .int .i64 x2, .int .i64 k, .bool r2, .pointer (some ⟨b3, 2, none⟩), .slice x3_a x3_n x3_e, .bool r2, .slice (some ⟨b5, 0, none⟩) 1 1, .slice (some ⟨b6, 0, none⟩) (x3_n + 1) 1, .pointer (some ⟨b3, 2, none⟩), .bool r2, .bool true, .slice list_a list_n list_e, .int .i64 i, .pointer (some ⟨b7, f2 + (i : Int).toNat * 1, none⟩), .int .i64 x4, .int .i64 r3, .int .i64 k, .int .i64 (IntKind.wrap .i64 (k + 1)), .int .u64 (IntKind.wrap .u64 (IntKind.wrap .i64 (k + 1))), .int .i64 (Int.fdiv r3 (2 ^ (min (IntKind.wrap .u64 (IntKind.wrap .i64 (k + 1)) : Int).toNat (IntKind.bits .i64)))), .bool ((Int.fdiv r3 (2 ^ (min (IntKind.wrap .u64 (IntKind.wrap .i64 (k + 1)) : Int).toNat (IntKind.bits .i64))) : Int) == 0), .bool ((Int.fdiv r3 (2 ^ (min (IntKind.wrap .u64 (IntKind.wrap .i64 (k + 1)) : Int).toNat (IntKind.bits .i64))) : Int) == 0), g54, g55, g56, g57, g58, g59, g60, g61, g62, g63, undef] H10)) (R .normal [.slice list_a list_n list_e, .int .i64 plane, undef, undef, .pointer (some ⟨b1, 0, none⟩), .pointer (some ⟨b3, 0, none⟩), .int .i64 k, .int .i64 (IntKind.wrap .i64 (i + 1)), .bool r2, .slice list_a list_n list_e, .int .i64 (list_n : Int), .slice list_a list_n list_e, .int .i64 r1, .slice (some ⟨b2, 0, none⟩) 0 1, .agg #[.int .i64 (list_n : Int), .int .i64 r1, .slice (some ⟨b2, 0, none⟩) 0 1], .pointer (some ⟨b3, 1, none⟩), .int .i64 x1, .int .i64 z1_17, .int .i64 k, .int .i64 plane, .bool (decide ((plane : Int) ≤ k)), g21, g22, .int .i64 i, .slice list_a list_n list_e, .int .i64 (list_n : Int), .bool (decide ((i : Int) < (list_n : Int))), .int .i64 i, .int .i64 (IntKind.wrap .i64 (i + 1)), .slice list_a list_n list_e, .int .i64 i, .pointer (some ⟨b4, f1 + (i : Int).toNat * 1, none⟩), .int .i64 x2, .int .i64 k, .bool r2, .pointer (some ⟨b3, 2, none⟩), .slice x3_a x3_n x3_e, .bool r2, .slice (some ⟨b5, 0, none⟩) 1 1, .slice (some ⟨b6, 0, none⟩) (x3_n + 1) 1, .pointer (some ⟨b3, 2, none⟩), .bool r2, .bool false, undef, undef, undef, undef, undef, undef, undef, undef, undef, undef, .bool false, g54, g55, g56, g57, g58, g59, g60, g61, g62, g63, undef] H9)) (R (.exit 2) [.slice list_a list_n list_e, .int .i64 plane, undef, undef, .pointer (some ⟨b1, 0, none⟩), .pointer (some ⟨b3, 0, none⟩), .int .i64 k, .int .i64 i, g8, .slice list_a list_n list_e, .int .i64 (list_n : Int), .slice list_a list_n list_e, .int .i64 r1, .slice (some ⟨b2, 0, none⟩) 0 1, .agg #[.int .i64 (list_n : Int), .int .i64 r1, .slice (some ⟨b2, 0, none⟩) 0 1], .pointer (some ⟨b3, 1, none⟩), .int .i64 x1, .int .i64 z1_17, .int .i64 k, .int .i64 plane, .bool (decide ((plane : Int) ≤ k)), g21, g22, .int .i64 i, .slice list_a list_n list_e, .int .i64 (list_n : Int), .bool (decide ((i : Int) < (list_n : Int))), g27, g28, g29, g30, g31, g32, g33, g34, g35, g36, g37, g38, g39, g40, g41, g42, g43, g44, g45, g46, g47, g48, g49, g50, g51, g52, g53, g54, g55, g56, g57, g58, g59, g60, g61, g62, g63, undef] H)) := by kernel_rfl
def spec_l06Code_I2 (b1 : Nat) (b2 : Nat) (b3 : Nat) (g21 : Value) (g22 : Value) (k : Int) (list_a : Option Addr) (list_e : Nat) (list_n : Nat) (plane : Int) (r1 : Int) (x1 : Int) (z1_17 : Int) (Inv : Nat → Int → AHeap → Prop) : Nat → List Value → AHeap → Prop := fun μ tm H => ∃ (i : Int), ∃ g8 g23 g24 g25 g26 g27 g28 g29 g30 g31 g32 g33 g34 g35 g36 g37 g38 g39 g40 g41 g42 g43 g44 g45 g46 g47 g48 g49 g50 g51 g52 g53 g54 g55 g56 g57 g58 g59 g60 g61 g62 g63, tm = [.slice list_a list_n list_e, .int .i64 plane, undef, undef, .pointer (some ⟨b1, 0, none⟩), .pointer (some ⟨b3, 0, none⟩), .int .i64 k, .int .i64 i, g8, .slice list_a list_n list_e, .int .i64 (list_n : Int), .slice list_a list_n list_e, .int .i64 r1, .slice (some ⟨b2, 0, none⟩) 0 1, .agg #[.int .i64 (list_n : Int), .int .i64 r1, .slice (some ⟨b2, 0, none⟩) 0 1], .pointer (some ⟨b3, 1, none⟩), .int .i64 x1, .int .i64 z1_17, .int .i64 k, .int .i64 plane, .bool (decide ((plane : Int) ≤ k)), g21, g22, g23, g24, g25, g26, g27, g28, g29, g30, g31, g32, g33, g34, g35, g36, g37, g38, g39, g40, g41, g42, g43, g44, g45, g46, g47, g48, g49, g50, g51, g52, g53, g54, g55, g56, g57, g58, g59, g60, g61, g62, g63, undef] ∧ Inv μ i H
theorem spec_l06Code_L2 (b1 : Nat) (b2 : Nat) (b3 : Nat) (g21 : Value) (g22 : Value) (k : Int) (list_a : Option Addr) (list_e : Nat) (list_n : Nat) (plane : Int) (r1 : Int) (x1 : Int) (z1_17 : Int) {Q : Post} (Inv : Nat → Int → AHeap → Prop) (ν : Nat) (i : Int) (g8 g23 g24 g25 g26 g27 g28 g29 g30 g31 g32 g33 g34 g35 g36 g37 g38 g39 g40 g41 g42 g43 g44 g45 g46 g47 g48 g49 g50 g51 g52 g53 g54 g55 g56 g57 g58 g59 g60 g61 g62 g63 : Value) (H : AHeap) (h0 : Inv ν i H)
    (hs : ∀ (μ : Nat) (i : Int) (g8 g23 g24 g25 g26 g27 g28 g29 g30 g31 g32 g33 g34 g35 g36 g37 g38 g39 g40 g41 g42 g43 g44 g45 g46 g47 g48 g49 g50 g51 g52 g53 g54 g55 g56 g57 g58 g59 g60 g61 g62 g63 : Value) (H : AHeap), Inv μ i H → exK Try.prog E_spec_l06Code (cl (cl (cr (cl (cl (cr (cl (cl (cr (cl (cr (cr (bodyC Try.f74))))))))))))) [.slice list_a list_n list_e, .int .i64 plane, undef, undef, .pointer (some ⟨b1, 0, none⟩), .pointer (some ⟨b3, 0, none⟩), .int .i64 k, .int .i64 i, g8, .slice list_a list_n list_e, .int .i64 (list_n : Int), .slice list_a list_n list_e, .int .i64 r1, .slice (some ⟨b2, 0, none⟩) 0 1, .agg #[.int .i64 (list_n : Int), .int .i64 r1, .slice (some ⟨b2, 0, none⟩) 0 1], .pointer (some ⟨b3, 1, none⟩), .int .i64 x1, .int .i64 z1_17, .int .i64 k, .int .i64 plane, .bool (decide ((plane : Int) ≤ k)), g21, g22, g23, g24, g25, g26, g27, g28, g29, g30, g31, g32, g33, g34, g35, g36, g37, g38, g39, g40, g41, g42, g43, g44, g45, g46, g47, g48, g49, g50, g51, g52, g53, g54, g55, g56, g57, g58, g59, g60, g61, g62, g63, undef] H (loopQ (spec_l06Code_I2 b1 b2 b3 g21 g22 k list_a list_e list_n plane r1 x1 z1_17 Inv) μ Q)) : loopK (exK Try.prog E_spec_l06Code (cl (cl (cr (cl (cl (cr (cl (cl (cr (cl (cr (cr (bodyC Try.f74)))))))))))))) [.slice list_a list_n list_e, .int .i64 plane, undef, undef, .pointer (some ⟨b1, 0, none⟩), .pointer (some ⟨b3, 0, none⟩), .int .i64 k, .int .i64 i, g8, .slice list_a list_n list_e, .int .i64 (list_n : Int), .slice list_a list_n list_e, .int .i64 r1, .slice (some ⟨b2, 0, none⟩) 0 1, .agg #[.int .i64 (list_n : Int), .int .i64 r1, .slice (some ⟨b2, 0, none⟩) 0 1], .pointer (some ⟨b3, 1, none⟩), .int .i64 x1, .int .i64 z1_17, .int .i64 k, .int .i64 plane, .bool (decide ((plane : Int) ≤ k)), g21, g22, g23, g24, g25, g26, g27, g28, g29, g30, g31, g32, g33, g34, g35, g36, g37, g38, g39, g40, g41, g42, g43, g44, g45, g46, g47, g48, g49, g50, g51, g52, g53, g54, g55, g56, g57, g58, g59, g60, g61, g62, g63, undef] H Q :=
  ⟨spec_l06Code_I2 b1 b2 b3 g21 g22 k list_a list_e list_n plane r1 x1 z1_17 Inv, ν, ⟨i, g8, g23, g24, g25, g26, g27, g28, g29, g30, g31, g32, g33, g34, g35, g36, g37, g38, g39, g40, g41, g42, g43, g44, g45, g46, g47, g48, g49, g50, g51, g52, g53, g54, g55, g56, g57, g58, g59, g60, g61, g62, g63, rfl, h0⟩, fun μ tm H h => by obtain ⟨i, g8, g23, g24, g25, g26, g27, g28, g29, g30, g31, g32, g33, g34, g35, g36, g37, g38, g39, g40, g41, g42, g43, g44, g45, g46, g47, g48, g49, g50, g51, g52, g53, g54, g55, g56, g57, g58, g59, g60, g61, g62, g63, rfl, hI⟩ := h; exact hs μ i g8 g23 g24 g25 g26 g27 g28 g29 g30 g31 g32 g33 g34 g35 g36 g37 g38 g39 g40 g41 g42 g43 g44 g45 g46 g47 g48 g49 g50 g51 g52 g53 g54 g55 g56 g57 g58 g59 g60 g61 g62 g63 H hI⟩
theorem spec_l06Code_n2 {b1 : Nat} {b2 : Nat} {b3 : Nat} {g21 : Value} {g22 : Value} {k : Int} {list_a : Option Addr} {list_e : Nat} {list_n : Nat} {plane : Int} {r1 : Int} {x1 : Int} {z1_17 : Int} {Q : Post} {Inv : Nat → Int → AHeap → Prop} {μ : Nat} (μ' : Nat) {i : Int} {g8 g23 g24 g25 g26 g27 g28 g29 g30 g31 g32 g33 g34 g35 g36 g37 g38 g39 g40 g41 g42 g43 g44 g45 g46 g47 g48 g49 g50 g51 g52 g53 g54 g55 g56 g57 g58 g59 g60 g61 g62 g63 : Value} {H : AHeap} (hm : μ' < μ) (hI : Inv μ' i H) : loopQ (spec_l06Code_I2 b1 b2 b3 g21 g22 k list_a list_e list_n plane r1 x1 z1_17 Inv) μ Q .normal [.slice list_a list_n list_e, .int .i64 plane, undef, undef, .pointer (some ⟨b1, 0, none⟩), .pointer (some ⟨b3, 0, none⟩), .int .i64 k, .int .i64 i, g8, .slice list_a list_n list_e, .int .i64 (list_n : Int), .slice list_a list_n list_e, .int .i64 r1, .slice (some ⟨b2, 0, none⟩) 0 1, .agg #[.int .i64 (list_n : Int), .int .i64 r1, .slice (some ⟨b2, 0, none⟩) 0 1], .pointer (some ⟨b3, 1, none⟩), .int .i64 x1, .int .i64 z1_17, .int .i64 k, .int .i64 plane, .bool (decide ((plane : Int) ≤ k)), g21, g22, g23, g24, g25, g26, g27, g28, g29, g30, g31, g32, g33, g34, g35, g36, g37, g38, g39, g40, g41, g42, g43, g44, g45, g46, g47, g48, g49, g50, g51, g52, g53, g54, g55, g56, g57, g58, g59, g60, g61, g62, g63, undef] H := ⟨μ', hm, i, g8, g23, g24, g25, g26, g27, g28, g29, g30, g31, g32, g33, g34, g35, g36, g37, g38, g39, g40, g41, g42, g43, g44, g45, g46, g47, g48, g49, g50, g51, g52, g53, g54, g55, g56, g57, g58, g59, g60, g61, g62, g63, rfl, hI⟩
theorem spec_l06Code_x2_2 (b1 : Nat) (b2 : Nat) (b3 : Nat) (g21 : Value) (g22 : Value) (k : Int) (list_a : Option Addr) (list_e : Nat) (list_n : Nat) (plane : Int) (r1 : Int) (x1 : Int) (z1_17 : Int) (i : Int) (g8 g23 g24 g25 g26 g27 g28 g29 g30 g31 g32 g33 g34 g35 g36 g37 g38 g39 g40 g41 g42 g43 g44 g45 g46 g47 g48 g49 g50 g51 g52 g53 g54 g55 g56 g57 g58 g59 g60 g61 g62 g63 : Value) (H : AHeap)  (R : Post) {I : Nat → List Value → AHeap → Prop} {μ : Nat} : loopQ I μ (blockQ 2 (blockQ 1 (seqQ (exK Try.prog E_spec_l06Code (cr (cr (cl (cl (cr (cl (cr (cr (bodyC Try.f74)))))))))) (R)))) (.exit 2) [.slice list_a list_n list_e, .int .i64 plane, undef, undef, .pointer (some ⟨b1, 0, none⟩), .pointer (some ⟨b3, 0, none⟩), .int .i64 k, .int .i64 i, g8, .slice list_a list_n list_e, .int .i64 (list_n : Int), .slice list_a list_n list_e, .int .i64 r1, .slice (some ⟨b2, 0, none⟩) 0 1, .agg #[.int .i64 (list_n : Int), .int .i64 r1, .slice (some ⟨b2, 0, none⟩) 0 1], .pointer (some ⟨b3, 1, none⟩), .int .i64 x1, .int .i64 z1_17, .int .i64 k, .int .i64 plane, .bool (decide ((plane : Int) ≤ k)), g21, g22, g23, g24, g25, g26, g27, g28, g29, g30, g31, g32, g33, g34, g35, g36, g37, g38, g39, g40, g41, g42, g43, g44, g45, g46, g47, g48, g49, g50, g51, g52, g53, g54, g55, g56, g57, g58, g59, g60, g61, g62, g63, undef] H =
  (R .normal [.slice list_a list_n list_e, .int .i64 plane, undef, undef, .pointer (some ⟨b1, 0, none⟩), .pointer (some ⟨b3, 0, none⟩), .int .i64 (IntKind.wrap .i64 (k - 1)), .int .i64 i, g8, .slice list_a list_n list_e, .int .i64 (list_n : Int), .slice list_a list_n list_e, .int .i64 r1, .slice (some ⟨b2, 0, none⟩) 0 1, .agg #[.int .i64 (list_n : Int), .int .i64 r1, .slice (some ⟨b2, 0, none⟩) 0 1], .pointer (some ⟨b3, 1, none⟩), .int .i64 x1, .int .i64 z1_17, .int .i64 k, .int .i64 plane, .bool (decide ((plane : Int) ≤ k)), .int .i64 k, .int .i64 (IntKind.wrap .i64 (k - 1)), g23, g24, g25, g26, g27, g28, g29, g30, g31, g32, g33, g34, g35, g36, g37, g38, g39, g40, g41, g42, g43, g44, g45, g46, g47, g48, g49, g50, g51, g52, g53, g54, g55, g56, g57, g58, g59, g60, g61, g62, g63, undef] H) := by kernel_rfl
theorem E_spec_l06Code_ok : ∀ g, FnOk Try.prog g (E_spec_l06Code g) := FnOk.envOf (by
  intro x hx
  simp only [List.mem_cons, List.not_mem_nil, or_false] at hx
  rcases hx with rfl | rfl | rfl
  · exact spec_l06Planes_ok
  · exact spec_l06Digit_ok
  · exact spec_l06Abs_ok)
set_option maxHeartbeats 1000000 in
theorem spec_l06Code_main (list_a : Option Addr) (list_n : Nat) (list_e : Nat) (plane : Int) (H : AHeap) (K : Value → AHeap → Prop) (h : T_spec_l06Code list_a list_n list_e plane H fun (r1_Count : Int) (r1_Top : Int) (r1_Bits_a : Option Addr) (r1_Bits_n : Nat) (r1_Bits_e : Nat) (H' : AHeap) => K (.agg #[.int .i64 r1_Count, .int .i64 r1_Top, .slice r1_Bits_a r1_Bits_n r1_Bits_e]) H') : bodyK Try.prog E_spec_l06Code Try.f74 [.slice list_a list_n list_e, .int .i64 plane] H K := by
  rw [spec_l06Code_vc]
  obtain ⟨l_list, i_list, bd_200, pr0, pr1, pr2, hk⟩ := h
  obtain rfl := i_list.eqn
  have e : (p_spec_l06Code l_list plane) = _ := rfl
  have e := e.trans (p_spec_l06Code_eq l_list plane)
  have g0 := Grow.refl H
  refine Al.intro (fun b_1 H_1 hb_2 hl_3 g_4 o_5 => ?_)
  have l_7 := g_4.1
  have g_8 := g0.trans g_4
  have l_9 := g_8.1
  have w_199 := o_5.lt
  refine T_spec_l06Planes_i ⟨_, (i_list.grow g_8), (by first | omega | (simp only [List.length_set, List.length_replicate, List.length_append, List.length_cons, List.length_nil, List.length_take, List.length_drop, marks_length]; done) | (simp only [List.length_set, List.length_replicate, List.length_append, List.length_cons, List.length_nil, List.length_take, List.length_drop, marks_length]; omega)), (by first | assumption | omega | (simp; omega)), ?_⟩
  have z_10 := spec_l06Planes_rng l_list
  refine Al.intro (fun b_11 H_2 hb_12 hl_13 g_14 o_15 => ?_)
  have o_15 : Own H_2 b_11 ((([] : List Bool)).map fB) := o_15
  have l_17 := g_14.1
  have g_18 := g_8.trans g_14
  have l_19 := g_18.1
  have o_20 := o_5.grow g_14
  have w_21 := o_20.lt
  have w_198 := o_15.lt
  refine Al.intro (fun b_22 H_3 hb_23 hl_24 g_25 o_26 => ?_)
  have l_28 := g_25.1
  have g_29 := g_18.trans g_25
  have l_30 := g_29.1
  have o_31 := o_20.grow g_25
  have w_32 := o_31.lt
  have o_33 := o_15.grow g_25
  have w_34 := o_33.lt
  have w_197 := o_26.lt
  refine Lt.setN (n := 3) o_26 (Nat.le_of_ble_eq_true rfl) rfl (fun H_4 hl_35 o_37 k_36 => ?_)
  have o_37 : Own H_4 b_22 [.int .i64 (l_list.length : Int), .int .i64 (p_spec_l06Planes l_list), .slice (some ⟨b_11, 0, none⟩) 0 1] := o_37
  have l_38 := k_36.1
  have g_39 := g_29.keep (b := b_22) (by omega) k_36
  have l_40 := g_39.1
  have o_41 := o_31.keep (by omega) k_36
  have w_42 := o_41.lt
  have o_43 := o_33.keep (by omega) k_36
  have w_44 := o_43.lt
  have w_196 := o_37.lt
  refine ⟨(p_spec_l06Planes l_list), (o_37.rdC _).trans rfl, ?_⟩
  rw [show IntKind.wrap .i64 ((p_spec_l06Planes l_list) - 1) = ((p_spec_l06Planes l_list) - 1) from wrap64 (by omega) (by omega)]
  refine spec_l06Code_L1 _ _ _ _ _ _ _ _ _ _ (fun (μ : Nat) (k : Int) (H_5 : AHeap) => ∃ (q1_1 : Int), ∃ (q1_2 : Int), ∃ (q1_4 : Int), ∃ (q1_5 : Int), ∃ (q1_6 : List Bool), ∃ (b_47 : Nat), Own H_5 b_1 [.int .i64 q1_1, .int .i64 q1_2, .slice none 0 0] ∧ Own H_5 b_47 (q1_6.map fB) ∧ Own H_5 b_22 [.int .i64 q1_4, .int .i64 q1_5, .slice (some ⟨b_47, 0, none⟩) q1_6.length 1] ∧ (b_22 ≠ b_1) ∧ (b_47 ≠ b_1) ∧ (b_47 ≠ b_22) ∧ Grow H H_5 ∧ H.length ≤ b_47 ∧ k ≤ 63 ∧ (q1_6.length : Int) ≤ 256 * (63 - k) ∧ k - plane + 1 ≤ (μ : Int) ∧ p_spec_l06Code l_list plane = p_spec_l06Code_l1 l_list plane (μ + 1) k q1_1 q1_2 q1_4 q1_5 q1_6) (Int.toNat (((((p_spec_l06Planes l_list) - 1))) - plane + 1)) _ _ _ _ _ _ _ _ _ _ _ _ _ _ _ _ _ _ _ _ _ _ _ _ _ _ _ _ _ _ _ _ _ _ _ _ _ _ _ _ _ _ _ _ _ _ _ _ _ H_4 ?_ ?_
  · exact ⟨_, _, _, _, _, _, (by first | exact o_41 | (simp only [List.length_append, List.length_cons, List.length_nil, Nat.zero_add]; exact o_41)), o_43, (by first | exact o_37 | (simp only [List.length_append, List.length_cons, List.length_nil, Nat.zero_add]; exact o_37)), (by omega), (by omega), (by omega), g_39, (by omega), (by first | omega | (simp; done) | (simp; omega)), (by first | omega | (simp; done) | (simp; omega)), (by omega), e⟩
  · intro μ k g7 g8 g18 g19 g20 g21 g22 g23 g24 g25 g26 g27 g28 g29 g30 g31 g32 g33 g34 g35 g36 g37 g38 g39 g40 g41 g42 g43 g44 g45 g46 g47 g48 g49 g50 g51 g52 g53 g54 g55 g56 g57 g58 g59 g60 g61 g62 g63 H_5 hI
    obtain ⟨q1_1, q1_2, q1_4, q1_5, q1_6, b_47, o_45, o_48, o_46, n_49, n_50, n_51, g_52, l_53, v_54, v_55, hμ, e⟩ := hI
    rw [spec_l06Code_r1]
    have e := e.trans (p_spec_l06Code_l1_s l_list plane μ k q1_1 q1_2 q1_4 q1_5 q1_6)
    have w_56 := o_45.lt
    have w_57 := o_46.lt
    have w_58 := o_48.lt
    have l_59 := g_52.1
    refine Br.intro (fun c_60 => ?_) (fun c_60 => ?_)
    · have e := e.trans (cond_t c_60)
      have c_60' := of_decide_eq_true c_60
      refine spec_l06Code_L2 _ _ _ _ _ _ _ _ _ _ _ _ _ (fun (μ2 : Nat) (i : Int) (H_6 : AHeap) => ∃ (q2_1 : Int), ∃ (q2_2 : Int), ∃ (q2_3 : List Bool), ∃ (b_63 : Nat), Own H_6 b_1 ([.int .i64 q1_1, .int .i64 q1_2, .slice none 0 0]) ∧ Own H_6 b_63 (q2_3.map fB) ∧ Own H_6 b_22 [.int .i64 q2_1, .int .i64 q2_2, .slice (some ⟨b_63, 0, none⟩) q2_3.length 1] ∧ (b_22 ≠ b_1) ∧ (b_63 ≠ b_1) ∧ (b_63 ≠ b_22) ∧ Grow H H_6 ∧ H.length ≤ b_63 ∧ (0 : Int) ≤ i ∧ i ≤ (l_list.length : Int) ∧ (q2_3.length : Int) ≤ 256 * (63 - k) + 2 * i ∧ (l_list.length : Int) - i ≤ (μ2 : Int) ∧ p_spec_l06Code l_list plane = p_spec_l06Code_l2 l_list plane k q1_1 q1_2 q1_4 q1_5 q1_6 (fun (i : Int) (q2_1 : Int) (q2_2 : Int) (q2_3 : List Bool) => (p_spec_l06Code_l1 l_list plane μ (k - 1) q1_1 q1_2 q2_1 q2_2 q2_3)) (μ2 + 1) i q2_1 q2_2 q2_3) (Int.toNat ((l_list.length : Int) - (0 : Int))) _ _ _ _ _ _ _ _ _ _ _ _ _ _ _ _ _ _ _ _ _ _ _ _ _ _ _ _ _ _ _ _ _ _ _ _ _ _ _ _ _ _ _ H_5 ?_ ?_
      · exact ⟨_, _, _, _, o_45, o_48, (by first | exact o_46 | (simp only [List.length_append, List.length_cons, List.length_nil, Nat.zero_add]; exact o_46)), (by omega), (by omega), (by omega), g_52, (by omega), (by first | omega | (simp; done) | (simp; omega)), (by first | omega | (simp; done) | (simp; omega)), (by first | omega | (simp; done) | (simp; omega)), (by omega), e⟩
      · intro μ2 i g8 g23 g24 g25 g26 g27 g28 g29 g30 g31 g32 g33 g34 g35 g36 g37 g38 g39 g40 g41 g42 g43 g44 g45 g46 g47 g48 g49 g50 g51 g52 g53 g54 g55 g56 g57 g58 g59 g60 g61 g62 g63 H_6 hI
        obtain ⟨q2_1, q2_2, q2_3, b_63, o_61, o_64, o_62, n_65, n_66, n_67, g_68, l_69, v_70, v_71, v_72, hμ, e⟩ := hI
        rw [spec_l06Code_r2]
        have e := e.trans (p_spec_l06Code_l2_s l_list plane k q1_1 q1_2 q1_4 q1_5 q1_6 (fun (i : Int) (q2_1 : Int) (q2_2 : Int) (q2_3 : List Bool) => (p_spec_l06Code_l1 l_list plane μ (k - 1) q1_1 q1_2 q2_1 q2_2 q2_3)) μ2 i q2_1 q2_2 q2_3)
        have w_73 := o_61.lt
        have w_74 := o_62.lt
        have w_75 := o_64.lt
        have l_76 := g_68.1
        refine Br.intro (fun c_77 => ?_) (fun c_77 => ?_)
        · have e := e.trans (cond_t c_77)
          have c_77' := of_decide_eq_true c_77
          obtain ⟨b_78, f_79, q_80⟩ := ((i_list.grow g_68)).pos (by first | omega | (simp only [List.length_set, List.length_replicate, List.length_append, List.length_cons, List.length_nil, List.length_take, List.length_drop, marks_length]; done) | (simp only [List.length_set, List.length_replicate, List.length_append, List.length_cons, List.length_nil, List.length_take, List.length_drop, marks_length]; omega))
          refine ⟨by omega, by omega, b_78, f_79, q_80, ?_⟩
          refine ⟨((l_list).getD (i : Int).toNat 0), (i_list).rd g_68 q_80 (by omega) _, ?_⟩
          refine T_spec_l06Digit_i ?_
          refine ⟨some ⟨b_63, 0, none⟩, q2_3.length, 1, (o_62.rdC _).trans rfl, ?_⟩
          refine Al.intro (fun b_81 H_7 hb_82 hl_83 g_84 o_85 => ?_)
          have o_85 : Own H_7 b_81 (([((p_spec_l06Digit (((l_list).getD (i : Int).toNat 0)) k))]).map fB) := o_85
          have l_87 := g_84.1
          have g_88 := g_68.trans g_84
          have l_89 := g_88.1
          have o_90 := o_61.grow g_84
          have w_91 := o_90.lt
          have o_92 := o_62.grow g_84
          have w_93 := o_92.lt
          have o_94 := o_64.grow g_84
          have w_95 := o_94.lt
          have w_184 := o_85.lt
          refine ⟨_, _, o_94.ownB (by first | (simp only [List.length_map, List.length_cons, List.length_nil, List.length_append]; done) | (simp only [List.length_map, List.length_cons, List.length_nil, List.length_append]; omega)) rfl, (isl_rdS (o_85.isL (by first | rfl | omega | (simp only [List.length_set]; done) | (simp only [List.length_set, List.length_replicate]; omega)))), (fun h => by cases h), (by have := most_eq; omega), ?_⟩
          refine Ap.app o_94 rfl rfl (fun b_100 H_8 q_182 hl_96 o_97 k_98 => ?_)
          have o_97 := map_snoc o_97
          have l_101 := k_98.1
          have g_102 := g_88.keep (b := b_63) (by omega) k_98
          have l_103 := g_102.1
          have o_104 := o_90.keep (by omega) k_98
          have w_105 := o_104.lt
          have o_106 := o_92.keep (by omega) k_98
          have w_107 := o_106.lt
          have o_108 := o_85.keep (by omega) k_98
          have w_109 := o_108.lt
          have w_183 := o_97.lt
          refine Lt.set o_106 (Nat.le_of_ble_eq_true rfl) (fun H_9 hl_110 o_112 k_111 => ?_)
          have o_112 : Own H_9 b_22 [.int .i64 q2_1, .int .i64 q2_2, .slice (some ⟨b_100, 0, none⟩) (q2_3.length + 1) 1] := o_112
          have l_113 := k_111.1
          have g_114 := g_102.keep (b := b_22) (by omega) k_111
          have l_115 := g_114.1
          have o_116 := o_104.keep (by omega) k_111
          have w_117 := o_116.lt
          have o_118 := o_108.keep (by omega) k_111
          have w_119 := o_118.lt
          have o_120 := o_97.keep (by omega) k_111
          have w_121 := o_120.lt
          have w_181 := o_112.lt
          refine Br.intro (fun c_122 => ?_) (fun c_122 => ?_)
          · have e := e.trans (cond_t c_122)
            obtain ⟨b_123, f_124, q_125⟩ := ((i_list.grow g_114)).pos (by first | omega | (simp only [List.length_set, List.length_replicate, List.length_append, List.length_cons, List.length_nil, List.length_take, List.length_drop, marks_length]; done) | (simp only [List.length_set, List.length_replicate, List.length_append, List.length_cons, List.length_nil, List.length_take, List.length_drop, marks_length]; omega))
            refine ⟨by omega, by omega, b_123, f_124, q_125, ?_⟩
            refine ⟨((l_list).getD (i : Int).toNat 0), (i_list).rd g_114 q_125 (by omega) _, ?_⟩
            refine T_spec_l06Abs_i ?_
            rw [show IntKind.wrap .i64 (k + 1) = (k + 1) from wrap64 (by omega) (by omega)]
            refine ⟨(wrapu_nonneg _), ?_⟩
            refine Br.intro (fun c_126 => ?_) (fun c_126 => ?_)
            · have e := e.trans (cond_t c_126)
              have c_126' := ieq_t c_126
              refine ⟨some ⟨b_100, 0, none⟩, q2_3.length + 1, 1, (o_112.rdC _).trans rfl, ?_⟩
              obtain ⟨b_127, f_128, q_129⟩ := ((i_list.grow g_114)).pos (by first | omega | (simp only [List.length_set, List.length_replicate, List.length_append, List.length_cons, List.length_nil, List.length_take, List.length_drop, marks_length]; done) | (simp only [List.length_set, List.length_replicate, List.length_append, List.length_cons, List.length_nil, List.length_take, List.length_drop, marks_length]; omega))
              refine ⟨by omega, by omega, b_127, f_128, q_129, ?_⟩
              refine ⟨((l_list).getD (i : Int).toNat 0), (i_list).rd g_114 q_129 (by omega) _, ?_⟩
              refine Al.intro (fun b_130 H_10 hb_131 hl_132 g_133 o_134 => ?_)
              have o_134 : Own H_10 b_130 (([(decide ((((l_list).getD (i : Int).toNat 0) : Int) < 0))]).map fB) := o_134
              have l_136 := g_133.1
              have g_137 := g_114.trans g_133
              have l_138 := g_137.1
              have o_139 := o_116.grow g_133
              have w_140 := o_139.lt
              have o_141 := o_112.grow g_133
              have w_142 := o_141.lt
              have o_143 := o_118.grow g_133
              have w_144 := o_143.lt
              have o_145 := o_120.grow g_133
              have w_146 := o_145.lt
              have w_180 := o_134.lt
              refine ⟨_, _, o_145.ownB (by first | (simp only [List.length_map, List.length_cons, List.length_nil, List.length_append]; done) | (simp only [List.length_map, List.length_cons, List.length_nil, List.length_append]; omega)) rfl, (isl_rdS (o_134.isL (by first | rfl | omega | (simp only [List.length_set]; done) | (simp only [List.length_set, List.length_replicate]; omega)))), (fun h => by cases h), (by have := most_eq; omega), ?_⟩
              refine Ap.app o_145 rfl rfl (fun b_151 H_11 q_178 hl_147 o_148 k_149 => ?_)
              have o_148 := map_snoc o_148
              have l_152 := k_149.1
              have g_153 := g_137.keep (b := b_100) (by omega) k_149
              have l_154 := g_153.1
              have o_155 := o_139.keep (by omega) k_149
              have w_156 := o_155.lt
              have o_157 := o_141.keep (by omega) k_149
              have w_158 := o_157.lt
              have o_159 := o_143.keep (by omega) k_149
              have w_160 := o_159.lt
              have o_161 := o_134.keep (by omega) k_149
              have w_162 := o_161.lt
              have w_179 := o_148.lt
              refine Lt.set o_157 (Nat.le_of_ble_eq_true rfl) (fun H_12 hl_163 o_165 k_164 => ?_)
              have o_165 : Own H_12 b_22 [.int .i64 q2_1, .int .i64 q2_2, .slice (some ⟨b_151, 0, none⟩) ((q2_3.length + 1) + 1) 1] := o_165
              have l_166 := k_164.1
              have g_167 := g_153.keep (b := b_22) (by omega) k_164
              have l_168 := g_167.1
              have o_169 := o_155.keep (by omega) k_164
              have w_170 := o_169.lt
              have o_171 := o_159.keep (by omega) k_164
              have w_172 := o_171.lt
              have o_173 := o_161.keep (by omega) k_164
              have w_174 := o_173.lt
              have o_175 := o_148.keep (by omega) k_164
              have w_176 := o_175.lt
              have w_177 := o_165.lt
              rw [show IntKind.wrap .i64 (i + 1) = (i + 1) from wrap64 (by omega) (by omega)]
              refine spec_l06Code_n2 (μ2 - 1) (by first | omega) ⟨_, _, _, _, o_169, o_175, (by first | exact o_165 | (simp only [List.length_append, List.length_cons, List.length_nil, Nat.zero_add]; exact o_165)), (by omega), (by omega), (by omega), g_167, (by omega), (by first | omega | (simp only [List.length_append, List.length_cons, List.length_nil, List.length_set]; done) | (simp only [List.length_append, List.length_cons, List.length_nil, List.length_set]; omega)), (by first | omega | (simp only [List.length_append, List.length_cons, List.length_nil, List.length_set]; done) | (simp only [List.length_append, List.length_cons, List.length_nil, List.length_set]; omega)), (by first | omega | (simp only [List.length_append, List.length_cons, List.length_nil, List.length_set]; done) | (simp only [List.length_append, List.length_cons, List.length_nil, List.length_set]; omega)), (by first | omega), (by rw [show μ2 - 1 + 1 = μ2 from by first | omega]; exact e)⟩
            · have e := e.trans (cond_f c_126)
              have c_126' := ieq_f c_126
              rw [show IntKind.wrap .i64 (i + 1) = (i + 1) from wrap64 (by omega) (by omega)]
              refine spec_l06Code_n2 (μ2 - 1) (by first | omega) ⟨_, _, _, _, o_116, o_120, (by first | exact o_112 | (simp only [List.length_append, List.length_cons, List.length_nil, Nat.zero_add]; exact o_112)), (by omega), (by omega), (by omega), g_114, (by omega), (by first | omega | (simp only [List.length_append, List.length_cons, List.length_nil, List.length_set]; done) | (simp only [List.length_append, List.length_cons, List.length_nil, List.length_set]; omega)), (by first | omega | (simp only [List.length_append, List.length_cons, List.length_nil, List.length_set]; done) | (simp only [List.length_append, List.length_cons, List.length_nil, List.length_set]; omega)), (by first | omega | (simp only [List.length_append, List.length_cons, List.length_nil, List.length_set]; done) | (simp only [List.length_append, List.length_cons, List.length_nil, List.length_set]; omega)), (by first | omega), (by rw [show μ2 - 1 + 1 = μ2 from by first | omega]; exact e)⟩
          · have e := e.trans (cond_f c_122)
            rw [show IntKind.wrap .i64 (i + 1) = (i + 1) from wrap64 (by omega) (by omega)]
            refine spec_l06Code_n2 (μ2 - 1) (by first | omega) ⟨_, _, _, _, o_116, o_120, (by first | exact o_112 | (simp only [List.length_append, List.length_cons, List.length_nil, Nat.zero_add]; exact o_112)), (by omega), (by omega), (by omega), g_114, (by omega), (by first | omega | (simp only [List.length_append, List.length_cons, List.length_nil, List.length_set]; done) | (simp only [List.length_append, List.length_cons, List.length_nil, List.length_set]; omega)), (by first | omega | (simp only [List.length_append, List.length_cons, List.length_nil, List.length_set]; done) | (simp only [List.length_append, List.length_cons, List.length_nil, List.length_set]; omega)), (by first | omega | (simp only [List.length_append, List.length_cons, List.length_nil, List.length_set]; done) | (simp only [List.length_append, List.length_cons, List.length_nil, List.length_set]; omega)), (by first | omega), (by rw [show μ2 - 1 + 1 = μ2 from by first | omega]; exact e)⟩
        · have e := e.trans (cond_f c_77)
          have c_77' := of_decide_eq_false c_77
          rw [spec_l06Code_x2_2]
          rw [show IntKind.wrap .i64 (k - 1) = (k - 1) from wrap64 (by omega) (by omega)]
          refine spec_l06Code_n1 (μ - 1) (by first | omega) ⟨_, _, _, _, _, _, (by first | exact o_61 | (simp only [List.length_append, List.length_cons, List.length_nil, Nat.zero_add]; exact o_61)), o_64, (by first | exact o_62 | (simp only [List.length_append, List.length_cons, List.length_nil, Nat.zero_add]; exact o_62)), (by omega), (by omega), (by omega), g_68, (by omega), (by first | omega | (simp only [List.length_append, List.length_cons, List.length_nil, List.length_set]; done) | (simp only [List.length_append, List.length_cons, List.length_nil, List.length_set]; omega)), (by first | omega | (simp only [List.length_append, List.length_cons, List.length_nil, List.length_set]; done) | (simp only [List.length_append, List.length_cons, List.length_nil, List.length_set]; omega)), (by first | omega), (by rw [show μ - 1 + 1 = μ from by first | omega]; exact e)⟩
    · have e := e.trans (cond_f c_60)
      have c_60' := of_decide_eq_false c_60
      rw [spec_l06Code_x1_0]
      refine ⟨q1_4, q1_5, some ⟨b_47, 0, none⟩, q1_6.length, 1, (o_46.rdN (Nat.le_of_ble_eq_true rfl)).trans rfl, ?_⟩
      refine Lt.setN (n := 3) o_45 (Nat.le_of_ble_eq_true rfl) rfl (fun H_13 hl_185 o_187 k_186 => ?_)
      have o_187 : Own H_13 b_1 [.int .i64 q1_4, .int .i64 q1_5, .slice (some ⟨b_47, 0, none⟩) q1_6.length 1] := o_187
      have l_188 := k_186.1
      have g_189 := g_52.keep (b := b_1) (by omega) k_186
      have l_190 := g_189.1
      have o_191 := o_46.keep (by omega) k_186
      have w_192 := o_191.lt
      have o_193 := o_48.keep (by omega) k_186
      have w_194 := o_193.lt
      have w_195 := o_187.lt
      refine ⟨q1_4, q1_5, some ⟨b_47, 0, none⟩, q1_6.length, 1, (o_187.rdN (Nat.le_of_ble_eq_true rfl)).trans rfl, ?_⟩
      rw [e] at hk
      exact hk _ _ _ H_13 g_189 (o_193.ownS (by first | rfl | omega | (simp only [List.length_set]; done) | (simp only [List.length_set, List.length_replicate]; omega)) (by omega))
theorem spec_l06Code_ok : FnOk Try.prog 74 S_spec_l06Code := by
  refine FnOk.body mix_ok E_spec_l06Code_ok Try.func74 rfl (by kernel_rfl) (by kernel_rfl) ?_ ?_ ?_ ?_ ?_
  · intro args H K K' h hk
    simp only [S_spec_l06Code] at *
    unfold F_spec_l06Code at *
    split at hk
    · obtain ⟨l_list, i_list, bd_200, pr0, pr1, pr2, k⟩ := hk
      exact ⟨l_list, i_list, bd_200, pr0, pr1, pr2, (fun r1_Bits_a r1_Bits_n r1_Bits_e H' gg ow0 => h _ _ (k r1_Bits_a r1_Bits_n r1_Bits_e H' gg ow0))⟩
    · exact hk.elim
  · intro hq; cases hq
  · intro args H K hk
    simp only [S_spec_l06Code] at *
    unfold F_spec_l06Code at *
    split at hk
    · obtain ⟨l_list, i_list, bd_200, pr0, pr1, pr2, k⟩ := hk
      exact liveS fun a n e H1 g o => ⟨_, _, k a n e H1 g o⟩
    · exact hk.elim
  · intro _ args H K hk
    simp only [S_spec_l06Code] at *
    unfold F_spec_l06Code at *
    split at hk
    · obtain ⟨l_list, i_list, bd_200, pr0, pr1, pr2, k⟩ := hk
      exact ⟨l_list, i_list, bd_200, pr0, pr1, pr2, (fun r1_Bits_a r1_Bits_n r1_Bits_e H' gg ow0 => ⟨gg, k r1_Bits_a r1_Bits_n r1_Bits_e H' gg ow0⟩)⟩
    · exact hk.elim
  · have mm := @spec_l06Code_main
    revert mm
    generalize bodyK Try.prog E_spec_l06Code Try.f74 = Q
    intro mm args H K hk
    simp only [S_spec_l06Code] at *
    unfold F_spec_l06Code at *
    split at hk
    · exact mm _ _ _ _ H K hk
    · exact hk.elim
def p_spec_BitsUntil (l_list : List Int) (plane : Int) : Int × Bool := (bif !(p_spec_l02Integers l_list) then ((0 : Int), false) else (bif !(p_spec_l06Plane plane) then ((0 : Int), false) else ((((p_spec_l06Code l_list plane).2.2).length : Int), true)))
theorem p_spec_BitsUntil_eq (l_list : List Int) (plane : Int) : p_spec_BitsUntil l_list plane = (bif !(p_spec_l02Integers l_list) then ((0 : Int), false) else (bif !(p_spec_l06Plane plane) then ((0 : Int), false) else ((((p_spec_l06Code l_list plane).2.2).length : Int), true))) := rfl
def T_spec_BitsUntil (list_a : Option Addr) (list_n : Nat) (list_e : Nat) (plane : Int) (H : AHeap) (K : Int → Bool → AHeap → Prop) : Prop := ∃ (l_list : List Int), IsL fI H list_a list_n l_list ∧ l_list.length < 1073741824 ∧ ((∀ H' : AHeap, Grow H H' → K ((p_spec_BitsUntil l_list plane).1) ((p_spec_BitsUntil l_list plane).2) H'))
theorem T_spec_BitsUntil_i {list_a : Option Addr} {list_n : Nat} {list_e : Nat} {plane : Int} {H : AHeap} {K : Int → Bool → AHeap → Prop} (h : ∃ (l_list : List Int), IsL fI H list_a list_n l_list ∧ l_list.length < 1073741824 ∧ ((∀ H' : AHeap, Grow H H' → K ((p_spec_BitsUntil l_list plane).1) ((p_spec_BitsUntil l_list plane).2) H'))) : T_spec_BitsUntil list_a list_n list_e plane H K := h

/-! spec_BitsUntil: function 49 -/
def E_spec_BitsUntil : Env := envOf [(68, S_spec_l02Integers), (73, S_spec_l06Plane), (74, S_spec_l06Code)]
def F_spec_BitsUntil : List Value → AHeap → (Value → AHeap → Prop) → Prop
  | [.slice list_a list_n list_e, .int .i64 plane], H, K => T_spec_BitsUntil list_a list_n list_e plane H fun (r1 : Int) (r2 : Bool) (H' : AHeap) => K (.tuple #[.int .i64 r1, .bool r2]) H'
  | _, _, _ => False
def S_spec_BitsUntil : FSpec := { F := F_spec_BitsUntil, quiet := false, tame := true }
theorem spec_BitsUntil_vc (list_a : Option Addr) (list_n : Nat) (list_e : Nat) (plane : Int) (H : AHeap) (K : Value → AHeap → Prop) : bodyK Try.prog E_spec_BitsUntil Try.f49 [.slice list_a list_n list_e, .int .i64 plane] H K =
  (T_spec_l02Integers list_a list_n list_e H fun (r1 : Bool) (H1 : AHeap) => Br (!r1) (K (.tuple #[.int .i64 0, .bool false]) H1) (T_spec_l06Plane plane H1 fun (r2 : Bool) (H2 : AHeap) => Br (!r2) (K (.tuple #[.int .i64 0, .bool false]) H2) (T_spec_l06Code list_a list_n list_e plane H2 fun (r3 : Int) (r4 : Int) (a1 : Option Addr) (r5 : Nat) (r6 : Nat) (H3 : AHeap) => K (.tuple #[.int .i64 (r5 : Int), .bool true]) H3))) := by kernel_rfl
theorem E_spec_BitsUntil_ok : ∀ g, FnOk Try.prog g (E_spec_BitsUntil g) := FnOk.envOf (by
  intro x hx
  simp only [List.mem_cons, List.not_mem_nil, or_false] at hx
  rcases hx with rfl | rfl | rfl
  · exact spec_l02Integers_ok
  · exact spec_l06Plane_ok
  · exact spec_l06Code_ok)
set_option maxHeartbeats 1000000 in
theorem spec_BitsUntil_main (list_a : Option Addr) (list_n : Nat) (list_e : Nat) (plane : Int) (H : AHeap) (K : Value → AHeap → Prop) (h : T_spec_BitsUntil list_a list_n list_e plane H fun (r1 : Int) (r2 : Bool) (H' : AHeap) => K (.tuple #[.int .i64 r1, .bool r2]) H') : bodyK Try.prog E_spec_BitsUntil Try.f49 [.slice list_a list_n list_e, .int .i64 plane] H K := by
  rw [spec_BitsUntil_vc]
  obtain ⟨l_list, i_list, bd_14, hk⟩ := h
  obtain rfl := i_list.eqn
  have e : (p_spec_BitsUntil l_list plane) = _ := rfl
  have e := e.trans (p_spec_BitsUntil_eq l_list plane)
  have g0 := Grow.refl H
  refine T_spec_l02Integers_i ⟨_, (i_list.grow g0), (by first | omega | (simp only [List.length_set, List.length_replicate, List.length_append, List.length_cons, List.length_nil, List.length_take, List.length_drop, marks_length]; done) | (simp only [List.length_set, List.length_replicate, List.length_append, List.length_cons, List.length_nil, List.length_take, List.length_drop, marks_length]; omega)), ?_⟩
  refine Br.intro (fun c_1 => ?_) (fun c_1 => ?_)
  · have e := e.trans (cond_t c_1)
    have c_1n := nf_of_t c_1
    rw [e] at hk
    exact hk  H g0 
  · have e := e.trans (cond_f c_1)
    have c_1n := nt_of_f c_1
    refine T_spec_l06Plane_i ?_
    refine Br.intro (fun c_2 => ?_) (fun c_2 => ?_)
    · have e := e.trans (cond_t c_2)
      have c_2n := nf_of_t c_2
      rw [e] at hk
      exact hk  H g0 
    · have e := e.trans (cond_f c_2)
      have c_2n := nt_of_f c_2
      have c_2n' := spec_l06Plane_t c_2n
      refine T_spec_l06Code_i ⟨_, (i_list.grow g0), (by first | omega | (simp only [List.length_set, List.length_replicate, List.length_append, List.length_cons, List.length_nil, List.length_take, List.length_drop, marks_length]; done) | (simp only [List.length_set, List.length_replicate, List.length_append, List.length_cons, List.length_nil, List.length_take, List.length_drop, marks_length]; omega)), (by first | assumption | omega | (simp; omega) | (first | exact (spec_int_t (by assumption)).2.2 | omega | (have := spec_int_t (by assumption); omega))), (by first | assumption | omega | (simp; omega) | (first | exact (spec_int_t (by assumption)).2.2 | omega | (have := spec_int_t (by assumption); omega))), (by first | assumption | omega | (simp; omega) | (first | exact (spec_int_t (by assumption)).2.2 | omega | (have := spec_int_t (by assumption); omega))), fun a_3 n_4 e_5 H_1 g_7 r_6 => ?_⟩
      have l_8 := g_7.1
      have g_9 := g0.trans g_7
      have l_10 := g_9.1
      obtain rfl := r_6.isL.eqn
      have u_11 := r_6.up
      have u_12 := r_6.lo
      rw [e] at hk
      exact hk  H_1 g_9 
theorem spec_BitsUntil_ok : FnOk Try.prog 49 S_spec_BitsUntil := by
  refine FnOk.body mix_ok E_spec_BitsUntil_ok Try.func49 rfl (by kernel_rfl) (by kernel_rfl) ?_ ?_ ?_ ?_ ?_
  · intro args H K K' h hk
    simp only [S_spec_BitsUntil] at *
    unfold F_spec_BitsUntil at *
    split at hk
    · obtain ⟨l_list, i_list, bd_14, k⟩ := hk
      exact ⟨l_list, i_list, bd_14, (fun  H' gg  => h _ _ (k  H' gg ))⟩
    · exact hk.elim
  · intro hq; cases hq
  · intro args H K hk
    simp only [S_spec_BitsUntil] at *
    unfold F_spec_BitsUntil at *
    split at hk
    · obtain ⟨l_list, i_list, bd_14, k⟩ := hk
      exact ⟨_, _, k H (Grow.refl H)⟩
    · exact hk.elim
  · intro _ args H K hk
    simp only [S_spec_BitsUntil] at *
    unfold F_spec_BitsUntil at *
    split at hk
    · obtain ⟨l_list, i_list, bd_14, k⟩ := hk
      exact ⟨l_list, i_list, bd_14, (fun  H' gg  => ⟨gg, k  H' gg ⟩)⟩
    · exact hk.elim
  · have mm := @spec_BitsUntil_main
    revert mm
    generalize bodyK Try.prog E_spec_BitsUntil Try.f49 = Q
    intro mm args H K hk
    simp only [S_spec_BitsUntil] at *
    unfold F_spec_BitsUntil at *
    split at hk
    · exact mm _ _ _ _ H K hk
    · exact hk.elim
def p_impl_within (n : Int) (low : Int) (high : Int) : Bool := (bif decide ((low : Int) ≤ n) then decide ((n : Int) ≤ high) else false)
theorem p_impl_within_eq (n : Int) (low : Int) (high : Int) : p_impl_within n low high = (bif decide ((low : Int) ≤ n) then decide ((n : Int) ≤ high) else false) := rfl
def T_impl_within (n : Int) (low : Int) (high : Int) (H : AHeap) (K : Bool → AHeap → Prop) : Prop := K (p_impl_within n low high) H
theorem impl_within_t {n a b : Int} (h : p_impl_within n a b = true) : a ≤ n ∧ n ≤ b := by
  unfold p_impl_within at h
  by_cases h1 : a ≤ n
  · rw [decide_eq_true h1, cond_true] at h; exact ⟨h1, of_decide_eq_true h⟩
  · rw [decide_eq_false h1] at h; cases h
theorem T_impl_within_i {n : Int} {low : Int} {high : Int} {H : AHeap} {K : Bool → AHeap → Prop} (h : K (p_impl_within n low high) H) : T_impl_within n low high H K := h
/-! impl_within: function 53 -/
def E_impl_within : Env := envOf []
def F_impl_within : List Value → AHeap → (Value → AHeap → Prop) → Prop
  | [.int .i64 n, .int .i64 low, .int .i64 high], H, K => T_impl_within n low high H fun (r1 : Bool) (H' : AHeap) => K (.bool r1) H'
  | _, _, _ => False
def S_impl_within : FSpec := { F := F_impl_within, quiet := true, tame := false }
theorem impl_within_vc (n : Int) (low : Int) (high : Int) (H : AHeap) (K : Value → AHeap → Prop) : bodyK Try.prog E_impl_within Try.f53 [.int .i64 n, .int .i64 low, .int .i64 high] H K =
  (Br (decide ((low : Int) ≤ n)) (K (.bool (decide ((n : Int) ≤ high))) H) (K (.bool false) H)) := by kernel_rfl
theorem E_impl_within_ok : ∀ g, FnOk Try.prog g (E_impl_within g) := FnOk.envOf (by
  intro x hx; cases hx)
set_option maxHeartbeats 1000000 in
theorem impl_within_main (n : Int) (low : Int) (high : Int) (H : AHeap) (K : Value → AHeap → Prop) (h : T_impl_within n low high H fun (r1 : Bool) (H' : AHeap) => K (.bool r1) H') : bodyK Try.prog E_impl_within Try.f53 [.int .i64 n, .int .i64 low, .int .i64 high] H K := by
  rw [impl_within_vc]
  unfold T_impl_within p_impl_within at h
  repeat' (first | exact h | (exfalso; simp_all; done) | (refine ⟨by decide, ?_⟩) | (refine Br.intro (fun hb => ?_) (fun hb => ?_) <;> (try simp only [hb, cond_true, cond_false, Bool.not_true, Bool.not_false] at h)))
theorem impl_within_ok : FnOk Try.prog 53 S_impl_within := by
  refine FnOk.body mix_ok E_impl_within_ok Try.func53 rfl (by kernel_rfl) (by kernel_rfl) ?_ ?_ ?_ ?_ ?_
  · intro args H K K' h hk
    simp only [S_impl_within] at *
    unfold F_impl_within at *
    split at hk
    · have k := hk
      exact h _ _ k
    · exact hk.elim
  · intro _ args H K hk
    simp only [S_impl_within] at *
    unfold F_impl_within at *
    split at hk
    · have k := hk
      exact ⟨_, k, fun K' k' => k'⟩
    · exact hk.elim
  · intro args H K hk
    simp only [S_impl_within] at *
    unfold F_impl_within at *
    split at hk
    · have k := hk
      exact ⟨_, _, k⟩
    · exact hk.elim
  · intro hq; cases hq
  · have mm := @impl_within_main
    revert mm
    generalize bodyK Try.prog E_impl_within Try.f53 = Q
    intro mm args H K hk
    simp only [S_impl_within] at *
    unfold F_impl_within at *
    split at hk
    · exact mm _ _ _ H K hk
    · exact hk.elim
def p_impl_areWithin_l1 (l_list : List Int) (vmost : Int) : Nat → Bool → Int → Bool
  | 0, _, _ => false
  | μ + 1, t4, t9 => (bif decide ((t9 : Int) < (l_list.length : Int)) then (bif !((p_impl_within (((l_list).getD (t9 : Int).toNat 0)) (IntKind.wrap .i64 (0 - vmost)) vmost)) then false else (p_impl_areWithin_l1 l_list vmost μ t4 (t9 + 1))) else true)
theorem p_impl_areWithin_l1_s (l_list : List Int) (vmost : Int) (μ : Nat) (t4 : Bool) (t9 : Int) : p_impl_areWithin_l1 l_list vmost (μ + 1) t4 t9 = (bif decide ((t9 : Int) < (l_list.length : Int)) then (bif !((p_impl_within (((l_list).getD (t9 : Int).toNat 0)) (IntKind.wrap .i64 (0 - vmost)) vmost)) then false else (p_impl_areWithin_l1 l_list vmost μ t4 (t9 + 1))) else true) := rfl
def p_impl_areWithin (l_list : List Int) (vmost : Int) : Bool := (p_impl_areWithin_l1 l_list vmost (Int.toNat ((l_list.length : Int) - (0 : Int)) + 1) false (0 : Int))
theorem p_impl_areWithin_eq (l_list : List Int) (vmost : Int) : p_impl_areWithin l_list vmost = (p_impl_areWithin_l1 l_list vmost (Int.toNat ((l_list.length : Int) - (0 : Int)) + 1) false (0 : Int)) := rfl
def T_impl_areWithin (list_a : Option Addr) (list_n : Nat) (list_e : Nat) (vmost : Int) (H : AHeap) (K : Bool → AHeap → Prop) : Prop := ∃ (l_list : List Int), IsL fI H list_a list_n l_list ∧ l_list.length < 1073741824 ∧ K (p_impl_areWithin l_list vmost) H
theorem T_impl_areWithin_i {list_a : Option Addr} {list_n : Nat} {list_e : Nat} {vmost : Int} {H : AHeap} {K : Bool → AHeap → Prop} (h : ∃ (l_list : List Int), IsL fI H list_a list_n l_list ∧ l_list.length < 1073741824 ∧ K (p_impl_areWithin l_list vmost) H) : T_impl_areWithin list_a list_n list_e vmost H K := h

/-! impl_areWithin: function 82 -/
def E_impl_areWithin : Env := envOf [(53, S_impl_within)]
def F_impl_areWithin : List Value → AHeap → (Value → AHeap → Prop) → Prop
  | [.slice list_a list_n list_e, .int .i64 vmost], H, K => T_impl_areWithin list_a list_n list_e vmost H fun (r1 : Bool) (H' : AHeap) => K (.bool r1) H'
  | _, _, _ => False
def S_impl_areWithin : FSpec := { F := F_impl_areWithin, quiet := true, tame := false }
theorem impl_areWithin_vc (list_a : Option Addr) (list_n : Nat) (list_e : Nat) (vmost : Int) (H : AHeap) (K : Value → AHeap → Prop) : bodyK Try.prog E_impl_areWithin Try.f82 [.slice list_a list_n list_e, .int .i64 vmost] H K =
  (loopK (exK Try.prog E_impl_areWithin (cl (cl (cr (cl (cr (bodyC Try.f82))))))) [.slice list_a list_n list_e, .int .i64 vmost, undef, undef, .bool false, undef, undef, .slice list_a list_n list_e, .int .i64 (list_n : Int), .int .i64 0, undef, undef, undef, undef, undef, undef, undef, undef, undef, undef] H (blockQ 0 (seqQ (exK Try.prog E_impl_areWithin (cr (cr (bodyC Try.f82)))) (retK Try.prog Try.f82 K)))) := by kernel_rfl
theorem impl_areWithin_r1 (list_a : Option Addr) (list_e : Nat) (list_n : Nat) (vmost : Int) (t4 : Bool) (t9 : Int) (g6 g10 g11 g12 g13 g14 g15 g16 g17 g18 g19 : Value) (H : AHeap) (R : Post) : exK Try.prog E_impl_areWithin (cl (cl (cr (cl (cr (bodyC Try.f82)))))) [.slice list_a list_n list_e, .int .i64 vmost, undef, undef, .bool t4, undef, g6, .slice list_a list_n list_e, .int .i64 (list_n : Int), .int .i64 t9, g10, g11, g12, g13, g14, g15, g16, g17, g18, g19] H R =
  (Br (decide ((t9 : Int) < (list_n : Int))) ((0 : Int) ≤ t9 ∧ t9 < (list_n : Int) ∧ ∃ b1 f1, (list_a : Option Addr) = some ⟨b1, f1, none⟩ ∧ ∃ x1 : Int,  rdC H b1 (f1 + (t9 : Int).toNat * 1) = some (.int .i64 x1) ∧ T_impl_within x1 (IntKind.wrap .i64 (0 - vmost)) vmost H fun (r1 : Bool) (H1 : AHeap) => Br (!r1) (R .ret [.slice list_a list_n list_e, .int .i64 vmost, undef, undef, .bool false, undef, .int .i64 x1, .slice list_a list_n list_e, .int .i64 (list_n : Int), .int .i64 t9, .bool (decide ((t9 : Int) < (list_n : Int))), .pointer (some ⟨b1, f1 + (t9 : Int).toNat * 1, none⟩), .int .i64 x1, .int .i64 x1, .int .i64 vmost, .int .i64 (IntKind.wrap .i64 (0 - vmost)), .int .i64 vmost, .bool r1, .bool (!r1), g19] H1) (R .normal [.slice list_a list_n list_e, .int .i64 vmost, undef, undef, .bool t4, undef, .int .i64 x1, .slice list_a list_n list_e, .int .i64 (list_n : Int), .int .i64 (IntKind.wrap .i64 (t9 + 1)), .bool (decide ((t9 : Int) < (list_n : Int))), .pointer (some ⟨b1, f1 + (t9 : Int).toNat * 1, none⟩), .int .i64 x1, .int .i64 x1, .int .i64 vmost, .int .i64 (IntKind.wrap .i64 (0 - vmost)), .int .i64 vmost, .bool r1, .bool (!r1), .int .i64 (IntKind.wrap .i64 (t9 + 1))] H1)) (R (.exit 0) [.slice list_a list_n list_e, .int .i64 vmost, undef, undef, .bool t4, undef, g6, .slice list_a list_n list_e, .int .i64 (list_n : Int), .int .i64 t9, .bool (decide ((t9 : Int) < (list_n : Int))), g11, g12, g13, g14, g15, g16, g17, g18, g19] H)) := by kernel_rfl
def impl_areWithin_I1 (list_a : Option Addr) (list_e : Nat) (list_n : Nat) (vmost : Int) (Inv : Nat → Bool → Int → AHeap → Prop) : Nat → List Value → AHeap → Prop := fun μ tm H => ∃ (t4 : Bool), ∃ (t9 : Int), ∃ g6 g10 g11 g12 g13 g14 g15 g16 g17 g18 g19, tm = [.slice list_a list_n list_e, .int .i64 vmost, undef, undef, .bool t4, undef, g6, .slice list_a list_n list_e, .int .i64 (list_n : Int), .int .i64 t9, g10, g11, g12, g13, g14, g15, g16, g17, g18, g19] ∧ Inv μ t4 t9 H
theorem impl_areWithin_L1 (list_a : Option Addr) (list_e : Nat) (list_n : Nat) (vmost : Int) {Q : Post} (Inv : Nat → Bool → Int → AHeap → Prop) (ν : Nat) (t4 : Bool) (t9 : Int) (g6 g10 g11 g12 g13 g14 g15 g16 g17 g18 g19 : Value) (H : AHeap) (h0 : Inv ν t4 t9 H)
    (hs : ∀ (μ : Nat) (t4 : Bool) (t9 : Int) (g6 g10 g11 g12 g13 g14 g15 g16 g17 g18 g19 : Value) (H : AHeap), Inv μ t4 t9 H → exK Try.prog E_impl_areWithin (cl (cl (cr (cl (cr (bodyC Try.f82)))))) [.slice list_a list_n list_e, .int .i64 vmost, undef, undef, .bool t4, undef, g6, .slice list_a list_n list_e, .int .i64 (list_n : Int), .int .i64 t9, g10, g11, g12, g13, g14, g15, g16, g17, g18, g19] H (loopQ (impl_areWithin_I1 list_a list_e list_n vmost Inv) μ Q)) : loopK (exK Try.prog E_impl_areWithin (cl (cl (cr (cl (cr (bodyC Try.f82))))))) [.slice list_a list_n list_e, .int .i64 vmost, undef, undef, .bool t4, undef, g6, .slice list_a list_n list_e, .int .i64 (list_n : Int), .int .i64 t9, g10, g11, g12, g13, g14, g15, g16, g17, g18, g19] H Q :=
  ⟨impl_areWithin_I1 list_a list_e list_n vmost Inv, ν, ⟨t4, t9, g6, g10, g11, g12, g13, g14, g15, g16, g17, g18, g19, rfl, h0⟩, fun μ tm H h => by obtain ⟨t4, t9, g6, g10, g11, g12, g13, g14, g15, g16, g17, g18, g19, rfl, hI⟩ := h; exact hs μ t4 t9 g6 g10 g11 g12 g13 g14 g15 g16 g17 g18 g19 H hI⟩
theorem impl_areWithin_n1 {list_a : Option Addr} {list_e : Nat} {list_n : Nat} {vmost : Int} {Q : Post} {Inv : Nat → Bool → Int → AHeap → Prop} {μ : Nat} (μ' : Nat) {t4 : Bool} {t9 : Int} {g6 g10 g11 g12 g13 g14 g15 g16 g17 g18 g19 : Value} {H : AHeap} (hm : μ' < μ) (hI : Inv μ' t4 t9 H) : loopQ (impl_areWithin_I1 list_a list_e list_n vmost Inv) μ Q .normal [.slice list_a list_n list_e, .int .i64 vmost, undef, undef, .bool t4, undef, g6, .slice list_a list_n list_e, .int .i64 (list_n : Int), .int .i64 t9, g10, g11, g12, g13, g14, g15, g16, g17, g18, g19] H := ⟨μ', hm, t4, t9, g6, g10, g11, g12, g13, g14, g15, g16, g17, g18, g19, rfl, hI⟩
theorem impl_areWithin_x1_0 (list_a : Option Addr) (list_e : Nat) (list_n : Nat) (vmost : Int) (t4 : Bool) (t9 : Int) (g6 g10 g11 g12 g13 g14 g15 g16 g17 g18 g19 : Value) (H : AHeap) (K : Value → AHeap → Prop)  {I : Nat → List Value → AHeap → Prop} {μ : Nat} : loopQ I μ (blockQ 0 (seqQ (exK Try.prog E_impl_areWithin (cr (cr (bodyC Try.f82)))) (retK Try.prog Try.f82 K))) (.exit 0) [.slice list_a list_n list_e, .int .i64 vmost, undef, undef, .bool t4, undef, g6, .slice list_a list_n list_e, .int .i64 (list_n : Int), .int .i64 t9, g10, g11, g12, g13, g14, g15, g16, g17, g18, g19] H =
  (K (.bool true) H) := by kernel_rfl
theorem impl_areWithin_x1_ret (list_a : Option Addr) (list_e : Nat) (list_n : Nat) (vmost : Int) (t4 : Bool) (t9 : Int) (g6 g10 g11 g12 g13 g14 g15 g16 g17 g18 g19 : Value) (H : AHeap) (K : Value → AHeap → Prop)  {I : Nat → List Value → AHeap → Prop} {μ : Nat} : loopQ I μ (blockQ 0 (seqQ (exK Try.prog E_impl_areWithin (cr (cr (bodyC Try.f82)))) (retK Try.prog Try.f82 K))) .ret [.slice list_a list_n list_e, .int .i64 vmost, undef, undef, .bool t4, undef, g6, .slice list_a list_n list_e, .int .i64 (list_n : Int), .int .i64 t9, g10, g11, g12, g13, g14, g15, g16, g17, g18, g19] H =
  (K (.bool t4) H) := by kernel_rfl
theorem E_impl_areWithin_ok : ∀ g, FnOk Try.prog g (E_impl_areWithin g) := FnOk.envOf (by
  intro x hx
  simp only [List.mem_cons, List.not_mem_nil, or_false] at hx
  subst hx; exact impl_within_ok)
set_option maxHeartbeats 1000000 in
theorem impl_areWithin_main (list_a : Option Addr) (list_n : Nat) (list_e : Nat) (vmost : Int) (H : AHeap) (K : Value → AHeap → Prop) (h : T_impl_areWithin list_a list_n list_e vmost H fun (r1 : Bool) (H' : AHeap) => K (.bool r1) H') : bodyK Try.prog E_impl_areWithin Try.f82 [.slice list_a list_n list_e, .int .i64 vmost] H K := by
  rw [impl_areWithin_vc]
  obtain ⟨l_list, i_list, bd_9, hk⟩ := h
  obtain rfl := i_list.eqn
  have e : (p_impl_areWithin l_list vmost) = _ := rfl
  have e := e.trans (p_impl_areWithin_eq l_list vmost)
  have g0 := Grow.refl H
  refine impl_areWithin_L1 _ _ _ _ (fun (μ : Nat) (t4 : Bool) (t9 : Int) (H_1 : AHeap) => H = H_1 ∧ (0 : Int) ≤ t9 ∧ t9 ≤ (l_list.length : Int) ∧ (l_list.length : Int) - t9 ≤ (μ : Int) ∧ p_impl_areWithin l_list vmost = p_impl_areWithin_l1 l_list vmost (μ + 1) t4 t9) (Int.toNat ((l_list.length : Int) - (0 : Int))) _ _ _ _ _ _ _ _ _ _ _ _ _ H ?_ ?_
  · exact ⟨rfl, (by first | omega | (simp; done) | (simp; omega)), (by first | omega | (simp; done) | (simp; omega)), (by omega), e⟩
  · intro μ t4 t9 g6 g10 g11 g12 g13 g14 g15 g16 g17 g18 g19 H_1 hI
    obtain ⟨rfl, v_1, v_2, hμ, e⟩ := hI
    rw [impl_areWithin_r1]
    have e := e.trans (p_impl_areWithin_l1_s l_list vmost μ t4 t9)
    have l_3 := g0.1
    refine Br.intro (fun c_4 => ?_) (fun c_4 => ?_)
    · have e := e.trans (cond_t c_4)
      have c_4' := of_decide_eq_true c_4
      obtain ⟨b_5, f_6, q_7⟩ := ((i_list.grow g0)).pos (by first | omega | (simp only [List.length_set, List.length_replicate, List.length_append, List.length_cons, List.length_nil, List.length_take, List.length_drop, marks_length]; done) | (simp only [List.length_set, List.length_replicate, List.length_append, List.length_cons, List.length_nil, List.length_take, List.length_drop, marks_length]; omega))
      refine ⟨by omega, by omega, b_5, f_6, q_7, ?_⟩
      refine ⟨((l_list).getD (t9 : Int).toNat 0), (i_list).rd g0 q_7 (by omega) _, ?_⟩
      refine T_impl_within_i ?_
      refine Br.intro (fun c_8 => ?_) (fun c_8 => ?_)
      · have e := e.trans (cond_t c_8)
        have c_8n := nf_of_t c_8
        rw [impl_areWithin_x1_ret]
        rw [e] at hk
        exact hk
      · have e := e.trans (cond_f c_8)
        have c_8n := nt_of_f c_8
        have c_8n' := impl_within_t c_8n
        rw [show IntKind.wrap .i64 (t9 + 1) = (t9 + 1) from wrap64 (by omega) (by omega)]
        refine impl_areWithin_n1 (μ - 1) (by first | omega) ⟨rfl, (by first | omega | (simp only [List.length_append, List.length_cons, List.length_nil, List.length_set]; done) | (simp only [List.length_append, List.length_cons, List.length_nil, List.length_set]; omega)), (by first | omega | (simp only [List.length_append, List.length_cons, List.length_nil, List.length_set]; done) | (simp only [List.length_append, List.length_cons, List.length_nil, List.length_set]; omega)), (by first | omega), (by rw [show μ - 1 + 1 = μ from by first | omega]; exact e)⟩
    · have e := e.trans (cond_f c_4)
      have c_4' := of_decide_eq_false c_4
      rw [impl_areWithin_x1_0]
      rw [e] at hk
      exact hk
theorem impl_areWithin_ok : FnOk Try.prog 82 S_impl_areWithin := by
  refine FnOk.body mix_ok E_impl_areWithin_ok Try.func82 rfl (by kernel_rfl) (by kernel_rfl) ?_ ?_ ?_ ?_ ?_
  · intro args H K K' h hk
    simp only [S_impl_areWithin] at *
    unfold F_impl_areWithin at *
    split at hk
    · obtain ⟨l_list, i_list, bd_9, k⟩ := hk
      exact ⟨l_list, i_list, bd_9, h _ _ k⟩
    · exact hk.elim
  · intro _ args H K hk
    simp only [S_impl_areWithin] at *
    unfold F_impl_areWithin at *
    split at hk
    · obtain ⟨l_list, i_list, bd_9, k⟩ := hk
      exact ⟨_, k, fun K' k' => ⟨l_list, i_list, bd_9, k'⟩⟩
    · exact hk.elim
  · intro args H K hk
    simp only [S_impl_areWithin] at *
    unfold F_impl_areWithin at *
    split at hk
    · obtain ⟨l_list, i_list, bd_9, k⟩ := hk
      exact ⟨_, _, k⟩
    · exact hk.elim
  · intro hq; cases hq
  · have mm := @impl_areWithin_main
    revert mm
    generalize bodyK Try.prog E_impl_areWithin Try.f82 = Q
    intro mm args H K hk
    simp only [S_impl_areWithin] at *
    unfold F_impl_areWithin at *
    split at hk
    · exact mm _ _ _ _ H K hk
    · exact hk.elim
def p_impl_AreIntegers (l_list : List Int) : Bool := (bif (p_impl_within (l_list.length : Int) (1 : Int) (128 : Int)) then (p_impl_areWithin l_list (1000000 : Int)) else false)
theorem p_impl_AreIntegers_eq (l_list : List Int) : p_impl_AreIntegers l_list = (bif (p_impl_within (l_list.length : Int) (1 : Int) (128 : Int)) then (p_impl_areWithin l_list (1000000 : Int)) else false) := rfl
def T_impl_AreIntegers (list_a : Option Addr) (list_n : Nat) (list_e : Nat) (H : AHeap) (K : Bool → AHeap → Prop) : Prop := ∃ (l_list : List Int), IsL fI H list_a list_n l_list ∧ l_list.length < 1073741824 ∧ K (p_impl_AreIntegers l_list) H
theorem T_impl_AreIntegers_i {list_a : Option Addr} {list_n : Nat} {list_e : Nat} {H : AHeap} {K : Bool → AHeap → Prop} (h : ∃ (l_list : List Int), IsL fI H list_a list_n l_list ∧ l_list.length < 1073741824 ∧ K (p_impl_AreIntegers l_list) H) : T_impl_AreIntegers list_a list_n list_e H K := h
theorem impl_int_t {l : List Int} (h : p_impl_AreIntegers l = true) : 1 ≤ (l.length : Int) ∧ (l.length : Int) ≤ 128 := by
  rw [p_impl_AreIntegers_eq] at h
  cases hw : p_impl_within (l.length : Int) 1 128 with
  | false => rw [hw] at h; cases h
  | true => exact impl_within_t hw
/-! impl_AreIntegers: function 66 -/
def E_impl_AreIntegers : Env := envOf [(53, S_impl_within), (82, S_impl_areWithin)]
def F_impl_AreIntegers : List Value → AHeap → (Value → AHeap → Prop) → Prop
  | [.slice list_a list_n list_e], H, K => T_impl_AreIntegers list_a list_n list_e H fun (r1 : Bool) (H' : AHeap) => K (.bool r1) H'
  | _, _, _ => False
def S_impl_AreIntegers : FSpec := { F := F_impl_AreIntegers, quiet := true, tame := false }
theorem impl_AreIntegers_vc (list_a : Option Addr) (list_n : Nat) (list_e : Nat) (H : AHeap) (K : Value → AHeap → Prop) : bodyK Try.prog E_impl_AreIntegers Try.f66 [.slice list_a list_n list_e] H K =
  (T_impl_within (list_n : Int) 1 128 H fun (r1 : Bool) (H1 : AHeap) => Br r1 (T_impl_areWithin list_a list_n list_e 1000000 H1 fun (r2 : Bool) (H2 : AHeap) => K (.bool r2) H2) (K (.bool false) H1)) := by kernel_rfl
theorem E_impl_AreIntegers_ok : ∀ g, FnOk Try.prog g (E_impl_AreIntegers g) := FnOk.envOf (by
  intro x hx
  simp only [List.mem_cons, List.not_mem_nil, or_false] at hx
  rcases hx with rfl | rfl
  · exact impl_within_ok
  · exact impl_areWithin_ok)
set_option maxHeartbeats 1000000 in
theorem impl_AreIntegers_main (list_a : Option Addr) (list_n : Nat) (list_e : Nat) (H : AHeap) (K : Value → AHeap → Prop) (h : T_impl_AreIntegers list_a list_n list_e H fun (r1 : Bool) (H' : AHeap) => K (.bool r1) H') : bodyK Try.prog E_impl_AreIntegers Try.f66 [.slice list_a list_n list_e] H K := by
  rw [impl_AreIntegers_vc]
  obtain ⟨l_list, i_list, bd_2, hk⟩ := h
  obtain rfl := i_list.eqn
  have e : (p_impl_AreIntegers l_list) = _ := rfl
  have e := e.trans (p_impl_AreIntegers_eq l_list)
  have g0 := Grow.refl H
  refine T_impl_within_i ?_
  refine Br.intro (fun c_1 => ?_) (fun c_1 => ?_)
  · have e := e.trans (cond_t c_1)
    have c_1' := impl_within_t c_1
    refine T_impl_areWithin_i ⟨_, (i_list.grow g0), (by first | omega | (simp only [List.length_set, List.length_replicate, List.length_append, List.length_cons, List.length_nil, List.length_take, List.length_drop, marks_length]; done) | (simp only [List.length_set, List.length_replicate, List.length_append, List.length_cons, List.length_nil, List.length_take, List.length_drop, marks_length]; omega)), ?_⟩
    rw [e] at hk
    exact hk
  · have e := e.trans (cond_f c_1)
    rw [e] at hk
    exact hk
theorem impl_AreIntegers_ok : FnOk Try.prog 66 S_impl_AreIntegers := by
  refine FnOk.body mix_ok E_impl_AreIntegers_ok Try.func66 rfl (by kernel_rfl) (by kernel_rfl) ?_ ?_ ?_ ?_ ?_
  · intro args H K K' h hk
    simp only [S_impl_AreIntegers] at *
    unfold F_impl_AreIntegers at *
    split at hk
    · obtain ⟨l_list, i_list, bd_2, k⟩ := hk
      exact ⟨l_list, i_list, bd_2, h _ _ k⟩
    · exact hk.elim
  · intro _ args H K hk
    simp only [S_impl_AreIntegers] at *
    unfold F_impl_AreIntegers at *
    split at hk
    · obtain ⟨l_list, i_list, bd_2, k⟩ := hk
      exact ⟨_, k, fun K' k' => ⟨l_list, i_list, bd_2, k'⟩⟩
    · exact hk.elim
  · intro args H K hk
    simp only [S_impl_AreIntegers] at *
    unfold F_impl_AreIntegers at *
    split at hk
    · obtain ⟨l_list, i_list, bd_2, k⟩ := hk
      exact ⟨_, _, k⟩
    · exact hk.elim
  · intro hq; cases hq
  · have mm := @impl_AreIntegers_main
    revert mm
    generalize bodyK Try.prog E_impl_AreIntegers Try.f66 = Q
    intro mm args H K hk
    simp only [S_impl_AreIntegers] at *
    unfold F_impl_AreIntegers at *
    split at hk
    · exact mm _ _ _ H K hk
    · exact hk.elim
def p_impl_far (n : Int) : Int := (if (IntKind.wrap .i64 (0 - n) : Int) > n then IntKind.wrap .i64 (0 - n) else n)
theorem p_impl_far_eq (n : Int) : p_impl_far n = (if (IntKind.wrap .i64 (0 - n) : Int) > n then IntKind.wrap .i64 (0 - n) else n) := rfl
def T_impl_far (n : Int) (H : AHeap) (K : Int → AHeap → Prop) : Prop := K (p_impl_far n) H

theorem T_impl_far_i {n : Int} {H : AHeap} {K : Int → AHeap → Prop} (h : K (p_impl_far n) H) : T_impl_far n H K := h
/-! impl_far: function 85 -/
def E_impl_far : Env := envOf []
def F_impl_far : List Value → AHeap → (Value → AHeap → Prop) → Prop
  | [.int .i64 n], H, K => T_impl_far n H fun (r1 : Int) (H' : AHeap) => K (.int .i64 r1) H'
  | _, _, _ => False
def S_impl_far : FSpec := { F := F_impl_far, quiet := true, tame := false }
theorem impl_far_vc (n : Int) (H : AHeap) (K : Value → AHeap → Prop) : bodyK Try.prog E_impl_far Try.f85 [.int .i64 n] H K =
  (K (.int .i64 ((if (IntKind.wrap .i64 (0 - n) : Int) > n then IntKind.wrap .i64 (0 - n) else n))) H) := by kernel_rfl
theorem E_impl_far_ok : ∀ g, FnOk Try.prog g (E_impl_far g) := FnOk.envOf (by
  intro x hx; cases hx)
set_option maxHeartbeats 1000000 in
theorem impl_far_main (n : Int) (H : AHeap) (K : Value → AHeap → Prop) (h : T_impl_far n H fun (r1 : Int) (H' : AHeap) => K (.int .i64 r1) H') : bodyK Try.prog E_impl_far Try.f85 [.int .i64 n] H K := by
  rw [impl_far_vc]
  unfold T_impl_far p_impl_far at h
  repeat' (first | exact h | (exfalso; simp_all; done) | (refine ⟨by decide, ?_⟩) | (refine Br.intro (fun hb => ?_) (fun hb => ?_) <;> (try simp only [hb, cond_true, cond_false, Bool.not_true, Bool.not_false] at h)))
theorem impl_far_ok : FnOk Try.prog 85 S_impl_far := by
  refine FnOk.body mix_ok E_impl_far_ok Try.func85 rfl (by kernel_rfl) (by kernel_rfl) ?_ ?_ ?_ ?_ ?_
  · intro args H K K' h hk
    simp only [S_impl_far] at *
    unfold F_impl_far at *
    split at hk
    · have k := hk
      exact h _ _ k
    · exact hk.elim
  · intro _ args H K hk
    simp only [S_impl_far] at *
    unfold F_impl_far at *
    split at hk
    · have k := hk
      exact ⟨_, k, fun K' k' => k'⟩
    · exact hk.elim
  · intro args H K hk
    simp only [S_impl_far] at *
    unfold F_impl_far at *
    split at hk
    · have k := hk
      exact ⟨_, _, k⟩
    · exact hk.elim
  · intro hq; cases hq
  · have mm := @impl_far_main
    revert mm
    generalize bodyK Try.prog E_impl_far Try.f85 = Q
    intro mm args H K hk
    simp only [S_impl_far] at *
    unfold F_impl_far at *
    split at hk
    · exact mm _ H K hk
    · exact hk.elim
def math_bits_Len64_tab : ByteArray := (⟨#[0, 1, 2, 2, 3, 3, 3, 3, 4, 4, 4, 4, 4, 4, 4, 4, 5, 5, 5, 5, 5, 5, 5, 5, 5, 5, 5, 5, 5, 5, 5, 5, 6, 6, 6, 6, 6, 6, 6, 6, 6, 6, 6, 6, 6, 6, 6, 6, 6, 6, 6, 6, 6, 6, 6, 6, 6, 6, 6, 6, 6, 6, 6, 6, 7, 7, 7, 7, 7, 7, 7, 7, 7, 7, 7, 7, 7, 7, 7, 7, 7, 7, 7, 7, 7, 7, 7, 7, 7, 7, 7, 7, 7, 7, 7, 7, 7, 7, 7, 7, 7, 7, 7, 7, 7, 7, 7, 7, 7, 7, 7, 7, 7, 7, 7, 7, 7, 7, 7, 7, 7, 7, 7, 7, 7, 7, 7, 7, 8, 8, 8, 8, 8, 8, 8, 8, 8, 8, 8, 8, 8, 8, 8, 8, 8, 8, 8, 8, 8, 8, 8, 8, 8, 8, 8, 8, 8, 8, 8, 8, 8, 8, 8, 8, 8, 8, 8, 8, 8, 8, 8, 8, 8, 8, 8, 8, 8, 8, 8, 8, 8, 8, 8, 8, 8, 8, 8, 8, 8, 8, 8, 8, 8, 8, 8, 8, 8, 8, 8, 8, 8, 8, 8, 8, 8, 8, 8, 8, 8, 8, 8, 8, 8, 8, 8, 8, 8, 8, 8, 8, 8, 8, 8, 8, 8, 8, 8, 8, 8, 8, 8, 8, 8, 8, 8, 8, 8, 8, 8, 8, 8, 8, 8, 8, 8, 8, 8, 8, 8, 8, 8, 8, 8, 8, 8, 8]⟩ : ByteArray)
theorem math_bits_Len64_tab_size : math_bits_Len64_tab.data.size = 256 := by decide +kernel
def p_math_bits_Len64 (x : Int) : Int := (bif decide ((4294967296 : Int) ≤ x) then (bif decide ((65536 : Int) ≤ Int.fdiv x (2 ^ (min (32 : Int).toNat (IntKind.bits .u64)))) then (bif decide ((256 : Int) ≤ Int.fdiv (Int.fdiv x (2 ^ (min (32 : Int).toNat (IntKind.bits .u64)))) (2 ^ (min (16 : Int).toNat (IntKind.bits .u64)))) then IntKind.wrap .i64 ((IntKind.wrap .i64 ((32 + 16) + 8)) + (IntKind.wrap .i64 (((sAt math_bits_Len64_tab (IntKind.wrap .u8 (Int.fdiv (Int.fdiv (Int.fdiv x (2 ^ (min (32 : Int).toNat (IntKind.bits .u64)))) (2 ^ (min (16 : Int).toNat (IntKind.bits .u64)))) (2 ^ (min (8 : Int).toNat (IntKind.bits .u64)))) : Int).toNat).toNat : Int)))) else IntKind.wrap .i64 ((32 + 16) + (IntKind.wrap .i64 (((sAt math_bits_Len64_tab (IntKind.wrap .u8 (Int.fdiv (Int.fdiv x (2 ^ (min (32 : Int).toNat (IntKind.bits .u64)))) (2 ^ (min (16 : Int).toNat (IntKind.bits .u64)))) : Int).toNat).toNat : Int))))) else (bif decide ((256 : Int) ≤ Int.fdiv x (2 ^ (min (32 : Int).toNat (IntKind.bits .u64)))) then IntKind.wrap .i64 ((32 + 8) + (IntKind.wrap .i64 (((sAt math_bits_Len64_tab (IntKind.wrap .u8 (Int.fdiv (Int.fdiv x (2 ^ (min (32 : Int).toNat (IntKind.bits .u64)))) (2 ^ (min (8 : Int).toNat (IntKind.bits .u64)))) : Int).toNat).toNat : Int)))) else IntKind.wrap .i64 (32 + (IntKind.wrap .i64 (((sAt math_bits_Len64_tab (IntKind.wrap .u8 (Int.fdiv x (2 ^ (min (32 : Int).toNat (IntKind.bits .u64)))) : Int).toNat).toNat : Int)))))) else (bif decide ((65536 : Int) ≤ x) then (bif decide ((256 : Int) ≤ Int.fdiv x (2 ^ (min (16 : Int).toNat (IntKind.bits .u64)))) then IntKind.wrap .i64 ((IntKind.wrap .i64 ((0 + 16) + 8)) + (IntKind.wrap .i64 (((sAt math_bits_Len64_tab (IntKind.wrap .u8 (Int.fdiv (Int.fdiv x (2 ^ (min (16 : Int).toNat (IntKind.bits .u64)))) (2 ^ (min (8 : Int).toNat (IntKind.bits .u64)))) : Int).toNat).toNat : Int)))) else IntKind.wrap .i64 ((0 + 16) + (IntKind.wrap .i64 (((sAt math_bits_Len64_tab (IntKind.wrap .u8 (Int.fdiv x (2 ^ (min (16 : Int).toNat (IntKind.bits .u64)))) : Int).toNat).toNat : Int))))) else (bif decide ((256 : Int) ≤ x) then IntKind.wrap .i64 ((0 + 8) + (IntKind.wrap .i64 (((sAt math_bits_Len64_tab (IntKind.wrap .u8 (Int.fdiv x (2 ^ (min (8 : Int).toNat (IntKind.bits .u64)))) : Int).toNat).toNat : Int)))) else IntKind.wrap .i64 (0 + (IntKind.wrap .i64 (((sAt math_bits_Len64_tab (IntKind.wrap .u8 x : Int).toNat).toNat : Int)))))))
theorem p_math_bits_Len64_eq (x : Int) : p_math_bits_Len64 x = (bif decide ((4294967296 : Int) ≤ x) then (bif decide ((65536 : Int) ≤ Int.fdiv x (2 ^ (min (32 : Int).toNat (IntKind.bits .u64)))) then (bif decide ((256 : Int) ≤ Int.fdiv (Int.fdiv x (2 ^ (min (32 : Int).toNat (IntKind.bits .u64)))) (2 ^ (min (16 : Int).toNat (IntKind.bits .u64)))) then IntKind.wrap .i64 ((IntKind.wrap .i64 ((32 + 16) + 8)) + (IntKind.wrap .i64 (((sAt math_bits_Len64_tab (IntKind.wrap .u8 (Int.fdiv (Int.fdiv (Int.fdiv x (2 ^ (min (32 : Int).toNat (IntKind.bits .u64)))) (2 ^ (min (16 : Int).toNat (IntKind.bits .u64)))) (2 ^ (min (8 : Int).toNat (IntKind.bits .u64)))) : Int).toNat).toNat : Int)))) else IntKind.wrap .i64 ((32 + 16) + (IntKind.wrap .i64 (((sAt math_bits_Len64_tab (IntKind.wrap .u8 (Int.fdiv (Int.fdiv x (2 ^ (min (32 : Int).toNat (IntKind.bits .u64)))) (2 ^ (min (16 : Int).toNat (IntKind.bits .u64)))) : Int).toNat).toNat : Int))))) else (bif decide ((256 : Int) ≤ Int.fdiv x (2 ^ (min (32 : Int).toNat (IntKind.bits .u64)))) then IntKind.wrap .i64 ((32 + 8) + (IntKind.wrap .i64 (((sAt math_bits_Len64_tab (IntKind.wrap .u8 (Int.fdiv (Int.fdiv x (2 ^ (min (32 : Int).toNat (IntKind.bits .u64)))) (2 ^ (min (8 : Int).toNat (IntKind.bits .u64)))) : Int).toNat).toNat : Int)))) else IntKind.wrap .i64 (32 + (IntKind.wrap .i64 (((sAt math_bits_Len64_tab (IntKind.wrap .u8 (Int.fdiv x (2 ^ (min (32 : Int).toNat (IntKind.bits .u64)))) : Int).toNat).toNat : Int)))))) else (bif decide ((65536 : Int) ≤ x) then (bif decide ((256 : Int) ≤ Int.fdiv x (2 ^ (min (16 : Int).toNat (IntKind.bits .u64)))) then IntKind.wrap .i64 ((IntKind.wrap .i64 ((0 + 16) + 8)) + (IntKind.wrap .i64 (((sAt math_bits_Len64_tab (IntKind.wrap .u8 (Int.fdiv (Int.fdiv x (2 ^ (min (16 : Int).toNat (IntKind.bits .u64)))) (2 ^ (min (8 : Int).toNat (IntKind.bits .u64)))) : Int).toNat).toNat : Int)))) else IntKind.wrap .i64 ((0 + 16) + (IntKind.wrap .i64 (((sAt math_bits_Len64_tab (IntKind.wrap .u8 (Int.fdiv x (2 ^ (min (16 : Int).toNat (IntKind.bits .u64)))) : Int).toNat).toNat : Int))))) else (bif decide ((256 : Int) ≤ x) then IntKind.wrap .i64 ((0 + 8) + (IntKind.wrap .i64 (((sAt math_bits_Len64_tab (IntKind.wrap .u8 (Int.fdiv x (2 ^ (min (8 : Int).toNat (IntKind.bits .u64)))) : Int).toNat).toNat : Int)))) else IntKind.wrap .i64 (0 + (IntKind.wrap .i64 (((sAt math_bits_Len64_tab (IntKind.wrap .u8 x : Int).toNat).toNat : Int))))))) := rfl
def T_math_bits_Len64 (x : Int) (H : AHeap) (K : Int → AHeap → Prop) : Prop := K (p_math_bits_Len64 x) H
theorem T_math_bits_Len64_i {x : Int} {H : AHeap} {K : Int → AHeap → Prop} (h : K (p_math_bits_Len64 x) H) : T_math_bits_Len64 x H K := h

/-! math_bits_Len64: function 86 -/
def E_math_bits_Len64 : Env := envOf []
def F_math_bits_Len64 : List Value → AHeap → (Value → AHeap → Prop) → Prop
  | [.int .u64 x], H, K => T_math_bits_Len64 x H fun (r1 : Int) (H' : AHeap) => K (.int .i64 r1) H'
  | _, _, _ => False
def S_math_bits_Len64 : FSpec := { F := F_math_bits_Len64, quiet := true, tame := false }
theorem math_bits_Len64_vc (x : Int) (H : AHeap) (K : Value → AHeap → Prop) : bodyK Try.prog E_math_bits_Len64 Try.f86 [.int .u64 x] H K =
  (Br (decide ((4294967296 : Int) ≤ x)) ((0 : Int) ≤ 32 ∧ Br (decide ((65536 : Int) ≤ Int.fdiv x (2 ^ (min (32 : Int).toNat (IntKind.bits .u64))))) ((0 : Int) ≤ 16 ∧ Br (decide ((256 : Int) ≤ Int.fdiv (Int.fdiv x (2 ^ (min (32 : Int).toNat (IntKind.bits .u64)))) (2 ^ (min (16 : Int).toNat (IntKind.bits .u64))))) ((0 : Int) ≤ 8 ∧ ∃ c1 : UInt8, (0 : Int) ≤ IntKind.wrap .u8 (Int.fdiv (Int.fdiv (Int.fdiv x (2 ^ (min (32 : Int).toNat (IntKind.bits .u64)))) (2 ^ (min (16 : Int).toNat (IntKind.bits .u64)))) (2 ^ (min (8 : Int).toNat (IntKind.bits .u64)))) ∧ (⟨#[0, 1, 2, 2, 3, 3, 3, 3, 4, 4, 4, 4, 4, 4, 4, 4, 5, 5, 5, 5, 5, 5, 5, 5, 5, 5, 5, 5, 5, 5, 5, 5, 6, 6, 6, 6, 6, 6, 6, 6, 6, 6, 6, 6, 6, 6, 6, 6, 6, 6, 6, 6, 6, 6, 6, 6, 6, 6, 6, 6, 6, 6, 6, 6, 7, 7, 7, 7, 7, 7, 7, 7, 7, 7, 7, 7, 7, 7, 7, 7, 7, 7, 7, 7, 7, 7, 7, 7, 7, 7, 7, 7, 7, 7, 7, 7, 7, 7, 7, 7, 7, 7, 7, 7, 7, 7, 7, 7, 7, 7, 7, 7, 7, 7, 7, 7, 7, 7, 7, 7, 7, 7, 7, 7, 7, 7, 7, 7, 8, 8, 8, 8, 8, 8, 8, 8, 8, 8, 8, 8, 8, 8, 8, 8, 8, 8, 8, 8, 8, 8, 8, 8, 8, 8, 8, 8, 8, 8, 8, 8, 8, 8, 8, 8, 8, 8, 8, 8, 8, 8, 8, 8, 8, 8, 8, 8, 8, 8, 8, 8, 8, 8, 8, 8, 8, 8, 8, 8, 8, 8, 8, 8, 8, 8, 8, 8, 8, 8, 8, 8, 8, 8, 8, 8, 8, 8, 8, 8, 8, 8, 8, 8, 8, 8, 8, 8, 8, 8, 8, 8, 8, 8, 8, 8, 8, 8, 8, 8, 8, 8, 8, 8, 8, 8, 8, 8, 8, 8, 8, 8, 8, 8, 8, 8, 8, 8, 8, 8, 8, 8, 8, 8, 8, 8, 8, 8]⟩ : ByteArray)[(IntKind.wrap .u8 (Int.fdiv (Int.fdiv (Int.fdiv x (2 ^ (min (32 : Int).toNat (IntKind.bits .u64)))) (2 ^ (min (16 : Int).toNat (IntKind.bits .u64)))) (2 ^ (min (8 : Int).toNat (IntKind.bits .u64)))) : Int).toNat]? = some c1 ∧ K (.int .i64 (IntKind.wrap .i64 ((IntKind.wrap .i64 ((IntKind.wrap .i64 (32 + 16)) + 8)) + (IntKind.wrap .i64 (c1.toNat : Int))))) H) (∃ c2 : UInt8, (0 : Int) ≤ IntKind.wrap .u8 (Int.fdiv (Int.fdiv x (2 ^ (min (32 : Int).toNat (IntKind.bits .u64)))) (2 ^ (min (16 : Int).toNat (IntKind.bits .u64)))) ∧ (⟨#[0, 1, 2, 2, 3, 3, 3, 3, 4, 4, 4, 4, 4, 4, 4, 4, 5, 5, 5, 5, 5, 5, 5, 5, 5, 5, 5, 5, 5, 5, 5, 5, 6, 6, 6, 6, 6, 6, 6, 6, 6, 6, 6, 6, 6, 6, 6, 6, 6, 6, 6, 6, 6, 6, 6, 6, 6, 6, 6, 6, 6, 6, 6, 6, 7, 7, 7, 7, 7, 7, 7, 7, 7, 7, 7, 7, 7, 7, 7, 7, 7, 7, 7, 7, 7, 7, 7, 7, 7, 7, 7, 7, 7, 7, 7, 7, 7, 7, 7, 7, 7, 7, 7, 7, 7, 7, 7, 7, 7, 7, 7, 7, 7, 7, 7, 7, 7, 7, 7, 7, 7, 7, 7, 7, 7, 7, 7, 7, 8, 8, 8, 8, 8, 8, 8, 8, 8, 8, 8, 8, 8, 8, 8, 8, 8, 8, 8, 8, 8, 8, 8, 8, 8, 8, 8, 8, 8, 8, 8, 8, 8, 8, 8, 8, 8, 8, 8, 8, 8, 8, 8, 8, 8, 8, 8, 8, 8, 8, 8, 8, 8, 8, 8, 8, 8, 8, 8, 8, 8, 8, 8, 8, 8, 8, 8, 8, 8, 8, 8, 8, 8, 8, 8, 8, 8, 8, 8, 8, 8, 8, 8, 8, 8, 8, 8, 8, 8, 8, 8, 8, 8, 8, 8, 8, 8, 8, 8, 8, 8, 8, 8, 8, 8, 8, 8, 8, 8, 8, 8, 8, 8, 8, 8, 8, 8, 8, 8, 8, 8, 8, 8, 8, 8, 8, 8, 8]⟩ : ByteArray)[(IntKind.wrap .u8 (Int.fdiv (Int.fdiv x (2 ^ (min (32 : Int).toNat (IntKind.bits .u64)))) (2 ^ (min (16 : Int).toNat (IntKind.bits .u64)))) : Int).toNat]? = some c2 ∧ K (.int .i64 (IntKind.wrap .i64 ((IntKind.wrap .i64 (32 + 16)) + (IntKind.wrap .i64 (c2.toNat : Int))))) H)) (Br (decide ((256 : Int) ≤ Int.fdiv x (2 ^ (min (32 : Int).toNat (IntKind.bits .u64))))) ((0 : Int) ≤ 8 ∧ ∃ c3 : UInt8, (0 : Int) ≤ IntKind.wrap .u8 (Int.fdiv (Int.fdiv x (2 ^ (min (32 : Int).toNat (IntKind.bits .u64)))) (2 ^ (min (8 : Int).toNat (IntKind.bits .u64)))) ∧ (⟨#[0, 1, 2, 2, 3, 3, 3, 3, 4, 4, 4, 4, 4, 4, 4, 4, 5, 5, 5, 5, 5, 5, 5, 5, 5, 5, 5, 5, 5, 5, 5, 5, 6, 6, 6, 6, 6, 6, 6, 6, 6, 6, 6, 6, 6, 6, 6, 6, 6, 6, 6, 6, 6, 6, 6, 6, 6, 6, 6, 6, 6, 6, 6, 6, 7, 7, 7, 7, 7, 7, 7, 7, 7, 7, 7, 7, 7, 7, 7, 7, 7, 7, 7, 7, 7, 7, 7, 7, 7, 7, 7, 7, 7, 7, 7, 7, 7, 7, 7, 7, 7, 7, 7, 7, 7, 7, 7, 7, 7, 7, 7, 7, 7, 7, 7, 7, 7, 7, 7, 7, 7, 7, 7, 7, 7, 7, 7, 7, 8, 8, 8, 8, 8, 8, 8, 8, 8, 8, 8, 8, 8, 8, 8, 8, 8, 8, 8, 8, 8, 8, 8, 8, 8, 8, 8, 8, 8, 8, 8, 8, 8, 8, 8, 8, 8, 8, 8, 8, 8, 8, 8, 8, 8, 8, 8, 8, 8, 8, 8, 8, 8, 8, 8, 8, 8, 8, 8, 8, 8, 8, 8, 8, 8, 8, 8, 8, 8, 8, 8, 8, 8, 8, 8, 8, 8, 8, 8, 8, 8, 8, 8, 8, 8, 8, 8, 8, 8, 8, 8, 8, 8, 8, 8, 8, 8, 8, 8, 8, 8, 8, 8, 8, 8, 8, 8, 8, 8, 8, 8, 8, 8, 8, 8, 8, 8, 8, 8, 8, 8, 8, 8, 8, 8, 8, 8, 8]⟩ : ByteArray)[(IntKind.wrap .u8 (Int.fdiv (Int.fdiv x (2 ^ (min (32 : Int).toNat (IntKind.bits .u64)))) (2 ^ (min (8 : Int).toNat (IntKind.bits .u64)))) : Int).toNat]? = some c3 ∧ K (.int .i64 (IntKind.wrap .i64 ((IntKind.wrap .i64 (32 + 8)) + (IntKind.wrap .i64 (c3.toNat : Int))))) H) (∃ c4 : UInt8, (0 : Int) ≤ IntKind.wrap .u8 (Int.fdiv x (2 ^ (min (32 : Int).toNat (IntKind.bits .u64)))) ∧ (⟨#[0, 1, 2, 2, 3, 3, 3, 3, 4, 4, 4, 4, 4, 4, 4, 4, 5, 5, 5, 5, 5, 5, 5, 5, 5, 5, 5, 5, 5, 5, 5, 5, 6, 6, 6, 6, 6, 6, 6, 6, 6, 6, 6, 6, 6, 6, 6, 6, 6, 6, 6, 6, 6, 6, 6, 6, 6, 6, 6, 6, 6, 6, 6, 6, 7, 7, 7, 7, 7, 7, 7, 7, 7, 7, 7, 7, 7, 7, 7, 7, 7, 7, 7, 7, 7, 7, 7, 7, 7, 7, 7, 7, 7, 7, 7, 7, 7, 7, 7, 7, 7, 7, 7, 7, 7, 7, 7, 7, 7, 7, 7, 7, 7, 7, 7, 7, 7, 7, 7, 7, 7, 7, 7, 7, 7, 7, 7, 7, 8, 8, 8, 8, 8, 8, 8, 8, 8, 8, 8, 8, 8, 8, 8, 8, 8, 8, 8, 8, 8, 8, 8, 8, 8, 8, 8, 8, 8, 8, 8, 8, 8, 8, 8, 8, 8, 8, 8, 8, 8, 8, 8, 8, 8, 8, 8, 8, 8, 8, 8, 8, 8, 8, 8, 8, 8, 8, 8, 8, 8, 8, 8, 8, 8, 8, 8, 8, 8, 8, 8, 8, 8, 8, 8, 8, 8, 8, 8, 8, 8, 8, 8, 8, 8, 8, 8, 8, 8, 8, 8, 8, 8, 8, 8, 8, 8, 8, 8, 8, 8, 8, 8, 8, 8, 8, 8, 8, 8, 8, 8, 8, 8, 8, 8, 8, 8, 8, 8, 8, 8, 8, 8, 8, 8, 8, 8, 8]⟩ : ByteArray)[(IntKind.wrap .u8 (Int.fdiv x (2 ^ (min (32 : Int).toNat (IntKind.bits .u64)))) : Int).toNat]? = some c4 ∧ K (.int .i64 (IntKind.wrap .i64 (32 + (IntKind.wrap .i64 (c4.toNat : Int))))) H))) (Br (decide ((65536 : Int) ≤ x)) ((0 : Int) ≤ 16 ∧ Br (decide ((256 : Int) ≤ Int.fdiv x (2 ^ (min (16 : Int).toNat (IntKind.bits .u64))))) ((0 : Int) ≤ 8 ∧ ∃ c5 : UInt8, (0 : Int) ≤ IntKind.wrap .u8 (Int.fdiv (Int.fdiv x (2 ^ (min (16 : Int).toNat (IntKind.bits .u64)))) (2 ^ (min (8 : Int).toNat (IntKind.bits .u64)))) ∧ (⟨#[0, 1, 2, 2, 3, 3, 3, 3, 4, 4, 4, 4, 4, 4, 4, 4, 5, 5, 5, 5, 5, 5, 5, 5, 5, 5, 5, 5, 5, 5, 5, 5, 6, 6, 6, 6, 6, 6, 6, 6, 6, 6, 6, 6, 6, 6, 6, 6, 6, 6, 6, 6, 6, 6, 6, 6, 6, 6, 6, 6, 6, 6, 6, 6, 7, 7, 7, 7, 7, 7, 7, 7, 7, 7, 7, 7, 7, 7, 7, 7, 7, 7, 7, 7, 7, 7, 7, 7, 7, 7, 7, 7, 7, 7, 7, 7, 7, 7, 7, 7, 7, 7, 7, 7, 7, 7, 7, 7, 7, 7, 7, 7, 7, 7, 7, 7, 7, 7, 7, 7, 7, 7, 7, 7, 7, 7, 7, 7, 8, 8, 8, 8, 8, 8, 8, 8, 8, 8, 8, 8, 8, 8, 8, 8, 8, 8, 8, 8, 8, 8, 8, 8, 8, 8, 8, 8, 8, 8, 8, 8, 8, 8, 8, 8, 8, 8, 8, 8, 8, 8, 8, 8, 8, 8, 8, 8, 8, 8, 8, 8, 8, 8, 8, 8, 8, 8, 8, 8, 8, 8, 8, 8, 8, 8, 8, 8, 8, 8, 8, 8, 8, 8, 8, 8, 8, 8, 8, 8, 8, 8, 8, 8, 8, 8, 8, 8, 8, 8, 8, 8, 8, 8, 8, 8, 8, 8, 8, 8, 8, 8, 8, 8, 8, 8, 8, 8, 8, 8, 8, 8, 8, 8, 8, 8, 8, 8, 8, 8, 8, 8, 8, 8, 8, 8, 8, 8]⟩ : ByteArray)[(IntKind.wrap .u8 (Int.fdiv (Int.fdiv x (2 ^ (min (16 : Int).toNat (IntKind.bits .u64)))) (2 ^ (min (8 : Int).toNat (IntKind.bits .u64)))) : Int).toNat]? = some c5 ∧ K (.int .i64 (IntKind.wrap .i64 ((IntKind.wrap .i64 ((IntKind.wrap .i64 (0 + 16)) + 8)) + (IntKind.wrap .i64 (c5.toNat : Int))))) H) (∃ c6 : UInt8, (0 : Int) ≤ IntKind.wrap .u8 (Int.fdiv x (2 ^ (min (16 : Int).toNat (IntKind.bits .u64)))) ∧ (⟨#[0, 1, 2, 2, 3, 3, 3, 3, 4, 4, 4, 4, 4, 4, 4, 4, 5, 5, 5, 5, 5, 5, 5, 5, 5, 5, 5, 5, 5, 5, 5, 5, 6, 6, 6, 6, 6, 6, 6, 6, 6, 6, 6, 6, 6, 6, 6, 6, 6, 6, 6, 6, 6, 6, 6, 6, 6, 6, 6, 6, 6, 6, 6, 6, 7, 7, 7, 7, 7, 7, 7, 7, 7, 7, 7, 7, 7, 7, 7, 7, 7, 7, 7, 7, 7, 7, 7, 7, 7, 7, 7, 7, 7, 7, 7, 7, 7, 7, 7, 7, 7, 7, 7, 7, 7, 7, 7, 7, 7, 7, 7, 7, 7, 7, 7, 7, 7, 7, 7, 7, 7, 7, 7, 7, 7, 7, 7, 7, 8, 8, 8, 8, 8, 8, 8, 8, 8, 8, 8, 8, 8, 8, 8, 8, 8, 8, 8, 8, 8, 8, 8, 8, 8, 8, 8, 8, 8, 8, 8, 8, 8, 8, 8, 8, 8, 8, 8, 8, 8, 8, 8, 8, 8, 8, 8, 8, 8, 8, 8, 8, 8, 8, 8, 8, 8, 8, 8, 8, 8, 8, 8, 8, 8, 8, 8, 8, 8, 8, 8, 8, 8, 8, 8, 8, 8, 8, 8, 8, 8, 8, 8, 8, 8, 8, 8, 8, 8, 8, 8, 8, 8, 8, 8, 8, 8, 8, 8, 8, 8, 8, 8, 8, 8, 8, 8, 8, 8, 8, 8, 8, 8, 8, 8, 8, 8, 8, 8, 8, 8, 8, 8, 8, 8, 8, 8, 8]⟩ : ByteArray)[(IntKind.wrap .u8 (Int.fdiv x (2 ^ (min (16 : Int).toNat (IntKind.bits .u64)))) : Int).toNat]? = some c6 ∧ K (.int .i64 (IntKind.wrap .i64 ((IntKind.wrap .i64 (0 + 16)) + (IntKind.wrap .i64 (c6.toNat : Int))))) H)) (Br (decide ((256 : Int) ≤ x)) ((0 : Int) ≤ 8 ∧ ∃ c7 : UInt8, (0 : Int) ≤ IntKind.wrap .u8 (Int.fdiv x (2 ^ (min (8 : Int).toNat (IntKind.bits .u64)))) ∧ (⟨#[0, 1, 2, 2, 3, 3, 3, 3, 4, 4, 4, 4, 4, 4, 4, 4, 5, 5, 5, 5, 5, 5, 5, 5, 5, 5, 5, 5, 5, 5, 5, 5, 6, 6, 6, 6, 6, 6, 6, 6, 6, 6, 6, 6, 6, 6, 6, 6, 6, 6, 6, 6, 6, 6, 6, 6, 6, 6, 6, 6, 6, 6, 6, 6, 7, 7, 7, 7, 7, 7, 7, 7, 7, 7, 7, 7, 7, 7, 7, 7, 7, 7, 7, 7, 7, 7, 7, 7, 7, 7, 7, 7, 7, 7, 7, 7, 7, 7, 7, 7, 7, 7, 7, 7, 7, 7, 7, 7, 7, 7, 7, 7, 7, 7, 7, 7, 7, 7, 7, 7, 7, 7, 7, 7, 7, 7, 7, 7, 8, 8, 8, 8, 8, 8, 8, 8, 8, 8, 8, 8, 8, 8, 8, 8, 8, 8, 8, 8, 8, 8, 8, 8, 8, 8, 8, 8, 8, 8, 8, 8, 8, 8, 8, 8, 8, 8, 8, 8, 8, 8, 8, 8, 8, 8, 8, 8, 8, 8, 8, 8, 8, 8, 8, 8, 8, 8, 8, 8, 8, 8, 8, 8, 8, 8, 8, 8, 8, 8, 8, 8, 8, 8, 8, 8, 8, 8, 8, 8, 8, 8, 8, 8, 8, 8, 8, 8, 8, 8, 8, 8, 8, 8, 8, 8, 8, 8, 8, 8, 8, 8, 8, 8, 8, 8, 8, 8, 8, 8, 8, 8, 8, 8, 8, 8, 8, 8, 8, 8, 8, 8, 8, 8, 8, 8, 8, 8]⟩ : ByteArray)[(IntKind.wrap .u8 (Int.fdiv x (2 ^ (min (8 : Int).toNat (IntKind.bits .u64)))) : Int).toNat]? = some c7 ∧ K (.int .i64 (IntKind.wrap .i64 ((IntKind.wrap .i64 (0 + 8)) + (IntKind.wrap .i64 (c7.toNat : Int))))) H) (∃ c8 : UInt8, (0 : Int) ≤ IntKind.wrap .u8 x ∧ (⟨#[0, 1, 2, 2, 3, 3, 3, 3, 4, 4, 4, 4, 4, 4, 4, 4, 5, 5, 5, 5, 5, 5, 5, 5, 5, 5, 5, 5, 5, 5, 5, 5, 6, 6, 6, 6, 6, 6, 6, 6, 6, 6, 6, 6, 6, 6, 6, 6, 6, 6, 6, 6, 6, 6, 6, 6, 6, 6, 6, 6, 6, 6, 6, 6, 7, 7, 7, 7, 7, 7, 7, 7, 7, 7, 7, 7, 7, 7, 7, 7, 7, 7, 7, 7, 7, 7, 7, 7, 7, 7, 7, 7, 7, 7, 7, 7, 7, 7, 7, 7, 7, 7, 7, 7, 7, 7, 7, 7, 7, 7, 7, 7, 7, 7, 7, 7, 7, 7, 7, 7, 7, 7, 7, 7, 7, 7, 7, 7, 8, 8, 8, 8, 8, 8, 8, 8, 8, 8, 8, 8, 8, 8, 8, 8, 8, 8, 8, 8, 8, 8, 8, 8, 8, 8, 8, 8, 8, 8, 8, 8, 8, 8, 8, 8, 8, 8, 8, 8, 8, 8, 8, 8, 8, 8, 8, 8, 8, 8, 8, 8, 8, 8, 8, 8, 8, 8, 8, 8, 8, 8, 8, 8, 8, 8, 8, 8, 8, 8, 8, 8, 8, 8, 8, 8, 8, 8, 8, 8, 8, 8, 8, 8, 8, 8, 8, 8, 8, 8, 8, 8, 8, 8, 8, 8, 8, 8, 8, 8, 8, 8, 8, 8, 8, 8, 8, 8, 8, 8, 8, 8, 8, 8, 8, 8, 8, 8, 8, 8, 8, 8, 8, 8, 8, 8, 8, 8]⟩ : ByteArray)[(IntKind.wrap .u8 x : Int).toNat]? = some c8 ∧ K (.int .i64 (IntKind.wrap .i64 (0 + (IntKind.wrap .i64 (c8.toNat : Int))))) H)))) := by kernel_rfl
theorem E_math_bits_Len64_ok : ∀ g, FnOk Try.prog g (E_math_bits_Len64 g) := FnOk.envOf (by
  intro x hx; cases hx)
set_option maxHeartbeats 1000000 in
theorem math_bits_Len64_main (x : Int) (H : AHeap) (K : Value → AHeap → Prop) (h : T_math_bits_Len64 x H fun (r1 : Int) (H' : AHeap) => K (.int .i64 r1) H') : bodyK Try.prog E_math_bits_Len64 Try.f86 [.int .u64 x] H K := by
  rw [math_bits_Len64_vc]
  have hk := h
  unfold T_math_bits_Len64 at hk
  have e : (p_math_bits_Len64 x) = _ := rfl
  have e := e.trans (p_math_bits_Len64_eq x)
  have g0 := Grow.refl H
  refine Br.intro (fun c_1 => ?_) (fun c_1 => ?_)
  · have e := e.trans (cond_t c_1)
    have c_1' := of_decide_eq_true c_1
    refine ⟨(by first | omega | decide | (simp; done) | (simp; omega)), ?_⟩
    refine Br.intro (fun c_2 => ?_) (fun c_2 => ?_)
    · have e := e.trans (cond_t c_2)
      have c_2' := of_decide_eq_true c_2
      refine ⟨(by first | omega | decide | (simp; done) | (simp; omega)), ?_⟩
      rw [show IntKind.wrap .i64 (32 + 16) = (32 + 16) from wrap64 (by omega) (by omega)]
      refine Br.intro (fun c_3 => ?_) (fun c_3 => ?_)
      · have e := e.trans (cond_t c_3)
        have c_3' := of_decide_eq_true c_3
        refine ⟨(by first | omega | decide | (simp; done) | (simp; omega)), ?_⟩
        have z_4 := wrapu8_rng (Int.fdiv (Int.fdiv (Int.fdiv x (2 ^ (min (32 : Int).toNat (IntKind.bits .u64)))) (2 ^ (min (16 : Int).toNat (IntKind.bits .u64)))) (2 ^ (min (8 : Int).toNat (IntKind.bits .u64))))
        refine ⟨sAt math_bits_Len64_tab (IntKind.wrap .u8 (Int.fdiv (Int.fdiv (Int.fdiv x (2 ^ (min (32 : Int).toNat (IntKind.bits .u64)))) (2 ^ (min (16 : Int).toNat (IntKind.bits .u64)))) (2 ^ (min (8 : Int).toNat (IntKind.bits .u64)))) : Int).toNat, by omega, sAt_some (s := math_bits_Len64_tab) (by rw [math_bits_Len64_tab_size]; omega), ?_⟩
        rw [e] at hk
        exact hk
      · have e := e.trans (cond_f c_3)
        have c_3' := of_decide_eq_false c_3
        have z_5 := wrapu8_rng (Int.fdiv (Int.fdiv x (2 ^ (min (32 : Int).toNat (IntKind.bits .u64)))) (2 ^ (min (16 : Int).toNat (IntKind.bits .u64))))
        refine ⟨sAt math_bits_Len64_tab (IntKind.wrap .u8 (Int.fdiv (Int.fdiv x (2 ^ (min (32 : Int).toNat (IntKind.bits .u64)))) (2 ^ (min (16 : Int).toNat (IntKind.bits .u64)))) : Int).toNat, by omega, sAt_some (s := math_bits_Len64_tab) (by rw [math_bits_Len64_tab_size]; omega), ?_⟩
        rw [e] at hk
        exact hk
    · have e := e.trans (cond_f c_2)
      have c_2' := of_decide_eq_false c_2
      refine Br.intro (fun c_6 => ?_) (fun c_6 => ?_)
      · have e := e.trans (cond_t c_6)
        have c_6' := of_decide_eq_true c_6
        refine ⟨(by first | omega | decide | (simp; done) | (simp; omega)), ?_⟩
        rw [show IntKind.wrap .i64 (32 + 8) = (32 + 8) from wrap64 (by omega) (by omega)]
        have z_7 := wrapu8_rng (Int.fdiv (Int.fdiv x (2 ^ (min (32 : Int).toNat (IntKind.bits .u64)))) (2 ^ (min (8 : Int).toNat (IntKind.bits .u64))))
        refine ⟨sAt math_bits_Len64_tab (IntKind.wrap .u8 (Int.fdiv (Int.fdiv x (2 ^ (min (32 : Int).toNat (IntKind.bits .u64)))) (2 ^ (min (8 : Int).toNat (IntKind.bits .u64)))) : Int).toNat, by omega, sAt_some (s := math_bits_Len64_tab) (by rw [math_bits_Len64_tab_size]; omega), ?_⟩
        rw [e] at hk
        exact hk
      · have e := e.trans (cond_f c_6)
        have c_6' := of_decide_eq_false c_6
        have z_8 := wrapu8_rng (Int.fdiv x (2 ^ (min (32 : Int).toNat (IntKind.bits .u64))))
        refine ⟨sAt math_bits_Len64_tab (IntKind.wrap .u8 (Int.fdiv x (2 ^ (min (32 : Int).toNat (IntKind.bits .u64)))) : Int).toNat, by omega, sAt_some (s := math_bits_Len64_tab) (by rw [math_bits_Len64_tab_size]; omega), ?_⟩
        rw [e] at hk
        exact hk
  · have e := e.trans (cond_f c_1)
    have c_1' := of_decide_eq_false c_1
    refine Br.intro (fun c_9 => ?_) (fun c_9 => ?_)
    · have e := e.trans (cond_t c_9)
      have c_9' := of_decide_eq_true c_9
      refine ⟨(by first | omega | decide | (simp; done) | (simp; omega)), ?_⟩
      rw [show IntKind.wrap .i64 (0 + 16) = (0 + 16) from wrap64 (by omega) (by omega)]
      refine Br.intro (fun c_10 => ?_) (fun c_10 => ?_)
      · have e := e.trans (cond_t c_10)
        have c_10' := of_decide_eq_true c_10
        refine ⟨(by first | omega | decide | (simp; done) | (simp; omega)), ?_⟩
        have z_11 := wrapu8_rng (Int.fdiv (Int.fdiv x (2 ^ (min (16 : Int).toNat (IntKind.bits .u64)))) (2 ^ (min (8 : Int).toNat (IntKind.bits .u64))))
        refine ⟨sAt math_bits_Len64_tab (IntKind.wrap .u8 (Int.fdiv (Int.fdiv x (2 ^ (min (16 : Int).toNat (IntKind.bits .u64)))) (2 ^ (min (8 : Int).toNat (IntKind.bits .u64)))) : Int).toNat, by omega, sAt_some (s := math_bits_Len64_tab) (by rw [math_bits_Len64_tab_size]; omega), ?_⟩
        rw [e] at hk
        exact hk
      · have e := e.trans (cond_f c_10)
        have c_10' := of_decide_eq_false c_10
        have z_12 := wrapu8_rng (Int.fdiv x (2 ^ (min (16 : Int).toNat (IntKind.bits .u64))))
        refine ⟨sAt math_bits_Len64_tab (IntKind.wrap .u8 (Int.fdiv x (2 ^ (min (16 : Int).toNat (IntKind.bits .u64)))) : Int).toNat, by omega, sAt_some (s := math_bits_Len64_tab) (by rw [math_bits_Len64_tab_size]; omega), ?_⟩
        rw [e] at hk
        exact hk
    · have e := e.trans (cond_f c_9)
      have c_9' := of_decide_eq_false c_9
      refine Br.intro (fun c_13 => ?_) (fun c_13 => ?_)
      · have e := e.trans (cond_t c_13)
        have c_13' := of_decide_eq_true c_13
        refine ⟨(by first | omega | decide | (simp; done) | (simp; omega)), ?_⟩
        rw [show IntKind.wrap .i64 (0 + 8) = (0 + 8) from wrap64 (by omega) (by omega)]
        have z_14 := wrapu8_rng (Int.fdiv x (2 ^ (min (8 : Int).toNat (IntKind.bits .u64))))
        refine ⟨sAt math_bits_Len64_tab (IntKind.wrap .u8 (Int.fdiv x (2 ^ (min (8 : Int).toNat (IntKind.bits .u64)))) : Int).toNat, by omega, sAt_some (s := math_bits_Len64_tab) (by rw [math_bits_Len64_tab_size]; omega), ?_⟩
        rw [e] at hk
        exact hk
      · have e := e.trans (cond_f c_13)
        have c_13' := of_decide_eq_false c_13
        have z_15 := wrapu8_rng x
        refine ⟨sAt math_bits_Len64_tab (IntKind.wrap .u8 x : Int).toNat, by omega, sAt_some (s := math_bits_Len64_tab) (by rw [math_bits_Len64_tab_size]; omega), ?_⟩
        rw [e] at hk
        exact hk
theorem math_bits_Len64_ok : FnOk Try.prog 86 S_math_bits_Len64 := by
  refine FnOk.body mix_ok E_math_bits_Len64_ok Try.func86 rfl (by kernel_rfl) (by kernel_rfl) ?_ ?_ ?_ ?_ ?_
  · intro args H K K' h hk
    simp only [S_math_bits_Len64] at *
    unfold F_math_bits_Len64 at *
    split at hk
    · have k := hk
      exact h _ _ k
    · exact hk.elim
  · intro _ args H K hk
    simp only [S_math_bits_Len64] at *
    unfold F_math_bits_Len64 at *
    split at hk
    · have k := hk
      exact ⟨_, k, fun K' k' => k'⟩
    · exact hk.elim
  · intro args H K hk
    simp only [S_math_bits_Len64] at *
    unfold F_math_bits_Len64 at *
    split at hk
    · have k := hk
      exact ⟨_, _, k⟩
    · exact hk.elim
  · intro hq; cases hq
  · have mm := @math_bits_Len64_main
    revert mm
    generalize bodyK Try.prog E_math_bits_Len64 Try.f86 = Q
    intro mm args H K hk
    simp only [S_math_bits_Len64] at *
    unfold F_math_bits_Len64 at *
    split at hk
    · exact mm _ H K hk
    · exact hk.elim
def p_impl_planesFor_l1 (l_list : List Int) : Nat → Int → Int → Int
  | 0, _, _ => 0
  | μ + 1, vmost, t8 => (bif decide ((t8 : Int) < (l_list.length : Int)) then (p_impl_planesFor_l1 l_list μ ((if ((p_impl_far (((l_list).getD (t8 : Int).toNat 0))) : Int) > vmost then (p_impl_far (((l_list).getD (t8 : Int).toNat 0))) else vmost)) (t8 + 1)) else (p_math_bits_Len64 (IntKind.wrap .u64 vmost)))
theorem p_impl_planesFor_l1_s (l_list : List Int) (μ : Nat) (vmost : Int) (t8 : Int) : p_impl_planesFor_l1 l_list (μ + 1) vmost t8 = (bif decide ((t8 : Int) < (l_list.length : Int)) then (p_impl_planesFor_l1 l_list μ ((if ((p_impl_far (((l_list).getD (t8 : Int).toNat 0))) : Int) > vmost then (p_impl_far (((l_list).getD (t8 : Int).toNat 0))) else vmost)) (t8 + 1)) else (p_math_bits_Len64 (IntKind.wrap .u64 vmost))) := rfl
def p_impl_planesFor (l_list : List Int) : Int := (p_impl_planesFor_l1 l_list (Int.toNat ((l_list.length : Int) - (0 : Int)) + 1) (0 : Int) (0 : Int))
theorem p_impl_planesFor_eq (l_list : List Int) : p_impl_planesFor l_list = (p_impl_planesFor_l1 l_list (Int.toNat ((l_list.length : Int) - (0 : Int)) + 1) (0 : Int) (0 : Int)) := rfl
def T_impl_planesFor (list_a : Option Addr) (list_n : Nat) (list_e : Nat) (H : AHeap) (K : Int → AHeap → Prop) : Prop := ∃ (l_list : List Int), IsL fI H list_a list_n l_list ∧ l_list.length < 1073741824 ∧ K (p_impl_planesFor l_list) H
theorem T_impl_planesFor_i {list_a : Option Addr} {list_n : Nat} {list_e : Nat} {H : AHeap} {K : Int → AHeap → Prop} (h : ∃ (l_list : List Int), IsL fI H list_a list_n l_list ∧ l_list.length < 1073741824 ∧ K (p_impl_planesFor l_list) H) : T_impl_planesFor list_a list_n list_e H K := h
theorem tab_le8_chk : ((List.range 256).all fun y => decide ((sAt math_bits_Len64_tab y).toNat ≤ 8)) = true := by decide +kernel
theorem tab_le8 (z : Int) : 0 ≤ IntKind.wrap .i64 ((sAt math_bits_Len64_tab (IntKind.wrap .u8 z : Int).toNat).toNat : Int) ∧ IntKind.wrap .i64 ((sAt math_bits_Len64_tab (IntKind.wrap .u8 z : Int).toNat).toNat : Int) ≤ 8 := by
  have r := wrapu8_rng z
  have := of_decide_eq_true (List.all_eq_true.1 tab_le8_chk (IntKind.wrap .u8 z : Int).toNat (List.mem_range.2 (by omega)))
  rw [wrap64 (by omega) (by omega)]
  omega
theorem sum_le {a b : Int} (h0 : 0 ≤ b) (h1 : b ≤ 56) (h : 0 ≤ a ∧ a ≤ 8) : 0 ≤ IntKind.wrap .i64 (b + a) ∧ IntKind.wrap .i64 (b + a) ≤ 64 := by
  rw [wrap64 (by omega) (by omega)]; omega
theorem bif_rng {c : Bool} {a b : Int} (ha : 0 ≤ a ∧ a ≤ 64) (hb : 0 ≤ b ∧ b ≤ 64) : 0 ≤ (bif c then a else b) ∧ (bif c then a else b) ≤ 64 := by cases c <;> assumption
theorem len_rng (x : Int) : 0 ≤ p_math_bits_Len64 x ∧ p_math_bits_Len64 x ≤ 64 := by
  rw [p_math_bits_Len64_eq]
  have w1 : IntKind.wrap .i64 ((32 + 16) + 8) = 56 := by decide
  have w2 : IntKind.wrap .i64 ((0 + 16) + 8) = 24 := by decide
  rw [w1, w2]
  repeat' first
    | exact sum_le (by decide) (by decide) (tab_le8 _)
    | refine bif_rng ?_ ?_
theorem planesFor_rng1 (l : List Int) : ∀ (μ : Nat) (m i : Int), 0 ≤ p_impl_planesFor_l1 l μ m i ∧ p_impl_planesFor_l1 l μ m i ≤ 64 := by
  intro μ
  induction μ with
  | zero => intro m i; unfold p_impl_planesFor_l1; omega
  | succ μ ih =>
    intro m i
    rw [p_impl_planesFor_l1_s]
    cases decide (i < (l.length : Int)) with
    | true => exact ih _ _
    | false => exact len_rng _
theorem impl_planesFor_rng (l : List Int) : 0 ≤ p_impl_planesFor l ∧ p_impl_planesFor l ≤ 64 := by
  rw [p_impl_planesFor_eq]; exact planesFor_rng1 l _ _ _
/-! impl_planesFor: function 70 -/
def E_impl_planesFor : Env := envOf [(85, S_impl_far), (86, S_math_bits_Len64)]
def F_impl_planesFor : List Value → AHeap → (Value → AHeap → Prop) → Prop
  | [.slice list_a list_n list_e], H, K => T_impl_planesFor list_a list_n list_e H fun (r1 : Int) (H' : AHeap) => K (.int .i64 r1) H'
  | _, _, _ => False
def S_impl_planesFor : FSpec := { F := F_impl_planesFor, quiet := true, tame := false }
theorem impl_planesFor_vc (list_a : Option Addr) (list_n : Nat) (list_e : Nat) (H : AHeap) (K : Value → AHeap → Prop) : bodyK Try.prog E_impl_planesFor Try.f70 [.slice list_a list_n list_e] H K =
  (loopK (exK Try.prog E_impl_planesFor (cl (cl (cr (cl (cr (cr (bodyC Try.f70)))))))) [.slice list_a list_n list_e, undef, .int .i64 0, .int .i64 0, undef, undef, .slice list_a list_n list_e, .int .i64 (list_n : Int), .int .i64 0, undef, undef, undef, undef, undef, undef, undef, undef, undef, undef, undef] H (blockQ 0 (seqQ (exK Try.prog E_impl_planesFor (cr (cr (cr (bodyC Try.f70))))) (retK Try.prog Try.f70 K)))) := by kernel_rfl
theorem impl_planesFor_r1 (list_a : Option Addr) (list_e : Nat) (list_n : Nat) (vmost : Int) (t8 : Int) (g5 g9 g10 g11 g12 g13 g14 g15 g16 : Value) (H : AHeap) (R : Post) : exK Try.prog E_impl_planesFor (cl (cl (cr (cl (cr (cr (bodyC Try.f70))))))) [.slice list_a list_n list_e, undef, .int .i64 0, .int .i64 vmost, undef, g5, .slice list_a list_n list_e, .int .i64 (list_n : Int), .int .i64 t8, g9, g10, g11, g12, g13, g14, g15, g16, undef, undef, undef] H R =
  (Br (decide ((t8 : Int) < (list_n : Int))) ((0 : Int) ≤ t8 ∧ t8 < (list_n : Int) ∧ ∃ b1 f1, (list_a : Option Addr) = some ⟨b1, f1, none⟩ ∧ ∃ x1 : Int,  rdC H b1 (f1 + (t8 : Int).toNat * 1) = some (.int .i64 x1) ∧ T_impl_far x1 H fun (r1 : Int) (H1 : AHeap) => R .normal [.slice list_a list_n list_e, undef, .int .i64 0, .int .i64 ((if (r1 : Int) > vmost then r1 else vmost)), undef, .int .i64 x1, .slice list_a list_n list_e, .int .i64 (list_n : Int), .int .i64 (IntKind.wrap .i64 (t8 + 1)), .bool (decide ((t8 : Int) < (list_n : Int))), .pointer (some ⟨b1, f1 + (t8 : Int).toNat * 1, none⟩), .int .i64 x1, .int .i64 vmost, .int .i64 x1, .int .i64 r1, .int .i64 ((if (r1 : Int) > vmost then r1 else vmost)), .int .i64 (IntKind.wrap .i64 (t8 + 1)), undef, undef, undef] H1) (R (.exit 0) [.slice list_a list_n list_e, undef, .int .i64 0, .int .i64 vmost, undef, g5, .slice list_a list_n list_e, .int .i64 (list_n : Int), .int .i64 t8, .bool (decide ((t8 : Int) < (list_n : Int))), g10, g11, g12, g13, g14, g15, g16, undef, undef, undef] H)) := by kernel_rfl
def impl_planesFor_I1 (list_a : Option Addr) (list_e : Nat) (list_n : Nat) (Inv : Nat → Int → Int → AHeap → Prop) : Nat → List Value → AHeap → Prop := fun μ tm H => ∃ (vmost : Int), ∃ (t8 : Int), ∃ g5 g9 g10 g11 g12 g13 g14 g15 g16, tm = [.slice list_a list_n list_e, undef, .int .i64 0, .int .i64 vmost, undef, g5, .slice list_a list_n list_e, .int .i64 (list_n : Int), .int .i64 t8, g9, g10, g11, g12, g13, g14, g15, g16, undef, undef, undef] ∧ Inv μ vmost t8 H
theorem impl_planesFor_L1 (list_a : Option Addr) (list_e : Nat) (list_n : Nat) {Q : Post} (Inv : Nat → Int → Int → AHeap → Prop) (ν : Nat) (vmost : Int) (t8 : Int) (g5 g9 g10 g11 g12 g13 g14 g15 g16 : Value) (H : AHeap) (h0 : Inv ν vmost t8 H)
    (hs : ∀ (μ : Nat) (vmost : Int) (t8 : Int) (g5 g9 g10 g11 g12 g13 g14 g15 g16 : Value) (H : AHeap), Inv μ vmost t8 H → exK Try.prog E_impl_planesFor (cl (cl (cr (cl (cr (cr (bodyC Try.f70))))))) [.slice list_a list_n list_e, undef, .int .i64 0, .int .i64 vmost, undef, g5, .slice list_a list_n list_e, .int .i64 (list_n : Int), .int .i64 t8, g9, g10, g11, g12, g13, g14, g15, g16, undef, undef, undef] H (loopQ (impl_planesFor_I1 list_a list_e list_n Inv) μ Q)) : loopK (exK Try.prog E_impl_planesFor (cl (cl (cr (cl (cr (cr (bodyC Try.f70)))))))) [.slice list_a list_n list_e, undef, .int .i64 0, .int .i64 vmost, undef, g5, .slice list_a list_n list_e, .int .i64 (list_n : Int), .int .i64 t8, g9, g10, g11, g12, g13, g14, g15, g16, undef, undef, undef] H Q :=
  ⟨impl_planesFor_I1 list_a list_e list_n Inv, ν, ⟨vmost, t8, g5, g9, g10, g11, g12, g13, g14, g15, g16, rfl, h0⟩, fun μ tm H h => by obtain ⟨vmost, t8, g5, g9, g10, g11, g12, g13, g14, g15, g16, rfl, hI⟩ := h; exact hs μ vmost t8 g5 g9 g10 g11 g12 g13 g14 g15 g16 H hI⟩
theorem impl_planesFor_n1 {list_a : Option Addr} {list_e : Nat} {list_n : Nat} {Q : Post} {Inv : Nat → Int → Int → AHeap → Prop} {μ : Nat} (μ' : Nat) {vmost : Int} {t8 : Int} {g5 g9 g10 g11 g12 g13 g14 g15 g16 : Value} {H : AHeap} (hm : μ' < μ) (hI : Inv μ' vmost t8 H) : loopQ (impl_planesFor_I1 list_a list_e list_n Inv) μ Q .normal [.slice list_a list_n list_e, undef, .int .i64 0, .int .i64 vmost, undef, g5, .slice list_a list_n list_e, .int .i64 (list_n : Int), .int .i64 t8, g9, g10, g11, g12, g13, g14, g15, g16, undef, undef, undef] H := ⟨μ', hm, vmost, t8, g5, g9, g10, g11, g12, g13, g14, g15, g16, rfl, hI⟩
theorem impl_planesFor_x1_0 (list_a : Option Addr) (list_e : Nat) (list_n : Nat) (vmost : Int) (t8 : Int) (g5 g9 g10 g11 g12 g13 g14 g15 g16 : Value) (H : AHeap) (K : Value → AHeap → Prop)  {I : Nat → List Value → AHeap → Prop} {μ : Nat} : loopQ I μ (blockQ 0 (seqQ (exK Try.prog E_impl_planesFor (cr (cr (cr (bodyC Try.f70))))) (retK Try.prog Try.f70 K))) (.exit 0) [.slice list_a list_n list_e, undef, .int .i64 0, .int .i64 vmost, undef, g5, .slice list_a list_n list_e, .int .i64 (list_n : Int), .int .i64 t8, g9, g10, g11, g12, g13, g14, g15, g16, undef, undef, undef] H =
  (T_math_bits_Len64 (IntKind.wrap .u64 vmost) H fun (r2 : Int) (H2 : AHeap) => K (.int .i64 r2) H2) := by kernel_rfl
theorem E_impl_planesFor_ok : ∀ g, FnOk Try.prog g (E_impl_planesFor g) := FnOk.envOf (by
  intro x hx
  simp only [List.mem_cons, List.not_mem_nil, or_false] at hx
  rcases hx with rfl | rfl
  · exact impl_far_ok
  · exact math_bits_Len64_ok)
set_option maxHeartbeats 1000000 in
theorem impl_planesFor_main (list_a : Option Addr) (list_n : Nat) (list_e : Nat) (H : AHeap) (K : Value → AHeap → Prop) (h : T_impl_planesFor list_a list_n list_e H fun (r1 : Int) (H' : AHeap) => K (.int .i64 r1) H') : bodyK Try.prog E_impl_planesFor Try.f70 [.slice list_a list_n list_e] H K := by
  rw [impl_planesFor_vc]
  obtain ⟨l_list, i_list, bd_8, hk⟩ := h
  obtain rfl := i_list.eqn
  have e : (p_impl_planesFor l_list) = _ := rfl
  have e := e.trans (p_impl_planesFor_eq l_list)
  have g0 := Grow.refl H
  refine impl_planesFor_L1 _ _ _ (fun (μ : Nat) (vmost : Int) (t8 : Int) (H_1 : AHeap) => H = H_1 ∧ (0 : Int) ≤ t8 ∧ t8 ≤ (l_list.length : Int) ∧ (l_list.length : Int) - t8 ≤ (μ : Int) ∧ p_impl_planesFor l_list = p_impl_planesFor_l1 l_list (μ + 1) vmost t8) (Int.toNat ((l_list.length : Int) - (0 : Int))) _ _ _ _ _ _ _ _ _ _ _ H ?_ ?_
  · exact ⟨rfl, (by first | omega | (simp; done) | (simp; omega)), (by first | omega | (simp; done) | (simp; omega)), (by omega), e⟩
  · intro μ vmost t8 g5 g9 g10 g11 g12 g13 g14 g15 g16 H_1 hI
    obtain ⟨rfl, v_1, v_2, hμ, e⟩ := hI
    rw [impl_planesFor_r1]
    have e := e.trans (p_impl_planesFor_l1_s l_list μ vmost t8)
    have l_3 := g0.1
    refine Br.intro (fun c_4 => ?_) (fun c_4 => ?_)
    · have e := e.trans (cond_t c_4)
      have c_4' := of_decide_eq_true c_4
      obtain ⟨b_5, f_6, q_7⟩ := ((i_list.grow g0)).pos (by first | omega | (simp only [List.length_set, List.length_replicate, List.length_append, List.length_cons, List.length_nil, List.length_take, List.length_drop, marks_length]; done) | (simp only [List.length_set, List.length_replicate, List.length_append, List.length_cons, List.length_nil, List.length_take, List.length_drop, marks_length]; omega))
      refine ⟨by omega, by omega, b_5, f_6, q_7, ?_⟩
      refine ⟨((l_list).getD (t8 : Int).toNat 0), (i_list).rd g0 q_7 (by omega) _, ?_⟩
      refine T_impl_far_i ?_
      rw [show IntKind.wrap .i64 (t8 + 1) = (t8 + 1) from wrap64 (by omega) (by omega)]
      refine impl_planesFor_n1 (μ - 1) (by first | omega) ⟨rfl, (by first | omega | (simp only [List.length_append, List.length_cons, List.length_nil, List.length_set]; done) | (simp only [List.length_append, List.length_cons, List.length_nil, List.length_set]; omega)), (by first | omega | (simp only [List.length_append, List.length_cons, List.length_nil, List.length_set]; done) | (simp only [List.length_append, List.length_cons, List.length_nil, List.length_set]; omega)), (by first | omega), (by rw [show μ - 1 + 1 = μ from by first | omega]; exact e)⟩
    · have e := e.trans (cond_f c_4)
      have c_4' := of_decide_eq_false c_4
      rw [impl_planesFor_x1_0]
      refine T_math_bits_Len64_i ?_
      rw [e] at hk
      exact hk
theorem impl_planesFor_ok : FnOk Try.prog 70 S_impl_planesFor := by
  refine FnOk.body mix_ok E_impl_planesFor_ok Try.func70 rfl (by kernel_rfl) (by kernel_rfl) ?_ ?_ ?_ ?_ ?_
  · intro args H K K' h hk
    simp only [S_impl_planesFor] at *
    unfold F_impl_planesFor at *
    split at hk
    · obtain ⟨l_list, i_list, bd_8, k⟩ := hk
      exact ⟨l_list, i_list, bd_8, h _ _ k⟩
    · exact hk.elim
  · intro _ args H K hk
    simp only [S_impl_planesFor] at *
    unfold F_impl_planesFor at *
    split at hk
    · obtain ⟨l_list, i_list, bd_8, k⟩ := hk
      exact ⟨_, k, fun K' k' => ⟨l_list, i_list, bd_8, k'⟩⟩
    · exact hk.elim
  · intro args H K hk
    simp only [S_impl_planesFor] at *
    unfold F_impl_planesFor at *
    split at hk
    · obtain ⟨l_list, i_list, bd_8, k⟩ := hk
      exact ⟨_, _, k⟩
    · exact hk.elim
  · intro hq; cases hq
  · have mm := @impl_planesFor_main
    revert mm
    generalize bodyK Try.prog E_impl_planesFor Try.f70 = Q
    intro mm args H K hk
    simp only [S_impl_planesFor] at *
    unfold F_impl_planesFor at *
    split at hk
    · exact mm _ _ _ H K hk
    · exact hk.elim
def p_impl_digit (n : Int) (plane : Int) : Bool := ((IntKind.wrap .i64 (((BitVec.ofInt (IntKind.bits .i64) (Int.fdiv (p_impl_far n) (2 ^ (min (plane : Int).toNat (IntKind.bits .i64)))) &&& BitVec.ofInt (IntKind.bits .i64) 1).toNat : Int)) : Int) == 1)
theorem p_impl_digit_eq (n : Int) (plane : Int) : p_impl_digit n plane = ((IntKind.wrap .i64 (((BitVec.ofInt (IntKind.bits .i64) (Int.fdiv (p_impl_far n) (2 ^ (min (plane : Int).toNat (IntKind.bits .i64)))) &&& BitVec.ofInt (IntKind.bits .i64) 1).toNat : Int)) : Int) == 1) := rfl
def T_impl_digit (n : Int) (plane : Int) (H : AHeap) (K : Bool → AHeap → Prop) : Prop := 0 ≤ plane ∧ K (p_impl_digit n plane) H
theorem T_impl_digit_i {n : Int} {plane : Int} {H : AHeap} {K : Bool → AHeap → Prop} (h : 0 ≤ plane ∧ K (p_impl_digit n plane) H) : T_impl_digit n plane H K := h

/-! impl_digit: function 72 -/
def E_impl_digit : Env := envOf [(85, S_impl_far)]
def F_impl_digit : List Value → AHeap → (Value → AHeap → Prop) → Prop
  | [.int .i64 n, .int .i64 plane], H, K => T_impl_digit n plane H fun (r1 : Bool) (H' : AHeap) => K (.bool r1) H'
  | _, _, _ => False
def S_impl_digit : FSpec := { F := F_impl_digit, quiet := true, tame := false }
theorem impl_digit_vc (n : Int) (plane : Int) (H : AHeap) (K : Value → AHeap → Prop) : bodyK Try.prog E_impl_digit Try.f72 [.int .i64 n, .int .i64 plane] H K =
  (T_impl_far n H fun (r1 : Int) (H1 : AHeap) => (0 : Int) ≤ plane ∧ K (.bool ((IntKind.wrap .i64 (((BitVec.ofInt (IntKind.bits .i64) (Int.fdiv r1 (2 ^ (min (plane : Int).toNat (IntKind.bits .i64)))) &&& BitVec.ofInt (IntKind.bits .i64) 1).toNat : Int)) : Int) == 1)) H1) := by kernel_rfl
theorem E_impl_digit_ok : ∀ g, FnOk Try.prog g (E_impl_digit g) := FnOk.envOf (by
  intro x hx
  simp only [List.mem_cons, List.not_mem_nil, or_false] at hx
  subst hx; exact impl_far_ok)
set_option maxHeartbeats 1000000 in
theorem impl_digit_main (n : Int) (plane : Int) (H : AHeap) (K : Value → AHeap → Prop) (h : T_impl_digit n plane H fun (r1 : Bool) (H' : AHeap) => K (.bool r1) H') : bodyK Try.prog E_impl_digit Try.f72 [.int .i64 n, .int .i64 plane] H K := by
  rw [impl_digit_vc]
  obtain ⟨pr0, hk⟩ := h
  have e : (p_impl_digit n plane) = _ := rfl
  have e := e.trans (p_impl_digit_eq n plane)
  have g0 := Grow.refl H
  refine T_impl_far_i ?_
  refine ⟨(by first | omega | decide | (simp; done) | (simp; omega)), ?_⟩
  rw [e] at hk
  exact hk
theorem impl_digit_ok : FnOk Try.prog 72 S_impl_digit := by
  refine FnOk.body mix_ok E_impl_digit_ok Try.func72 rfl (by kernel_rfl) (by kernel_rfl) ?_ ?_ ?_ ?_ ?_
  · intro args H K K' h hk
    simp only [S_impl_digit] at *
    unfold F_impl_digit at *
    split at hk
    · obtain ⟨pr0, k⟩ := hk
      exact ⟨pr0, h _ _ k⟩
    · exact hk.elim
  · intro _ args H K hk
    simp only [S_impl_digit] at *
    unfold F_impl_digit at *
    split at hk
    · obtain ⟨pr0, k⟩ := hk
      exact ⟨_, k, fun K' k' => ⟨pr0, k'⟩⟩
    · exact hk.elim
  · intro args H K hk
    simp only [S_impl_digit] at *
    unfold F_impl_digit at *
    split at hk
    · obtain ⟨pr0, k⟩ := hk
      exact ⟨_, _, k⟩
    · exact hk.elim
  · intro hq; cases hq
  · have mm := @impl_digit_main
    revert mm
    generalize bodyK Try.prog E_impl_digit Try.f72 = Q
    intro mm args H K hk
    simp only [S_impl_digit] at *
    unfold F_impl_digit at *
    split at hk
    · exact mm _ _ H K hk
    · exact hk.elim
end Go.Proofs.Ytfofkmlohmodeaa.Ai
