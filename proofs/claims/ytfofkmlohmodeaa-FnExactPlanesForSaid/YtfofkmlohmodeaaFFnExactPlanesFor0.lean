/- What functions of the program come to on the abstract machine, and that they do so; printed by a program of mine around proofs of mine. -/
import Derived.Test.YtfofkmlohmodeaaProg
import Derived.Test.YtfofkmlohmodeaaLibA
import Derived.Test.YtfofkmlohmodeaaOpen
import Derived.Test.YtfofkmlohmodeaaLibB
import Derived.Test.YtfofkmlohmodeaaFl
import Derived.Test.YtfofkmlohmodeaaExt
import Derived.Test.YtfofkmlohmodeaaFm
import Derived.Test.YtfofkmlohmodeaaFb
set_option linter.unusedVariables false
set_option linter.unusedSimpArgs false
set_option maxRecDepth 100000
namespace Go.Proofs.Ytfofkmlohmodeaa.Ai
open Go
attribute [local irreducible] bodyK
theorem mix_ok : Try.prog.follows .mixedOrders = true := by kernel_rfl
def p_laws_toInt64S_l1 (l_a : List Int) : Nat → Int → (List Int) → (List Int)
  | 0, _, _ => []
  | μ + 1, i, y1_1 => (bif decide ((i : Int) < (l_a.length : Int)) then (p_laws_toInt64S_l1 l_a μ (i + 1) (((y1_1).set (i : Int).toNat ((((l_a).getD (i : Int).toNat 0) : Int))))) else y1_1)
theorem p_laws_toInt64S_l1_s (l_a : List Int) (μ : Nat) (i : Int) (y1_1 : List Int) : p_laws_toInt64S_l1 l_a (μ + 1) i y1_1 = (bif decide ((i : Int) < (l_a.length : Int)) then (p_laws_toInt64S_l1 l_a μ (i + 1) (((y1_1).set (i : Int).toNat ((((l_a).getD (i : Int).toNat 0) : Int))))) else y1_1) := rfl
def p_laws_toInt64S (l_a : List Int) : (List Int) := (p_laws_toInt64S_l1 l_a (Int.toNat ((l_a.length : Int) - (0 : Int)) + 1) (0 : Int) (List.replicate (((l_a.length : Int)).toNat) 0))
theorem p_laws_toInt64S_eq (l_a : List Int) : p_laws_toInt64S l_a = (p_laws_toInt64S_l1 l_a (Int.toNat ((l_a.length : Int) - (0 : Int)) + 1) (0 : Int) (List.replicate (((l_a.length : Int)).toNat) 0)) := rfl
def T_laws_toInt64S (a_a : Option Addr) (a_n : Nat) (a_e : Nat) (H : AHeap) (K : (Option Addr) → Nat → Nat → AHeap → Prop) : Prop := ∃ (l_a : List Int), IsL fI H a_a a_n l_a ∧ l_a.length < 1073741824 ∧ ((∀ (r1_a : Option Addr) (r1_n r1_e : Nat), ∀ H' : AHeap, Grow H H' → OwnS fI H' H.length r1_a r1_n r1_e l_a → K r1_a r1_n r1_e H'))
theorem T_laws_toInt64S_i {a_a : Option Addr} {a_n : Nat} {a_e : Nat} {H : AHeap} {K : (Option Addr) → Nat → Nat → AHeap → Prop} (h : ∃ (l_a : List Int), IsL fI H a_a a_n l_a ∧ l_a.length < 1073741824 ∧ ((∀ (r1_a : Option Addr) (r1_n r1_e : Nat), ∀ H' : AHeap, Grow H H' → OwnS fI H' H.length r1_a r1_n r1_e l_a → K r1_a r1_n r1_e H'))) : T_laws_toInt64S a_a a_n a_e H K := h
theorem laws_toInt64S_go (l : List Int) : ∀ (μ : Nat) (i : Nat) (ys : List Int), ys.length = l.length → i ≤ l.length → l.length - i < μ →
    p_laws_toInt64S_l1 l μ (i : Int) (l.take i ++ ys.drop i) = l := by
  intro μ
  induction μ with
  | zero => intro i ys _ _ h; omega
  | succ μ ih =>
    intro i ys hy hi hm
    rw [p_laws_toInt64S_l1_s]
    by_cases h : i < l.length
    · rw [decide_eq_true (show (i : Int) < (l.length : Int) by omega), cond_true]
      have hx : l[i]? = some (l.getD i 0) := by rw [List.getD_eq_getElem?_getD, List.getElem?_eq_getElem h]; rfl
      rw [Int.toNat_natCast, set_front l ys i (by omega) hy.symm _ hx]
      exact ih (i + 1) ys hy (by omega) (by omega)
    · rw [decide_eq_false (show ¬ (i : Int) < (l.length : Int) by omega), cond_false]
      rw [List.take_of_length_le (by omega), List.drop_eq_nil_of_le (by omega), List.append_nil]
theorem laws_toInt64S_id (l : List Int) : p_laws_toInt64S l = l := by
  rw [p_laws_toInt64S_eq]
  have := laws_toInt64S_go l (Int.toNat ((l.length : Int) - 0) + 1) 0 (List.replicate ((l.length : Int)).toNat 0) (by simp) (by omega) (by omega)
  simpa using this
/-! laws_toInt64S: function 33 -/
def E_laws_toInt64S : Env := envOf []
def F_laws_toInt64S : List Value → AHeap → (Value → AHeap → Prop) → Prop
  | [.slice a_a a_n a_e], H, K => T_laws_toInt64S a_a a_n a_e H fun (r1_a : Option Addr) (r1_n : Nat) (r1_e : Nat) (H' : AHeap) => K (.slice r1_a r1_n r1_e) H'
  | _, _, _ => False
def S_laws_toInt64S : FSpec := { F := F_laws_toInt64S, quiet := false, tame := true }
theorem laws_toInt64S_vc (a_a : Option Addr) (a_n : Nat) (a_e : Nat) (H : AHeap) (K : Value → AHeap → Prop) : bodyK Try.prog E_laws_toInt64S Try.f33 [.slice a_a a_n a_e] H K =
  ((0 : Int) ≤ (a_n : Int) ∧ (a_n : Int) = (a_n : Int) ∧ (a_n : Int) < (most : Int) ∧ Al (zerosOf (.int .i64 0) ((a_n : Int)).toNat) H fun b1 H1 => loopK (exK Try.prog E_laws_toInt64S (cl (cl (cr (cl (cr (cr (bodyC Try.f33)))))))) [.slice a_a a_n a_e, undef, .slice none 0 0, .slice (some ⟨b1, 0, none⟩) (((a_n : Int)).toNat) 1, .int .i64 0, .slice a_a a_n a_e, .int .i64 (a_n : Int), .slice (some ⟨b1, 0, none⟩) (((a_n : Int)).toNat) 1, undef, undef, undef, undef, undef, undef, undef, undef, undef, undef, undef, undef, undef, undef] H1 (blockQ 0 (seqQ (exK Try.prog E_laws_toInt64S (cr (cr (cr (bodyC Try.f33))))) (retK Try.prog Try.f33 K)))) := by kernel_rfl
theorem laws_toInt64S_r1 (a_a : Option Addr) (a_e : Nat) (a_n : Nat) (b1 : Nat) (i : Int) (g8 g9 g10 g11 g12 g13 g14 g15 g16 g17 g18 g19 g20 : Value) (H : AHeap) (R : Post) : exK Try.prog E_laws_toInt64S (cl (cl (cr (cl (cr (cr (bodyC Try.f33))))))) [.slice a_a a_n a_e, undef, .slice none 0 0, .slice (some ⟨b1, 0, none⟩) (((a_n : Int)).toNat) 1, .int .i64 i, .slice a_a a_n a_e, .int .i64 (a_n : Int), .slice (some ⟨b1, 0, none⟩) (((a_n : Int)).toNat) 1, g8, g9, g10, g11, g12, g13, g14, g15, g16, g17, g18, g19, g20, undef] H R =
  (Br (decide ((i : Int) < (a_n : Int))) ((0 : Int) ≤ i ∧ i < (a_n : Int) ∧ ∃ b2 f1, (a_a : Option Addr) = some ⟨b2, f1, none⟩ ∧ ∃ x1 : Int,  rdC H b2 (f1 + (i : Int).toNat * 1) = some (.int .i64 x1) ∧ (0 : Int) ≤ i ∧ i < (((a_n : Int)).toNat : Int) ∧ ∃ b3 f2, (some ⟨b1, 0, none⟩ : Option Addr) = some ⟨b3, f2, none⟩ ∧ isOwn H b3 ∧ (∃ l, rdN H b3 (f2 + (i : Int).toNat * 1) 1 = some l) ∧ Lt (setC H b3 (f2 + (i : Int).toNat * 1) (.int .i64 x1)) fun H2 => R .normal [.slice a_a a_n a_e, undef, .slice none 0 0, .slice (some ⟨b1, 0, none⟩) (((a_n : Int)).toNat) 1, .int .i64 (IntKind.wrap .i64 (i + 1)), .slice a_a a_n a_e, .int .i64 (a_n : Int), .slice (some ⟨b1, 0, none⟩) (((a_n : Int)).toNat) 1, .int .i64 i, .slice a_a a_n a_e, .int .i64 (a_n : Int), .bool (decide ((i : Int) < (a_n : Int))), .int .i64 i, .int .i64 (IntKind.wrap .i64 (i + 1)), .slice (some ⟨b1, 0, none⟩) (((a_n : Int)).toNat) 1, .int .i64 i, .slice a_a a_n a_e, .int .i64 i, .pointer (some ⟨b2, f1 + (i : Int).toNat * 1, none⟩), .int .i64 x1, .pointer (some ⟨b3, f2 + (i : Int).toNat * 1, none⟩), undef] H2) (R (.exit 0) [.slice a_a a_n a_e, undef, .slice none 0 0, .slice (some ⟨b1, 0, none⟩) (((a_n : Int)).toNat) 1, .int .i64 i, .slice a_a a_n a_e, .int .i64 (a_n : Int), .slice (some ⟨b1, 0, none⟩) (((a_n : Int)).toNat) 1, .int .i64 i, .slice a_a a_n a_e, .int .i64 (a_n : Int), .bool (decide ((i : Int) < (a_n : Int))), g12, g13, g14, g15, g16, g17, g18, g19, g20, undef] H)) := by kernel_rfl
def laws_toInt64S_I1 (a_a : Option Addr) (a_e : Nat) (a_n : Nat) (b1 : Nat) (Inv : Nat → Int → AHeap → Prop) : Nat → List Value → AHeap → Prop := fun μ tm H => ∃ (i : Int), ∃ g8 g9 g10 g11 g12 g13 g14 g15 g16 g17 g18 g19 g20, tm = [.slice a_a a_n a_e, undef, .slice none 0 0, .slice (some ⟨b1, 0, none⟩) (((a_n : Int)).toNat) 1, .int .i64 i, .slice a_a a_n a_e, .int .i64 (a_n : Int), .slice (some ⟨b1, 0, none⟩) (((a_n : Int)).toNat) 1, g8, g9, g10, g11, g12, g13, g14, g15, g16, g17, g18, g19, g20, undef] ∧ Inv μ i H
theorem laws_toInt64S_L1 (a_a : Option Addr) (a_e : Nat) (a_n : Nat) (b1 : Nat) {Q : Post} (Inv : Nat → Int → AHeap → Prop) (ν : Nat) (i : Int) (g8 g9 g10 g11 g12 g13 g14 g15 g16 g17 g18 g19 g20 : Value) (H : AHeap) (h0 : Inv ν i H)
    (hs : ∀ (μ : Nat) (i : Int) (g8 g9 g10 g11 g12 g13 g14 g15 g16 g17 g18 g19 g20 : Value) (H : AHeap), Inv μ i H → exK Try.prog E_laws_toInt64S (cl (cl (cr (cl (cr (cr (bodyC Try.f33))))))) [.slice a_a a_n a_e, undef, .slice none 0 0, .slice (some ⟨b1, 0, none⟩) (((a_n : Int)).toNat) 1, .int .i64 i, .slice a_a a_n a_e, .int .i64 (a_n : Int), .slice (some ⟨b1, 0, none⟩) (((a_n : Int)).toNat) 1, g8, g9, g10, g11, g12, g13, g14, g15, g16, g17, g18, g19, g20, undef] H (loopQ (laws_toInt64S_I1 a_a a_e a_n b1 Inv) μ Q)) : loopK (exK Try.prog E_laws_toInt64S (cl (cl (cr (cl (cr (cr (bodyC Try.f33)))))))) [.slice a_a a_n a_e, undef, .slice none 0 0, .slice (some ⟨b1, 0, none⟩) (((a_n : Int)).toNat) 1, .int .i64 i, .slice a_a a_n a_e, .int .i64 (a_n : Int), .slice (some ⟨b1, 0, none⟩) (((a_n : Int)).toNat) 1, g8, g9, g10, g11, g12, g13, g14, g15, g16, g17, g18, g19, g20, undef] H Q :=
  ⟨laws_toInt64S_I1 a_a a_e a_n b1 Inv, ν, ⟨i, g8, g9, g10, g11, g12, g13, g14, g15, g16, g17, g18, g19, g20, rfl, h0⟩, fun μ tm H h => by obtain ⟨i, g8, g9, g10, g11, g12, g13, g14, g15, g16, g17, g18, g19, g20, rfl, hI⟩ := h; exact hs μ i g8 g9 g10 g11 g12 g13 g14 g15 g16 g17 g18 g19 g20 H hI⟩
theorem laws_toInt64S_n1 {a_a : Option Addr} {a_e : Nat} {a_n : Nat} {b1 : Nat} {Q : Post} {Inv : Nat → Int → AHeap → Prop} {μ : Nat} (μ' : Nat) {i : Int} {g8 g9 g10 g11 g12 g13 g14 g15 g16 g17 g18 g19 g20 : Value} {H : AHeap} (hm : μ' < μ) (hI : Inv μ' i H) : loopQ (laws_toInt64S_I1 a_a a_e a_n b1 Inv) μ Q .normal [.slice a_a a_n a_e, undef, .slice none 0 0, .slice (some ⟨b1, 0, none⟩) (((a_n : Int)).toNat) 1, .int .i64 i, .slice a_a a_n a_e, .int .i64 (a_n : Int), .slice (some ⟨b1, 0, none⟩) (((a_n : Int)).toNat) 1, g8, g9, g10, g11, g12, g13, g14, g15, g16, g17, g18, g19, g20, undef] H := ⟨μ', hm, i, g8, g9, g10, g11, g12, g13, g14, g15, g16, g17, g18, g19, g20, rfl, hI⟩
theorem laws_toInt64S_x1_0 (a_a : Option Addr) (a_e : Nat) (a_n : Nat) (b1 : Nat) (i : Int) (g8 g9 g10 g11 g12 g13 g14 g15 g16 g17 g18 g19 g20 : Value) (H : AHeap) (K : Value → AHeap → Prop)  {I : Nat → List Value → AHeap → Prop} {μ : Nat} : loopQ I μ (blockQ 0 (seqQ (exK Try.prog E_laws_toInt64S (cr (cr (cr (bodyC Try.f33))))) (retK Try.prog Try.f33 K))) (.exit 0) [.slice a_a a_n a_e, undef, .slice none 0 0, .slice (some ⟨b1, 0, none⟩) (((a_n : Int)).toNat) 1, .int .i64 i, .slice a_a a_n a_e, .int .i64 (a_n : Int), .slice (some ⟨b1, 0, none⟩) (((a_n : Int)).toNat) 1, g8, g9, g10, g11, g12, g13, g14, g15, g16, g17, g18, g19, g20, undef] H =
  (K (.slice (some ⟨b1, 0, none⟩) (((a_n : Int)).toNat) 1) H) := by kernel_rfl
theorem E_laws_toInt64S_ok : ∀ g, FnOk Try.prog g (E_laws_toInt64S g) := FnOk.envOf (by
  intro x hx; cases hx)
set_option maxHeartbeats 1000000 in
theorem laws_toInt64S_main (a_a : Option Addr) (a_n : Nat) (a_e : Nat) (H : AHeap) (K : Value → AHeap → Prop) (h : T_laws_toInt64S a_a a_n a_e H fun (r1_a : Option Addr) (r1_n : Nat) (r1_e : Nat) (H' : AHeap) => K (.slice r1_a r1_n r1_e) H') : bodyK Try.prog E_laws_toInt64S Try.f33 [.slice a_a a_n a_e] H K := by
  rw [laws_toInt64S_vc]
  obtain ⟨l_a, i_a, bd_29, hk⟩ := h
  have hk : (∀ (r1_a : Option Addr) (r1_n r1_e : Nat), ∀ H' : AHeap, Grow H H' → OwnS fI H' H.length r1_a r1_n r1_e (p_laws_toInt64S l_a) → (fun (r1_a : Option Addr) (r1_n : Nat) (r1_e : Nat) (H' : AHeap) => K (.slice r1_a r1_n r1_e) H') r1_a r1_n r1_e H') := by rw [laws_toInt64S_id l_a]; exact hk
  obtain rfl := i_a.eqn
  have e : (p_laws_toInt64S l_a) = _ := rfl
  have e := e.trans (p_laws_toInt64S_eq l_a)
  have g0 := Grow.refl H
  refine ⟨by omega, rfl, (by have := most_eq; omega), ?_⟩
  refine Al.intro (fun b_1 H_1 hb_2 hl_3 g_4 o_5 => ?_)
  rw [zeros_map fI 0 _ rfl] at o_5
  have l_7 := g_4.1
  have g_8 := g0.trans g_4
  have l_9 := g_8.1
  have w_28 := o_5.lt
  refine laws_toInt64S_L1 _ _ _ _ (fun (μ : Nat) (i : Int) (H_2 : AHeap) => ∃ (y1_1 : List Int), Own H_2 b_1 (y1_1.map fI) ∧ y1_1.length = ((l_a.length : Int)).toNat ∧ Grow H H_2 ∧ (0 : Int) ≤ i ∧ i ≤ (l_a.length : Int) ∧ (l_a.length : Int) - i ≤ (μ : Int) ∧ p_laws_toInt64S l_a = p_laws_toInt64S_l1 l_a (μ + 1) i y1_1) (Int.toNat ((l_a.length : Int) - (0 : Int))) _ _ _ _ _ _ _ _ _ _ _ _ _ _ H_1 ?_ ?_
  · exact ⟨_, o_5, (by first | rfl | (simp; done)), g_8, (by first | omega | (simp; done) | (simp; omega)), (by first | omega | (simp; done) | (simp; omega)), (by omega), e⟩
  · intro μ i g8 g9 g10 g11 g12 g13 g14 g15 g16 g17 g18 g19 g20 H_2 hI
    obtain ⟨y1_1, o_10, y_11, g_12, v_13, v_14, hμ, e⟩ := hI
    rw [laws_toInt64S_r1]
    have e := e.trans (p_laws_toInt64S_l1_s l_a μ i y1_1)
    have w_15 := o_10.lt
    have l_16 := g_12.1
    refine Br.intro (fun c_17 => ?_) (fun c_17 => ?_)
    · have e := e.trans (cond_t c_17)
      have c_17' := of_decide_eq_true c_17
      obtain ⟨b_18, f_19, q_20⟩ := ((i_a.grow g_12)).pos (by first | omega | (simp only [List.length_set, List.length_replicate, List.length_append, List.length_cons, List.length_nil, List.length_take, List.length_drop, marks_length]; done) | (simp only [List.length_set, List.length_replicate, List.length_append, List.length_cons, List.length_nil, List.length_take, List.length_drop, marks_length]; omega))
      refine ⟨by omega, by omega, b_18, f_19, q_20, ?_⟩
      refine ⟨((l_a).getD (i : Int).toNat 0), (i_a).rd g_12 q_20 (by omega) _, ?_⟩
      refine ⟨by omega, (by omega), _, _, rfl, ?_⟩
      refine Lt.set o_10 (by simp only [List.length_map]; (first | omega | (simp only [List.length_set, List.length_replicate, List.length_append, List.length_cons, List.length_nil, List.length_take, List.length_drop, marks_length]; done) | (simp only [List.length_set, List.length_replicate, List.length_append, List.length_cons, List.length_nil, List.length_take, List.length_drop, marks_length]; omega))) (fun H_3 hl_21 o_23 k_22 => ?_)
      have o_23 := map_set o_23
      have l_24 := k_22.1
      have g_25 := g_12.keep (b := b_1) (by omega) k_22
      have l_26 := g_25.1
      have w_27 := o_23.lt
      rw [show IntKind.wrap .i64 (i + 1) = (i + 1) from wrap64 (by omega) (by omega)]
      refine laws_toInt64S_n1 (μ - 1) (by first | omega) ⟨_, o_23, (by first | assumption | omega | (simp only [List.length_set]; first | rfl | assumption | omega)), g_25, (by first | omega | (simp only [List.length_append, List.length_cons, List.length_nil, List.length_set]; done) | (simp only [List.length_append, List.length_cons, List.length_nil, List.length_set]; omega)), (by first | omega | (simp only [List.length_append, List.length_cons, List.length_nil, List.length_set]; done) | (simp only [List.length_append, List.length_cons, List.length_nil, List.length_set]; omega)), (by first | omega), (by rw [show μ - 1 + 1 = μ from by first | omega]; exact e)⟩
    · have e := e.trans (cond_f c_17)
      have c_17' := of_decide_eq_false c_17
      rw [laws_toInt64S_x1_0]
      rw [e] at hk
      exact hk _ _ _ H_2 g_12 (o_10.ownS (by first | (simp only [List.length_replicate]; done) | omega | (simp; omega)) (by omega))
theorem laws_toInt64S_ok : FnOk Try.prog 33 S_laws_toInt64S := by
  refine FnOk.body mix_ok E_laws_toInt64S_ok Try.func33 rfl (by kernel_rfl) (by kernel_rfl) ?_ ?_ ?_ ?_ ?_
  · intro args H K K' h hk
    simp only [S_laws_toInt64S] at *
    unfold F_laws_toInt64S at *
    split at hk
    · obtain ⟨l_a, i_a, bd_29, k⟩ := hk
      exact ⟨l_a, i_a, bd_29, (fun r1_a r1_n r1_e H' gg ow0 => h _ _ (k r1_a r1_n r1_e H' gg ow0))⟩
    · exact hk.elim
  · intro hq; cases hq
  · intro args H K hk
    simp only [S_laws_toInt64S] at *
    unfold F_laws_toInt64S at *
    split at hk
    · obtain ⟨l_a, i_a, bd_29, k⟩ := hk
      exact liveS fun a n e H1 g o => ⟨_, _, k a n e H1 g o⟩
    · exact hk.elim
  · intro _ args H K hk
    simp only [S_laws_toInt64S] at *
    unfold F_laws_toInt64S at *
    split at hk
    · obtain ⟨l_a, i_a, bd_29, k⟩ := hk
      exact ⟨l_a, i_a, bd_29, (fun r1_a r1_n r1_e H' gg ow0 => ⟨gg, k r1_a r1_n r1_e H' gg ow0⟩)⟩
    · exact hk.elim
  · have mm := @laws_toInt64S_main
    revert mm
    generalize bodyK Try.prog E_laws_toInt64S Try.f33 = Q
    intro mm args H K hk
    simp only [S_laws_toInt64S] at *
    unfold F_laws_toInt64S at *
    split at hk
    · exact mm _ _ _ H K hk
    · exact hk.elim
def p_spec_l00In (n : Int) (low : Int) (high : Int) : Bool := (bif decide ((low : Int) ≤ n) then decide ((n : Int) ≤ high) else false)
theorem p_spec_l00In_eq (n : Int) (low : Int) (high : Int) : p_spec_l00In n low high = (bif decide ((low : Int) ≤ n) then decide ((n : Int) ≤ high) else false) := rfl
def T_spec_l00In (n : Int) (low : Int) (high : Int) (H : AHeap) (K : Bool → AHeap → Prop) : Prop := K (p_spec_l00In n low high) H
theorem spec_l00In_t {n a b : Int} (h : p_spec_l00In n a b = true) : a ≤ n ∧ n ≤ b := by
  unfold p_spec_l00In at h
  by_cases h1 : a ≤ n
  · rw [decide_eq_true h1, cond_true] at h; exact ⟨h1, of_decide_eq_true h⟩
  · rw [decide_eq_false h1] at h; cases h
theorem T_spec_l00In_i {n : Int} {low : Int} {high : Int} {H : AHeap} {K : Bool → AHeap → Prop} (h : K (p_spec_l00In n low high) H) : T_spec_l00In n low high H K := h
/-! spec_l00In: function 51 -/
def E_spec_l00In : Env := envOf []
def F_spec_l00In : List Value → AHeap → (Value → AHeap → Prop) → Prop
  | [.int .i64 n, .int .i64 low, .int .i64 high], H, K => T_spec_l00In n low high H fun (r1 : Bool) (H' : AHeap) => K (.bool r1) H'
  | _, _, _ => False
def S_spec_l00In : FSpec := { F := F_spec_l00In, quiet := true, tame := false }
theorem spec_l00In_vc (n : Int) (low : Int) (high : Int) (H : AHeap) (K : Value → AHeap → Prop) : bodyK Try.prog E_spec_l00In Try.f51 [.int .i64 n, .int .i64 low, .int .i64 high] H K =
  (Br (decide ((low : Int) ≤ n)) (K (.bool (decide ((n : Int) ≤ high))) H) (K (.bool false) H)) := by kernel_rfl
theorem E_spec_l00In_ok : ∀ g, FnOk Try.prog g (E_spec_l00In g) := FnOk.envOf (by
  intro x hx; cases hx)
set_option maxHeartbeats 1000000 in
theorem spec_l00In_main (n : Int) (low : Int) (high : Int) (H : AHeap) (K : Value → AHeap → Prop) (h : T_spec_l00In n low high H fun (r1 : Bool) (H' : AHeap) => K (.bool r1) H') : bodyK Try.prog E_spec_l00In Try.f51 [.int .i64 n, .int .i64 low, .int .i64 high] H K := by
  rw [spec_l00In_vc]
  unfold T_spec_l00In p_spec_l00In at h
  repeat' (first | exact h | (exfalso; simp_all; done) | (refine ⟨by decide, ?_⟩) | (refine Br.intro (fun hb => ?_) (fun hb => ?_) <;> (try simp only [hb, cond_true, cond_false, Bool.not_true, Bool.not_false] at h)))
theorem spec_l00In_ok : FnOk Try.prog 51 S_spec_l00In := by
  refine FnOk.body mix_ok E_spec_l00In_ok Try.func51 rfl (by kernel_rfl) (by kernel_rfl) ?_ ?_ ?_ ?_ ?_
  · intro args H K K' h hk
    simp only [S_spec_l00In] at *
    unfold F_spec_l00In at *
    split at hk
    · have k := hk
      exact h _ _ k
    · exact hk.elim
  · intro _ args H K hk
    simp only [S_spec_l00In] at *
    unfold F_spec_l00In at *
    split at hk
    · have k := hk
      exact ⟨_, k, fun K' k' => k'⟩
    · exact hk.elim
  · intro args H K hk
    simp only [S_spec_l00In] at *
    unfold F_spec_l00In at *
    split at hk
    · have k := hk
      exact ⟨_, _, k⟩
    · exact hk.elim
  · intro hq; cases hq
  · have mm := @spec_l00In_main
    revert mm
    generalize bodyK Try.prog E_spec_l00In Try.f51 = Q
    intro mm args H K hk
    simp only [S_spec_l00In] at *
    unfold F_spec_l00In at *
    split at hk
    · exact mm _ _ _ H K hk
    · exact hk.elim
def p_spec_l02Bound_l1 (l_list : List Int) (vmost : Int) : Nat → Bool → Int → Bool
  | 0, _, _ => false
  | μ + 1, t4, i => (bif decide ((i : Int) < (l_list.length : Int)) then (bif !((p_spec_l00In (((l_list).getD (i : Int).toNat 0)) (IntKind.wrap .i64 (0 - vmost)) vmost)) then false else (p_spec_l02Bound_l1 l_list vmost μ t4 (i + 1))) else true)
theorem p_spec_l02Bound_l1_s (l_list : List Int) (vmost : Int) (μ : Nat) (t4 : Bool) (i : Int) : p_spec_l02Bound_l1 l_list vmost (μ + 1) t4 i = (bif decide ((i : Int) < (l_list.length : Int)) then (bif !((p_spec_l00In (((l_list).getD (i : Int).toNat 0)) (IntKind.wrap .i64 (0 - vmost)) vmost)) then false else (p_spec_l02Bound_l1 l_list vmost μ t4 (i + 1))) else true) := rfl
def p_spec_l02Bound (l_list : List Int) (vmost : Int) : Bool := (p_spec_l02Bound_l1 l_list vmost (Int.toNat ((l_list.length : Int) - (0 : Int)) + 1) false (0 : Int))
theorem p_spec_l02Bound_eq (l_list : List Int) (vmost : Int) : p_spec_l02Bound l_list vmost = (p_spec_l02Bound_l1 l_list vmost (Int.toNat ((l_list.length : Int) - (0 : Int)) + 1) false (0 : Int)) := rfl
def T_spec_l02Bound (list_a : Option Addr) (list_n : Nat) (list_e : Nat) (vmost : Int) (H : AHeap) (K : Bool → AHeap → Prop) : Prop := ∃ (l_list : List Int), IsL fI H list_a list_n l_list ∧ l_list.length < 1073741824 ∧ K (p_spec_l02Bound l_list vmost) H
theorem T_spec_l02Bound_i {list_a : Option Addr} {list_n : Nat} {list_e : Nat} {vmost : Int} {H : AHeap} {K : Bool → AHeap → Prop} (h : ∃ (l_list : List Int), IsL fI H list_a list_n l_list ∧ l_list.length < 1073741824 ∧ K (p_spec_l02Bound l_list vmost) H) : T_spec_l02Bound list_a list_n list_e vmost H K := h
theorem spec_bound_go (l : List Int) (v : Int) (h0 : 0 ≤ v) (h1 : v ≤ 1000000) : ∀ (μ : Nat) (t : Bool) (i : Nat), l.length - i < μ → p_spec_l02Bound_l1 l v μ t (i : Int) = true → ∀ j : Nat, i ≤ j → -v ≤ l.getD j 0 ∧ l.getD j 0 ≤ v := by
  intro μ
  induction μ with
  | zero => intro t i h; omega
  | succ μ ih =>
    intro t i hm h j hj
    rw [p_spec_l02Bound_l1_s, Int.toNat_natCast, wrap64 (n := 0 - v) (by omega) (by omega)] at h
    by_cases c : (i : Int) < (l.length : Int)
    · rw [decide_eq_true c, cond_true] at h
      cases hin : p_spec_l00In (l.getD i 0) (0 - v) v with
      | false => rw [hin] at h; cases h
      | true =>
        rw [hin, Bool.not_true, cond_false] at h
        by_cases hji : j = i
        · subst hji; have := spec_l00In_t hin; omega
        · exact ih t (i + 1) (by omega) h j (by omega)
    · rw [List.getD_eq_getElem?_getD, List.getElem?_eq_none (by omega)]
      show -v ≤ (0 : Int) ∧ (0 : Int) ≤ v
      omega
theorem spec_bound_t {l : List Int} {v : Int} (h0 : 0 ≤ v) (h1 : v ≤ 1000000) (h : p_spec_l02Bound l v = true) : ∀ j : Nat, -v ≤ l.getD j 0 ∧ l.getD j 0 ≤ v := by
  rw [p_spec_l02Bound_eq] at h
  intro j
  exact spec_bound_go l v h0 h1 _ _ 0 (by omega) h j (Nat.zero_le _)
/-! spec_l02Bound: function 83 -/
def E_spec_l02Bound : Env := envOf [(51, S_spec_l00In)]
def F_spec_l02Bound : List Value → AHeap → (Value → AHeap → Prop) → Prop
  | [.slice list_a list_n list_e, .int .i64 vmost], H, K => T_spec_l02Bound list_a list_n list_e vmost H fun (r1 : Bool) (H' : AHeap) => K (.bool r1) H'
  | _, _, _ => False
def S_spec_l02Bound : FSpec := { F := F_spec_l02Bound, quiet := true, tame := false }
theorem spec_l02Bound_vc (list_a : Option Addr) (list_n : Nat) (list_e : Nat) (vmost : Int) (H : AHeap) (K : Value → AHeap → Prop) : bodyK Try.prog E_spec_l02Bound Try.f83 [.slice list_a list_n list_e, .int .i64 vmost] H K =
  (loopK (exK Try.prog E_spec_l02Bound (cl (cl (cr (cl (cr (bodyC Try.f83))))))) [.slice list_a list_n list_e, .int .i64 vmost, undef, undef, .bool false, .int .i64 0, undef, undef, undef, undef, undef, undef, undef, undef, undef, undef, undef, undef, undef, undef, undef] H (blockQ 0 (seqQ (exK Try.prog E_spec_l02Bound (cr (cr (bodyC Try.f83)))) (retK Try.prog Try.f83 K)))) := by kernel_rfl
theorem spec_l02Bound_r1 (list_a : Option Addr) (list_e : Nat) (list_n : Nat) (vmost : Int) (t4 : Bool) (i : Int) (g6 g7 g8 g9 g10 g11 g12 g13 g14 g15 g16 g17 g18 g19 g20 : Value) (H : AHeap) (R : Post) : exK Try.prog E_spec_l02Bound (cl (cl (cr (cl (cr (bodyC Try.f83)))))) [.slice list_a list_n list_e, .int .i64 vmost, undef, undef, .bool t4, .int .i64 i, g6, g7, g8, g9, g10, g11, g12, g13, g14, g15, g16, g17, g18, g19, g20] H R =
  (Br (decide ((i : Int) < (list_n : Int))) ((0 : Int) ≤ i ∧ i < (list_n : Int) ∧ ∃ b1 f1, (list_a : Option Addr) = some ⟨b1, f1, none⟩ ∧ ∃ x1 : Int,  rdC H b1 (f1 + (i : Int).toNat * 1) = some (.int .i64 x1) ∧ T_spec_l00In x1 (IntKind.wrap .i64 (0 - vmost)) vmost H fun (r1 : Bool) (H1 : AHeap) => Br (!r1) (R .ret [.slice list_a list_n list_e, .int .i64 vmost, undef, undef, .bool false, .int .i64 i, .int .i64 i, .slice list_a list_n list_e, .int .i64 (list_n : Int), .bool (decide ((i : Int) < (list_n : Int))), g10, g11, .slice list_a list_n list_e, .int .i64 i, .pointer (some ⟨b1, f1 + (i : Int).toNat * 1, none⟩), .int .i64 x1, .int .i64 vmost, .int .i64 (IntKind.wrap .i64 (0 - vmost)), .int .i64 vmost, .bool r1, .bool (!r1)] H1) (R .normal [.slice list_a list_n list_e, .int .i64 vmost, undef, undef, .bool t4, .int .i64 (IntKind.wrap .i64 (i + 1)), .int .i64 i, .slice list_a list_n list_e, .int .i64 (list_n : Int), .bool (decide ((i : Int) < (list_n : Int))), .int .i64 i, .int .i64 (IntKind.wrap .i64 (i + 1)), .slice list_a list_n list_e, .int .i64 i, .pointer (some ⟨b1, f1 + (i : Int).toNat * 1, none⟩), .int .i64 x1, .int .i64 vmost, .int .i64 (IntKind.wrap .i64 (0 - vmost)), .int .i64 vmost, .bool r1, .bool (!r1)] H1)) (R (.exit 0) [.slice list_a list_n list_e, .int .i64 vmost, undef, undef, .bool t4, .int .i64 i, .int .i64 i, .slice list_a list_n list_e, .int .i64 (list_n : Int), .bool (decide ((i : Int) < (list_n : Int))), g10, g11, g12, g13, g14, g15, g16, g17, g18, g19, g20] H)) := by kernel_rfl
def spec_l02Bound_I1 (list_a : Option Addr) (list_e : Nat) (list_n : Nat) (vmost : Int) (Inv : Nat → Bool → Int → AHeap → Prop) : Nat → List Value → AHeap → Prop := fun μ tm H => ∃ (t4 : Bool), ∃ (i : Int), ∃ g6 g7 g8 g9 g10 g11 g12 g13 g14 g15 g16 g17 g18 g19 g20, tm = [.slice list_a list_n list_e, .int .i64 vmost, undef, undef, .bool t4, .int .i64 i, g6, g7, g8, g9, g10, g11, g12, g13, g14, g15, g16, g17, g18, g19, g20] ∧ Inv μ t4 i H
theorem spec_l02Bound_L1 (list_a : Option Addr) (list_e : Nat) (list_n : Nat) (vmost : Int) {Q : Post} (Inv : Nat → Bool → Int → AHeap → Prop) (ν : Nat) (t4 : Bool) (i : Int) (g6 g7 g8 g9 g10 g11 g12 g13 g14 g15 g16 g17 g18 g19 g20 : Value) (H : AHeap) (h0 : Inv ν t4 i H)
    (hs : ∀ (μ : Nat) (t4 : Bool) (i : Int) (g6 g7 g8 g9 g10 g11 g12 g13 g14 g15 g16 g17 g18 g19 g20 : Value) (H : AHeap), Inv μ t4 i H → exK Try.prog E_spec_l02Bound (cl (cl (cr (cl (cr (bodyC Try.f83)))))) [.slice list_a list_n list_e, .int .i64 vmost, undef, undef, .bool t4, .int .i64 i, g6, g7, g8, g9, g10, g11, g12, g13, g14, g15, g16, g17, g18, g19, g20] H (loopQ (spec_l02Bound_I1 list_a list_e list_n vmost Inv) μ Q)) : loopK (exK Try.prog E_spec_l02Bound (cl (cl (cr (cl (cr (bodyC Try.f83))))))) [.slice list_a list_n list_e, .int .i64 vmost, undef, undef, .bool t4, .int .i64 i, g6, g7, g8, g9, g10, g11, g12, g13, g14, g15, g16, g17, g18, g19, g20] H Q :=
  ⟨spec_l02Bound_I1 list_a list_e list_n vmost Inv, ν, ⟨t4, i, g6, g7, g8, g9, g10, g11, g12, g13, g14, g15, g16, g17, g18, g19, g20, rfl, h0⟩, fun μ tm H h => by obtain ⟨t4, i, g6, g7, g8, g9, g10, g11, g12, g13, g14, g15, g16, g17, g18, g19, g20, rfl, hI⟩ := h; exact hs μ t4 i g6 g7 g8 g9 g10 g11 g12 g13 g14 g15 g16 g17 g18 g19 g20 H hI⟩
theorem spec_l02Bound_n1 {list_a : Option Addr} {list_e : Nat} {list_n : Nat} {vmost : Int} {Q : Post} {Inv : Nat → Bool → Int → AHeap → Prop} {μ : Nat} (μ' : Nat) {t4 : Bool} {i : Int} {g6 g7 g8 g9 g10 g11 g12 g13 g14 g15 g16 g17 g18 g19 g20 : Value} {H : AHeap} (hm : μ' < μ) (hI : Inv μ' t4 i H) : loopQ (spec_l02Bound_I1 list_a list_e list_n vmost Inv) μ Q .normal [.slice list_a list_n list_e, .int .i64 vmost, undef, undef, .bool t4, .int .i64 i, g6, g7, g8, g9, g10, g11, g12, g13, g14, g15, g16, g17, g18, g19, g20] H := ⟨μ', hm, t4, i, g6, g7, g8, g9, g10, g11, g12, g13, g14, g15, g16, g17, g18, g19, g20, rfl, hI⟩
theorem spec_l02Bound_x1_0 (list_a : Option Addr) (list_e : Nat) (list_n : Nat) (vmost : Int) (t4 : Bool) (i : Int) (g6 g7 g8 g9 g10 g11 g12 g13 g14 g15 g16 g17 g18 g19 g20 : Value) (H : AHeap) (K : Value → AHeap → Prop)  {I : Nat → List Value → AHeap → Prop} {μ : Nat} : loopQ I μ (blockQ 0 (seqQ (exK Try.prog E_spec_l02Bound (cr (cr (bodyC Try.f83)))) (retK Try.prog Try.f83 K))) (.exit 0) [.slice list_a list_n list_e, .int .i64 vmost, undef, undef, .bool t4, .int .i64 i, g6, g7, g8, g9, g10, g11, g12, g13, g14, g15, g16, g17, g18, g19, g20] H =
  (K (.bool true) H) := by kernel_rfl
theorem spec_l02Bound_x1_ret (list_a : Option Addr) (list_e : Nat) (list_n : Nat) (vmost : Int) (t4 : Bool) (i : Int) (g6 g7 g8 g9 g10 g11 g12 g13 g14 g15 g16 g17 g18 g19 g20 : Value) (H : AHeap) (K : Value → AHeap → Prop)  {I : Nat → List Value → AHeap → Prop} {μ : Nat} : loopQ I μ (blockQ 0 (seqQ (exK Try.prog E_spec_l02Bound (cr (cr (bodyC Try.f83)))) (retK Try.prog Try.f83 K))) .ret [.slice list_a list_n list_e, .int .i64 vmost, undef, undef, .bool t4, .int .i64 i, g6, g7, g8, g9, g10, g11, g12, g13, g14, g15, g16, g17, g18, g19, g20] H =
  (K (.bool t4) H) := by kernel_rfl
theorem E_spec_l02Bound_ok : ∀ g, FnOk Try.prog g (E_spec_l02Bound g) := FnOk.envOf (by
  intro x hx
  simp only [List.mem_cons, List.not_mem_nil, or_false] at hx
  subst hx; exact spec_l00In_ok)
set_option maxHeartbeats 1000000 in
theorem spec_l02Bound_main (list_a : Option Addr) (list_n : Nat) (list_e : Nat) (vmost : Int) (H : AHeap) (K : Value → AHeap → Prop) (h : T_spec_l02Bound list_a list_n list_e vmost H fun (r1 : Bool) (H' : AHeap) => K (.bool r1) H') : bodyK Try.prog E_spec_l02Bound Try.f83 [.slice list_a list_n list_e, .int .i64 vmost] H K := by
  rw [spec_l02Bound_vc]
  obtain ⟨l_list, i_list, bd_9, hk⟩ := h
  obtain rfl := i_list.eqn
  have e : (p_spec_l02Bound l_list vmost) = _ := rfl
  have e := e.trans (p_spec_l02Bound_eq l_list vmost)
  have g0 := Grow.refl H
  refine spec_l02Bound_L1 _ _ _ _ (fun (μ : Nat) (t4 : Bool) (i : Int) (H_1 : AHeap) => H = H_1 ∧ (0 : Int) ≤ i ∧ i ≤ (l_list.length : Int) ∧ (l_list.length : Int) - i ≤ (μ : Int) ∧ p_spec_l02Bound l_list vmost = p_spec_l02Bound_l1 l_list vmost (μ + 1) t4 i) (Int.toNat ((l_list.length : Int) - (0 : Int))) _ _ _ _ _ _ _ _ _ _ _ _ _ _ _ _ _ H ?_ ?_
  · exact ⟨rfl, (by first | omega | (simp; done) | (simp; omega)), (by first | omega | (simp; done) | (simp; omega)), (by omega), e⟩
  · intro μ t4 i g6 g7 g8 g9 g10 g11 g12 g13 g14 g15 g16 g17 g18 g19 g20 H_1 hI
    obtain ⟨rfl, v_1, v_2, hμ, e⟩ := hI
    rw [spec_l02Bound_r1]
    have e := e.trans (p_spec_l02Bound_l1_s l_list vmost μ t4 i)
    have l_3 := g0.1
    refine Br.intro (fun c_4 => ?_) (fun c_4 => ?_)
    · have e := e.trans (cond_t c_4)
      have c_4' := of_decide_eq_true c_4
      obtain ⟨b_5, f_6, q_7⟩ := ((i_list.grow g0)).pos (by first | omega | (simp only [List.length_set, List.length_replicate, List.length_append, List.length_cons, List.length_nil, List.length_take, List.length_drop, marks_length]; done) | (simp only [List.length_set, List.length_replicate, List.length_append, List.length_cons, List.length_nil, List.length_take, List.length_drop, marks_length]; omega))
      refine ⟨by omega, by omega, b_5, f_6, q_7, ?_⟩
      refine ⟨((l_list).getD (i : Int).toNat 0), (i_list).rd g0 q_7 (by omega) _, ?_⟩
      refine T_spec_l00In_i ?_
      refine Br.intro (fun c_8 => ?_) (fun c_8 => ?_)
      · have e := e.trans (cond_t c_8)
        have c_8n := nf_of_t c_8
        rw [spec_l02Bound_x1_ret]
        rw [e] at hk
        exact hk
      · have e := e.trans (cond_f c_8)
        have c_8n := nt_of_f c_8
        have c_8n' := spec_l00In_t c_8n
        rw [show IntKind.wrap .i64 (i + 1) = (i + 1) from wrap64 (by omega) (by omega)]
        refine spec_l02Bound_n1 (μ - 1) (by first | omega) ⟨rfl, (by first | omega | (simp only [List.length_append, List.length_cons, List.length_nil, List.length_set]; done) | (simp only [List.length_append, List.length_cons, List.length_nil, List.length_set]; omega)), (by first | omega | (simp only [List.length_append, List.length_cons, List.length_nil, List.length_set]; done) | (simp only [List.length_append, List.length_cons, List.length_nil, List.length_set]; omega)), (by first | omega), (by rw [show μ - 1 + 1 = μ from by first | omega]; exact e)⟩
    · have e := e.trans (cond_f c_4)
      have c_4' := of_decide_eq_false c_4
      rw [spec_l02Bound_x1_0]
      rw [e] at hk
      exact hk
theorem spec_l02Bound_ok : FnOk Try.prog 83 S_spec_l02Bound := by
  refine FnOk.body mix_ok E_spec_l02Bound_ok Try.func83 rfl (by kernel_rfl) (by kernel_rfl) ?_ ?_ ?_ ?_ ?_
  · intro args H K K' h hk
    simp only [S_spec_l02Bound] at *
    unfold F_spec_l02Bound at *
    split at hk
    · obtain ⟨l_list, i_list, bd_9, k⟩ := hk
      exact ⟨l_list, i_list, bd_9, h _ _ k⟩
    · exact hk.elim
  · intro _ args H K hk
    simp only [S_spec_l02Bound] at *
    unfold F_spec_l02Bound at *
    split at hk
    · obtain ⟨l_list, i_list, bd_9, k⟩ := hk
      exact ⟨_, k, fun K' k' => ⟨l_list, i_list, bd_9, k'⟩⟩
    · exact hk.elim
  · intro args H K hk
    simp only [S_spec_l02Bound] at *
    unfold F_spec_l02Bound at *
    split at hk
    · obtain ⟨l_list, i_list, bd_9, k⟩ := hk
      exact ⟨_, _, k⟩
    · exact hk.elim
  · intro hq; cases hq
  · have mm := @spec_l02Bound_main
    revert mm
    generalize bodyK Try.prog E_spec_l02Bound Try.f83 = Q
    intro mm args H K hk
    simp only [S_spec_l02Bound] at *
    unfold F_spec_l02Bound at *
    split at hk
    · exact mm _ _ _ _ H K hk
    · exact hk.elim
def p_spec_l02Integers (l_list : List Int) : Bool := (bif decide ((1 : Int) ≤ (l_list.length : Int)) then (bif decide (((l_list.length : Int) : Int) ≤ 128) then (p_spec_l02Bound l_list (1000000 : Int)) else false) else false)
theorem p_spec_l02Integers_eq (l_list : List Int) : p_spec_l02Integers l_list = (bif decide ((1 : Int) ≤ (l_list.length : Int)) then (bif decide (((l_list.length : Int) : Int) ≤ 128) then (p_spec_l02Bound l_list (1000000 : Int)) else false) else false) := rfl
def T_spec_l02Integers (list_a : Option Addr) (list_n : Nat) (list_e : Nat) (H : AHeap) (K : Bool → AHeap → Prop) : Prop := ∃ (l_list : List Int), IsL fI H list_a list_n l_list ∧ l_list.length < 1073741824 ∧ K (p_spec_l02Integers l_list) H
theorem T_spec_l02Integers_i {list_a : Option Addr} {list_n : Nat} {list_e : Nat} {H : AHeap} {K : Bool → AHeap → Prop} (h : ∃ (l_list : List Int), IsL fI H list_a list_n l_list ∧ l_list.length < 1073741824 ∧ K (p_spec_l02Integers l_list) H) : T_spec_l02Integers list_a list_n list_e H K := h
theorem spec_int_t {l : List Int} (h : p_spec_l02Integers l = true) : 1 ≤ (l.length : Int) ∧ (l.length : Int) ≤ 128 ∧ ∀ j : Nat, -1000000 ≤ l.getD j 0 ∧ l.getD j 0 ≤ 1000000 := by
  rw [p_spec_l02Integers_eq] at h
  by_cases a : (1 : Int) ≤ (l.length : Int)
  · rw [decide_eq_true a, cond_true] at h
    by_cases b : ((l.length : Int) : Int) ≤ 128
    · rw [decide_eq_true b, cond_true] at h
      exact ⟨a, b, spec_bound_t (by decide) (by decide) h⟩
    · rw [decide_eq_false b] at h; cases h
  · rw [decide_eq_false a] at h; cases h
/-! spec_l02Integers: function 68 -/
def E_spec_l02Integers : Env := envOf [(83, S_spec_l02Bound)]
def F_spec_l02Integers : List Value → AHeap → (Value → AHeap → Prop) → Prop
  | [.slice list_a list_n list_e], H, K => T_spec_l02Integers list_a list_n list_e H fun (r1 : Bool) (H' : AHeap) => K (.bool r1) H'
  | _, _, _ => False
def S_spec_l02Integers : FSpec := { F := F_spec_l02Integers, quiet := true, tame := false }
theorem spec_l02Integers_vc (list_a : Option Addr) (list_n : Nat) (list_e : Nat) (H : AHeap) (K : Value → AHeap → Prop) : bodyK Try.prog E_spec_l02Integers Try.f68 [.slice list_a list_n list_e] H K =
  (Br (decide ((1 : Int) ≤ (list_n : Int))) (Br (decide (((list_n : Int) : Int) ≤ 128)) (T_spec_l02Bound list_a list_n list_e 1000000 H fun (r1 : Bool) (H1 : AHeap) => K (.bool r1) H1) (K (.bool false) H)) (K (.bool false) H)) := by kernel_rfl
theorem E_spec_l02Integers_ok : ∀ g, FnOk Try.prog g (E_spec_l02Integers g) := FnOk.envOf (by
  intro x hx
  simp only [List.mem_cons, List.not_mem_nil, or_false] at hx
  subst hx; exact spec_l02Bound_ok)
set_option maxHeartbeats 1000000 in
theorem spec_l02Integers_main (list_a : Option Addr) (list_n : Nat) (list_e : Nat) (H : AHeap) (K : Value → AHeap → Prop) (h : T_spec_l02Integers list_a list_n list_e H fun (r1 : Bool) (H' : AHeap) => K (.bool r1) H') : bodyK Try.prog E_spec_l02Integers Try.f68 [.slice list_a list_n list_e] H K := by
  rw [spec_l02Integers_vc]
  obtain ⟨l_list, i_list, bd_3, hk⟩ := h
  obtain rfl := i_list.eqn
  have e : (p_spec_l02Integers l_list) = _ := rfl
  have e := e.trans (p_spec_l02Integers_eq l_list)
  have g0 := Grow.refl H
  refine Br.intro (fun c_1 => ?_) (fun c_1 => ?_)
  · have e := e.trans (cond_t c_1)
    have c_1' := of_decide_eq_true c_1
    refine Br.intro (fun c_2 => ?_) (fun c_2 => ?_)
    · have e := e.trans (cond_t c_2)
      have c_2' := of_decide_eq_true c_2
      refine T_spec_l02Bound_i ⟨_, (i_list.grow g0), (by first | omega | (simp only [List.length_set, List.length_replicate, List.length_append, List.length_cons, List.length_nil, List.length_take, List.length_drop, marks_length]; done) | (simp only [List.length_set, List.length_replicate, List.length_append, List.length_cons, List.length_nil, List.length_take, List.length_drop, marks_length]; omega)), ?_⟩
      rw [e] at hk
      exact hk
    · have e := e.trans (cond_f c_2)
      have c_2' := of_decide_eq_false c_2
      rw [e] at hk
      exact hk
  · have e := e.trans (cond_f c_1)
    have c_1' := of_decide_eq_false c_1
    rw [e] at hk
    exact hk
theorem spec_l02Integers_ok : FnOk Try.prog 68 S_spec_l02Integers := by
  refine FnOk.body mix_ok E_spec_l02Integers_ok Try.func68 rfl (by kernel_rfl) (by kernel_rfl) ?_ ?_ ?_ ?_ ?_
  · intro args H K K' h hk
    simp only [S_spec_l02Integers] at *
    unfold F_spec_l02Integers at *
    split at hk
    · obtain ⟨l_list, i_list, bd_3, k⟩ := hk
      exact ⟨l_list, i_list, bd_3, h _ _ k⟩
    · exact hk.elim
  · intro _ args H K hk
    simp only [S_spec_l02Integers] at *
    unfold F_spec_l02Integers at *
    split at hk
    · obtain ⟨l_list, i_list, bd_3, k⟩ := hk
      exact ⟨_, k, fun K' k' => ⟨l_list, i_list, bd_3, k'⟩⟩
    · exact hk.elim
  · intro args H K hk
    simp only [S_spec_l02Integers] at *
    unfold F_spec_l02Integers at *
    split at hk
    · obtain ⟨l_list, i_list, bd_3, k⟩ := hk
      exact ⟨_, _, k⟩
    · exact hk.elim
  · intro hq; cases hq
  · have mm := @spec_l02Integers_main
    revert mm
    generalize bodyK Try.prog E_spec_l02Integers Try.f68 = Q
    intro mm args H K hk
    simp only [S_spec_l02Integers] at *
    unfold F_spec_l02Integers at *
    split at hk
    · exact mm _ _ _ H K hk
    · exact hk.elim
def p_spec_l06Abs (n : Int) : Int := (bif decide ((n : Int) < 0) then IntKind.wrap .i64 (0 - n) else n)
theorem p_spec_l06Abs_eq (n : Int) : p_spec_l06Abs n = (bif decide ((n : Int) < 0) then IntKind.wrap .i64 (0 - n) else n) := rfl
def T_spec_l06Abs (n : Int) (H : AHeap) (K : Int → AHeap → Prop) : Prop := K (p_spec_l06Abs n) H
theorem spec_abs_rng {n : Int} (h : -1000000 ≤ n ∧ n ≤ 1000000) : 0 ≤ p_spec_l06Abs n ∧ p_spec_l06Abs n ≤ 1000000 ∧ p_spec_l06Abs n = (n.natAbs : Int) := by
  unfold p_spec_l06Abs
  by_cases c : n < 0
  · rw [decide_eq_true c, cond_true, wrap64 (by omega) (by omega)]; omega
  · rw [decide_eq_false c, cond_false]; omega
theorem T_spec_l06Abs_i {n : Int} {H : AHeap} {K : Int → AHeap → Prop} (h : K (p_spec_l06Abs n) H) : T_spec_l06Abs n H K := h
/-! spec_l06Abs: function 84 -/
def E_spec_l06Abs : Env := envOf []
def F_spec_l06Abs : List Value → AHeap → (Value → AHeap → Prop) → Prop
  | [.int .i64 n], H, K => T_spec_l06Abs n H fun (r1 : Int) (H' : AHeap) => K (.int .i64 r1) H'
  | _, _, _ => False
def S_spec_l06Abs : FSpec := { F := F_spec_l06Abs, quiet := true, tame := false }
theorem spec_l06Abs_vc (n : Int) (H : AHeap) (K : Value → AHeap → Prop) : bodyK Try.prog E_spec_l06Abs Try.f84 [.int .i64 n] H K =
  (Br (decide ((n : Int) < 0)) (K (.int .i64 (IntKind.wrap .i64 (0 - n))) H) (K (.int .i64 n) H)) := by kernel_rfl
theorem E_spec_l06Abs_ok : ∀ g, FnOk Try.prog g (E_spec_l06Abs g) := FnOk.envOf (by
  intro x hx; cases hx)
set_option maxHeartbeats 1000000 in
theorem spec_l06Abs_main (n : Int) (H : AHeap) (K : Value → AHeap → Prop) (h : T_spec_l06Abs n H fun (r1 : Int) (H' : AHeap) => K (.int .i64 r1) H') : bodyK Try.prog E_spec_l06Abs Try.f84 [.int .i64 n] H K := by
  rw [spec_l06Abs_vc]
  unfold T_spec_l06Abs p_spec_l06Abs at h
  repeat' (first | exact h | (exfalso; simp_all; done) | (refine ⟨by decide, ?_⟩) | (refine Br.intro (fun hb => ?_) (fun hb => ?_) <;> (try simp only [hb, cond_true, cond_false, Bool.not_true, Bool.not_false] at h)))
theorem spec_l06Abs_ok : FnOk Try.prog 84 S_spec_l06Abs := by
  refine FnOk.body mix_ok E_spec_l06Abs_ok Try.func84 rfl (by kernel_rfl) (by kernel_rfl) ?_ ?_ ?_ ?_ ?_
  · intro args H K K' h hk
    simp only [S_spec_l06Abs] at *
    unfold F_spec_l06Abs at *
    split at hk
    · have k := hk
      exact h _ _ k
    · exact hk.elim
  · intro _ args H K hk
    simp only [S_spec_l06Abs] at *
    unfold F_spec_l06Abs at *
    split at hk
    · have k := hk
      exact ⟨_, k, fun K' k' => k'⟩
    · exact hk.elim
  · intro args H K hk
    simp only [S_spec_l06Abs] at *
    unfold F_spec_l06Abs at *
    split at hk
    · have k := hk
      exact ⟨_, _, k⟩
    · exact hk.elim
  · intro hq; cases hq
  · have mm := @spec_l06Abs_main
    revert mm
    generalize bodyK Try.prog E_spec_l06Abs Try.f84 = Q
    intro mm args H K hk
    simp only [S_spec_l06Abs] at *
    unfold F_spec_l06Abs at *
    split at hk
    · exact mm _ H K hk
    · exact hk.elim
def p_spec_l06Planes_l2 (l_list : List Int) (n : Int) (i : Int) (k2_2 : Int → Int) : Nat → Int → Int
  | 0, _ => 0
  | μ2 + 1, n_3 => (bif (Int.fdiv ((p_spec_l06Abs (((l_list).getD (i : Int).toNat 0)))) (2 ^ (min (IntKind.wrap .u64 n_3 : Int).toNat (IntKind.bits .i64))) : Int) != 0 then (p_spec_l06Planes_l2 l_list n i k2_2 μ2 (n_3 + 1)) else (k2_2 n_3))
theorem p_spec_l06Planes_l2_s (l_list : List Int) (n : Int) (i : Int) (k2_2 : Int → Int) (μ2 : Nat) (n_3 : Int) : p_spec_l06Planes_l2 l_list n i k2_2 (μ2 + 1) n_3 = (bif (Int.fdiv ((p_spec_l06Abs (((l_list).getD (i : Int).toNat 0)))) (2 ^ (min (IntKind.wrap .u64 n_3 : Int).toNat (IntKind.bits .i64))) : Int) != 0 then (p_spec_l06Planes_l2 l_list n i k2_2 μ2 (n_3 + 1)) else (k2_2 n_3)) := rfl
def p_spec_l06Planes_l1 (l_list : List Int) : Nat → Int → Int → Int
  | 0, _, _ => 0
  | μ + 1, n, i => (bif decide ((i : Int) < (l_list.length : Int)) then (p_spec_l06Planes_l2 l_list n i (fun (n_3 : Int) => (p_spec_l06Planes_l1 l_list μ n_3 (i + 1))) (Int.toNat (64 - n) + 1) n) else n)
theorem p_spec_l06Planes_l1_s (l_list : List Int) (μ : Nat) (n : Int) (i : Int) : p_spec_l06Planes_l1 l_list (μ + 1) n i = (bif decide ((i : Int) < (l_list.length : Int)) then (p_spec_l06Planes_l2 l_list n i (fun (n_3 : Int) => (p_spec_l06Planes_l1 l_list μ n_3 (i + 1))) (Int.toNat (64 - n) + 1) n) else n) := rfl
def p_spec_l06Planes (l_list : List Int) : Int := (p_spec_l06Planes_l1 l_list (Int.toNat ((l_list.length : Int) - (0 : Int)) + 1) (0 : Int) (0 : Int))
theorem p_spec_l06Planes_eq (l_list : List Int) : p_spec_l06Planes l_list = (p_spec_l06Planes_l1 l_list (Int.toNat ((l_list.length : Int) - (0 : Int)) + 1) (0 : Int) (0 : Int)) := rfl
def T_spec_l06Planes (list_a : Option Addr) (list_n : Nat) (list_e : Nat) (H : AHeap) (K : Int → AHeap → Prop) : Prop := ∃ (l_list : List Int), IsL fI H list_a list_n l_list ∧ l_list.length < 1073741824 ∧ (∀ j : Nat, -1000000 ≤ l_list.getD j 0 ∧ l_list.getD j 0 ≤ 1000000) ∧ K (p_spec_l06Planes l_list) H
theorem T_spec_l06Planes_i {list_a : Option Addr} {list_n : Nat} {list_e : Nat} {H : AHeap} {K : Int → AHeap → Prop} (h : ∃ (l_list : List Int), IsL fI H list_a list_n l_list ∧ l_list.length < 1073741824 ∧ (∀ j : Nat, -1000000 ≤ l_list.getD j 0 ∧ l_list.getD j 0 ≤ 1000000) ∧ K (p_spec_l06Planes l_list) H) : T_spec_l06Planes list_a list_n list_e H K := h

/-! spec_l06Planes: function 69 -/
def E_spec_l06Planes : Env := envOf [(84, S_spec_l06Abs)]
def F_spec_l06Planes : List Value → AHeap → (Value → AHeap → Prop) → Prop
  | [.slice list_a list_n list_e], H, K => T_spec_l06Planes list_a list_n list_e H fun (r1 : Int) (H' : AHeap) => K (.int .i64 r1) H'
  | _, _, _ => False
def S_spec_l06Planes : FSpec := { F := F_spec_l06Planes, quiet := true, tame := false }
theorem spec_l06Planes_vc (list_a : Option Addr) (list_n : Nat) (list_e : Nat) (H : AHeap) (K : Value → AHeap → Prop) : bodyK Try.prog E_spec_l06Planes Try.f69 [.slice list_a list_n list_e] H K =
  (loopK (exK Try.prog E_spec_l06Planes (cl (cl (cr (cl (cr (cr (bodyC Try.f69)))))))) [.slice list_a list_n list_e, undef, .int .i64 0, .int .i64 0, .int .i64 0, undef, undef, undef, undef, undef, undef, undef, undef, undef, undef, undef, undef, undef, undef, undef, undef, undef, undef] H (blockQ 0 (seqQ (exK Try.prog E_spec_l06Planes (cr (cr (cr (bodyC Try.f69))))) (retK Try.prog Try.f69 K)))) := by kernel_rfl
theorem spec_l06Planes_r1 (list_a : Option Addr) (list_e : Nat) (list_n : Nat) (n : Int) (i : Int) (g5 g6 g7 g8 g9 g10 g11 g12 g13 g14 g15 g16 g17 g18 g19 g20 g21 : Value) (H : AHeap) (R : Post) : exK Try.prog E_spec_l06Planes (cl (cl (cr (cl (cr (cr (bodyC Try.f69))))))) [.slice list_a list_n list_e, undef, .int .i64 0, .int .i64 n, .int .i64 i, g5, g6, g7, g8, g9, g10, g11, g12, g13, g14, g15, g16, g17, g18, g19, g20, g21, undef] H R =
  (Br (decide ((i : Int) < (list_n : Int))) (loopK (exK Try.prog E_spec_l06Planes (cl (cl (cl (cl (cr (cl (cl (cr (cl (cr (cr (bodyC Try.f69))))))))))))) [.slice list_a list_n list_e, undef, .int .i64 0, .int .i64 n, .int .i64 i, .int .i64 i, .slice list_a list_n list_e, .int .i64 (list_n : Int), .bool (decide ((i : Int) < (list_n : Int))), g9, g10, g11, g12, g13, g14, g15, g16, g17, g18, g19, g20, g21, undef] H (blockQ 2 (blockQ 1 (seqQ (exK Try.prog E_spec_l06Planes (cr (cr (cl (cl (cr (cl (cr (cr (bodyC Try.f69)))))))))) (R))))) (R (.exit 0) [.slice list_a list_n list_e, undef, .int .i64 0, .int .i64 n, .int .i64 i, .int .i64 i, .slice list_a list_n list_e, .int .i64 (list_n : Int), .bool (decide ((i : Int) < (list_n : Int))), g9, g10, g11, g12, g13, g14, g15, g16, g17, g18, g19, g20, g21, undef] H)) := by kernel_rfl
def spec_l06Planes_I1 (list_a : Option Addr) (list_e : Nat) (list_n : Nat) (Inv : Nat → Int → Int → AHeap → Prop) : Nat → List Value → AHeap → Prop := fun μ tm H => ∃ (n : Int), ∃ (i : Int), ∃ g5 g6 g7 g8 g9 g10 g11 g12 g13 g14 g15 g16 g17 g18 g19 g20 g21, tm = [.slice list_a list_n list_e, undef, .int .i64 0, .int .i64 n, .int .i64 i, g5, g6, g7, g8, g9, g10, g11, g12, g13, g14, g15, g16, g17, g18, g19, g20, g21, undef] ∧ Inv μ n i H
theorem spec_l06Planes_L1 (list_a : Option Addr) (list_e : Nat) (list_n : Nat) {Q : Post} (Inv : Nat → Int → Int → AHeap → Prop) (ν : Nat) (n : Int) (i : Int) (g5 g6 g7 g8 g9 g10 g11 g12 g13 g14 g15 g16 g17 g18 g19 g20 g21 : Value) (H : AHeap) (h0 : Inv ν n i H)
    (hs : ∀ (μ : Nat) (n : Int) (i : Int) (g5 g6 g7 g8 g9 g10 g11 g12 g13 g14 g15 g16 g17 g18 g19 g20 g21 : Value) (H : AHeap), Inv μ n i H → exK Try.prog E_spec_l06Planes (cl (cl (cr (cl (cr (cr (bodyC Try.f69))))))) [.slice list_a list_n list_e, undef, .int .i64 0, .int .i64 n, .int .i64 i, g5, g6, g7, g8, g9, g10, g11, g12, g13, g14, g15, g16, g17, g18, g19, g20, g21, undef] H (loopQ (spec_l06Planes_I1 list_a list_e list_n Inv) μ Q)) : loopK (exK Try.prog E_spec_l06Planes (cl (cl (cr (cl (cr (cr (bodyC Try.f69)))))))) [.slice list_a list_n list_e, undef, .int .i64 0, .int .i64 n, .int .i64 i, g5, g6, g7, g8, g9, g10, g11, g12, g13, g14, g15, g16, g17, g18, g19, g20, g21, undef] H Q :=
  ⟨spec_l06Planes_I1 list_a list_e list_n Inv, ν, ⟨n, i, g5, g6, g7, g8, g9, g10, g11, g12, g13, g14, g15, g16, g17, g18, g19, g20, g21, rfl, h0⟩, fun μ tm H h => by obtain ⟨n, i, g5, g6, g7, g8, g9, g10, g11, g12, g13, g14, g15, g16, g17, g18, g19, g20, g21, rfl, hI⟩ := h; exact hs μ n i g5 g6 g7 g8 g9 g10 g11 g12 g13 g14 g15 g16 g17 g18 g19 g20 g21 H hI⟩
theorem spec_l06Planes_n1 {list_a : Option Addr} {list_e : Nat} {list_n : Nat} {Q : Post} {Inv : Nat → Int → Int → AHeap → Prop} {μ : Nat} (μ' : Nat) {n : Int} {i : Int} {g5 g6 g7 g8 g9 g10 g11 g12 g13 g14 g15 g16 g17 g18 g19 g20 g21 : Value} {H : AHeap} (hm : μ' < μ) (hI : Inv μ' n i H) : loopQ (spec_l06Planes_I1 list_a list_e list_n Inv) μ Q .normal [.slice list_a list_n list_e, undef, .int .i64 0, .int .i64 n, .int .i64 i, g5, g6, g7, g8, g9, g10, g11, g12, g13, g14, g15, g16, g17, g18, g19, g20, g21, undef] H := ⟨μ', hm, n, i, g5, g6, g7, g8, g9, g10, g11, g12, g13, g14, g15, g16, g17, g18, g19, g20, g21, rfl, hI⟩
theorem spec_l06Planes_x1_0 (list_a : Option Addr) (list_e : Nat) (list_n : Nat) (n : Int) (i : Int) (g5 g6 g7 g8 g9 g10 g11 g12 g13 g14 g15 g16 g17 g18 g19 g20 g21 : Value) (H : AHeap) (K : Value → AHeap → Prop)  {I : Nat → List Value → AHeap → Prop} {μ : Nat} : loopQ I μ (blockQ 0 (seqQ (exK Try.prog E_spec_l06Planes (cr (cr (cr (bodyC Try.f69))))) (retK Try.prog Try.f69 K))) (.exit 0) [.slice list_a list_n list_e, undef, .int .i64 0, .int .i64 n, .int .i64 i, g5, g6, g7, g8, g9, g10, g11, g12, g13, g14, g15, g16, g17, g18, g19, g20, g21, undef] H =
  (K (.int .i64 n) H) := by kernel_rfl
theorem spec_l06Planes_r2 (g10 : Value) (g9 : Value) (i : Int) (list_a : Option Addr) (list_e : Nat) (list_n : Nat) (n_3 : Int) (g11 g12 g13 g14 g15 g16 g17 g18 g19 g20 g21 : Value) (H : AHeap) (R : Post) : exK Try.prog E_spec_l06Planes (cl (cl (cl (cl (cr (cl (cl (cr (cl (cr (cr (bodyC Try.f69)))))))))))) [.slice list_a list_n list_e, undef, .int .i64 0, .int .i64 n_3, .int .i64 i, .int .i64 i, .slice list_a list_n list_e, .int .i64 (list_n : Int), .bool (decide ((i : Int) < (list_n : Int))), g9, g10, g11, g12, g13, g14, g15, g16, g17, g18, g19, g20, g21, undef] H R =
  ((0 : Int) ≤ i ∧ i < (list_n : Int) ∧ ∃ b1 f1, (list_a : Option Addr) = some ⟨b1, f1, none⟩ ∧ ∃ x1 : Int,  rdC H b1 (f1 + (i : Int).toNat * 1) = some (.int .i64 x1) ∧ T_spec_l06Abs x1 H fun (r1 : Int) (H1 : AHeap) => (0 : Int) ≤ IntKind.wrap .u64 n_3 ∧ Br ((Int.fdiv r1 (2 ^ (min (IntKind.wrap .u64 n_3 : Int).toNat (IntKind.bits .i64))) : Int) != 0) (R .normal [.slice list_a list_n list_e, undef, .int .i64 0, .int .i64 (IntKind.wrap .i64 (n_3 + 1)), .int .i64 i, .int .i64 i, .slice list_a list_n list_e, .int .i64 (list_n : Int), .bool (decide ((i : Int) < (list_n : Int))), g9, g10, .slice list_a list_n list_e, .int .i64 i, .pointer (some ⟨b1, f1 + (i : Int).toNat * 1, none⟩), .int .i64 x1, .int .i64 r1, .int .i64 n_3, .int .u64 (IntKind.wrap .u64 n_3), .int .i64 (Int.fdiv r1 (2 ^ (min (IntKind.wrap .u64 n_3 : Int).toNat (IntKind.bits .i64)))), .bool ((Int.fdiv r1 (2 ^ (min (IntKind.wrap .u64 n_3 : Int).toNat (IntKind.bits .i64))) : Int) != 0), .int .i64 n_3, .int .i64 (IntKind.wrap .i64 (n_3 + 1)), undef] H1) (R (.exit 2) [.slice list_a list_n list_e, undef, .int .i64 0, .int .i64 n_3, .int .i64 i, .int .i64 i, .slice list_a list_n list_e, .int .i64 (list_n : Int), .bool (decide ((i : Int) < (list_n : Int))), g9, g10, .slice list_a list_n list_e, .int .i64 i, .pointer (some ⟨b1, f1 + (i : Int).toNat * 1, none⟩), .int .i64 x1, .int .i64 r1, .int .i64 n_3, .int .u64 (IntKind.wrap .u64 n_3), .int .i64 (Int.fdiv r1 (2 ^ (min (IntKind.wrap .u64 n_3 : Int).toNat (IntKind.bits .i64)))), .bool ((Int.fdiv r1 (2 ^ (min (IntKind.wrap .u64 n_3 : Int).toNat (IntKind.bits .i64))) : Int) != 0), g20, g21, undef] H1)) := by kernel_rfl
def spec_l06Planes_I2 (g10 : Value) (g9 : Value) (i : Int) (list_a : Option Addr) (list_e : Nat) (list_n : Nat) (Inv : Nat → Int → AHeap → Prop) : Nat → List Value → AHeap → Prop := fun μ tm H => ∃ (n_3 : Int), ∃ g11 g12 g13 g14 g15 g16 g17 g18 g19 g20 g21, tm = [.slice list_a list_n list_e, undef, .int .i64 0, .int .i64 n_3, .int .i64 i, .int .i64 i, .slice list_a list_n list_e, .int .i64 (list_n : Int), .bool (decide ((i : Int) < (list_n : Int))), g9, g10, g11, g12, g13, g14, g15, g16, g17, g18, g19, g20, g21, undef] ∧ Inv μ n_3 H
theorem spec_l06Planes_L2 (g10 : Value) (g9 : Value) (i : Int) (list_a : Option Addr) (list_e : Nat) (list_n : Nat) {Q : Post} (Inv : Nat → Int → AHeap → Prop) (ν : Nat) (n_3 : Int) (g11 g12 g13 g14 g15 g16 g17 g18 g19 g20 g21 : Value) (H : AHeap) (h0 : Inv ν n_3 H)
    (hs : ∀ (μ : Nat) (n_3 : Int) (g11 g12 g13 g14 g15 g16 g17 g18 g19 g20 g21 : Value) (H : AHeap), Inv μ n_3 H → exK Try.prog E_spec_l06Planes (cl (cl (cl (cl (cr (cl (cl (cr (cl (cr (cr (bodyC Try.f69)))))))))))) [.slice list_a list_n list_e, undef, .int .i64 0, .int .i64 n_3, .int .i64 i, .int .i64 i, .slice list_a list_n list_e, .int .i64 (list_n : Int), .bool (decide ((i : Int) < (list_n : Int))), g9, g10, g11, g12, g13, g14, g15, g16, g17, g18, g19, g20, g21, undef] H (loopQ (spec_l06Planes_I2 g10 g9 i list_a list_e list_n Inv) μ Q)) : loopK (exK Try.prog E_spec_l06Planes (cl (cl (cl (cl (cr (cl (cl (cr (cl (cr (cr (bodyC Try.f69))))))))))))) [.slice list_a list_n list_e, undef, .int .i64 0, .int .i64 n_3, .int .i64 i, .int .i64 i, .slice list_a list_n list_e, .int .i64 (list_n : Int), .bool (decide ((i : Int) < (list_n : Int))), g9, g10, g11, g12, g13, g14, g15, g16, g17, g18, g19, g20, g21, undef] H Q :=
  ⟨spec_l06Planes_I2 g10 g9 i list_a list_e list_n Inv, ν, ⟨n_3, g11, g12, g13, g14, g15, g16, g17, g18, g19, g20, g21, rfl, h0⟩, fun μ tm H h => by obtain ⟨n_3, g11, g12, g13, g14, g15, g16, g17, g18, g19, g20, g21, rfl, hI⟩ := h; exact hs μ n_3 g11 g12 g13 g14 g15 g16 g17 g18 g19 g20 g21 H hI⟩
theorem spec_l06Planes_n2 {g10 : Value} {g9 : Value} {i : Int} {list_a : Option Addr} {list_e : Nat} {list_n : Nat} {Q : Post} {Inv : Nat → Int → AHeap → Prop} {μ : Nat} (μ' : Nat) {n_3 : Int} {g11 g12 g13 g14 g15 g16 g17 g18 g19 g20 g21 : Value} {H : AHeap} (hm : μ' < μ) (hI : Inv μ' n_3 H) : loopQ (spec_l06Planes_I2 g10 g9 i list_a list_e list_n Inv) μ Q .normal [.slice list_a list_n list_e, undef, .int .i64 0, .int .i64 n_3, .int .i64 i, .int .i64 i, .slice list_a list_n list_e, .int .i64 (list_n : Int), .bool (decide ((i : Int) < (list_n : Int))), g9, g10, g11, g12, g13, g14, g15, g16, g17, g18, g19, g20, g21, undef] H := ⟨μ', hm, n_3, g11, g12, g13, g14, g15, g16, g17, g18, g19, g20, g21, rfl, hI⟩
theorem spec_l06Planes_x2_2 (g10 : Value) (g9 : Value) (i : Int) (list_a : Option Addr) (list_e : Nat) (list_n : Nat) (n_3 : Int) (g11 g12 g13 g14 g15 g16 g17 g18 g19 g20 g21 : Value) (H : AHeap)  (R : Post) {I : Nat → List Value → AHeap → Prop} {μ : Nat} : loopQ I μ (blockQ 2 (blockQ 1 (seqQ (exK Try.prog E_spec_l06Planes (cr (cr (cl (cl (cr (cl (cr (cr (bodyC Try.f69)))))))))) (R)))) (.exit 2) [.slice list_a list_n list_e, undef, .int .i64 0, .int .i64 n_3, .int .i64 i, .int .i64 i, .slice list_a list_n list_e, .int .i64 (list_n : Int), .bool (decide ((i : Int) < (list_n : Int))), g9, g10, g11, g12, g13, g14, g15, g16, g17, g18, g19, g20, g21, undef] H =
  (R .normal [.slice list_a list_n list_e, undef, .int .i64 0, .int .i64 n_3, .int .i64 (IntKind.wrap .i64 (i + 1)), .int .i64 i, .slice list_a list_n list_e, .int .i64 (list_n : Int), .bool (decide ((i : Int) < (list_n : Int))), .int .i64 i, .int .i64 (IntKind.wrap .i64 (i + 1)), g11, g12, g13, g14, g15, g16, g17, g18, g19, g20, g21, undef] H) := by kernel_rfl
theorem E_spec_l06Planes_ok : ∀ g, FnOk Try.prog g (E_spec_l06Planes g) := FnOk.envOf (by
  intro x hx
  simp only [List.mem_cons, List.not_mem_nil, or_false] at hx
  subst hx; exact spec_l06Abs_ok)
theorem pl_lt {a n : Int} (h : Int.fdiv a (2 ^ (min (IntKind.wrap .u64 n : Int).toNat (IntKind.bits .i64))) ≠ 0) (h0 : 0 ≤ n) (h1 : n ≤ 20) {b : Int} (ha : 0 ≤ a ∧ a ≤ 1000000 ∧ a = b) : n < 20 := by
  by_cases c : n = 20
  · subst c
    exfalso; apply h
    rw [show (2 : Int) ^ (min (IntKind.wrap .u64 20 : Int).toNat (IntKind.bits .i64)) = 1048576 from by decide, Int.fdiv_eq_ediv_of_nonneg _ (by decide)]
    omega
  · omega

set_option maxHeartbeats 1000000 in
theorem spec_l06Planes_main (list_a : Option Addr) (list_n : Nat) (list_e : Nat) (H : AHeap) (K : Value → AHeap → Prop) (h : T_spec_l06Planes list_a list_n list_e H fun (r1 : Int) (H' : AHeap) => K (.int .i64 r1) H') : bodyK Try.prog E_spec_l06Planes Try.f69 [.slice list_a list_n list_e] H K := by
  rw [spec_l06Planes_vc]
  obtain ⟨l_list, i_list, bd_14, pr0, hk⟩ := h
  obtain rfl := i_list.eqn
  have e : (p_spec_l06Planes l_list) = _ := rfl
  have e := e.trans (p_spec_l06Planes_eq l_list)
  have g0 := Grow.refl H
  refine spec_l06Planes_L1 _ _ _ (fun (μ : Nat) (n : Int) (i : Int) (H_1 : AHeap) => H = H_1 ∧ (0 : Int) ≤ i ∧ i ≤ (l_list.length : Int) ∧ 0 ≤ n ∧ n ≤ 20 ∧ (l_list.length : Int) - i ≤ (μ : Int) ∧ p_spec_l06Planes l_list = p_spec_l06Planes_l1 l_list (μ + 1) n i) (Int.toNat ((l_list.length : Int) - (0 : Int))) _ _ _ _ _ _ _ _ _ _ _ _ _ _ _ _ _ _ _ H ?_ ?_
  · exact ⟨rfl, (by first | omega | (simp; done) | (simp; omega)), (by first | omega | (simp; done) | (simp; omega)), (by first | omega | (simp; done) | (simp; omega)), (by first | omega | (simp; done) | (simp; omega)), (by omega), e⟩
  · intro μ n i g5 g6 g7 g8 g9 g10 g11 g12 g13 g14 g15 g16 g17 g18 g19 g20 g21 H_1 hI
    obtain ⟨rfl, v_1, v_2, v_3, v_4, hμ, e⟩ := hI
    rw [spec_l06Planes_r1]
    have e := e.trans (p_spec_l06Planes_l1_s l_list μ n i)
    have l_5 := g0.1
    refine Br.intro (fun c_6 => ?_) (fun c_6 => ?_)
    · have e := e.trans (cond_t c_6)
      have c_6' := of_decide_eq_true c_6
      refine spec_l06Planes_L2 _ _ _ _ _ _ (fun (μ2 : Nat) (n_3 : Int) (H_2 : AHeap) => H = H_2 ∧ 0 ≤ n_3 ∧ n_3 ≤ 20 ∧ 64 - n_3 ≤ (μ2 : Int) ∧ p_spec_l06Planes l_list = p_spec_l06Planes_l2 l_list n i (fun (n_3 : Int) => (p_spec_l06Planes_l1 l_list μ n_3 (i + 1))) (μ2 + 1) n_3) (Int.toNat (64 - n)) _ _ _ _ _ _ _ _ _ _ _ _ H ?_ ?_
      · exact ⟨rfl, (by first | omega | (simp; done) | (simp; omega) | (first | omega | (have := pl_lt (by assumption) (by assumption) (by assumption) (spec_abs_rng ((by assumption : ∀ j : Nat, -1000000 ≤ l_list.getD j 0 ∧ l_list.getD j 0 ≤ 1000000) _)); omega))), (by first | omega | (simp; done) | (simp; omega) | (first | omega | (have := pl_lt (by assumption) (by assumption) (by assumption) (spec_abs_rng ((by assumption : ∀ j : Nat, -1000000 ≤ l_list.getD j 0 ∧ l_list.getD j 0 ≤ 1000000) _)); omega))), (by omega), e⟩
      · intro μ2 n_3 g11 g12 g13 g14 g15 g16 g17 g18 g19 g20 g21 H_2 hI
        obtain ⟨rfl, v_7, v_8, hμ, e⟩ := hI
        rw [spec_l06Planes_r2]
        have e := e.trans (p_spec_l06Planes_l2_s l_list n i (fun (n_3 : Int) => (p_spec_l06Planes_l1 l_list μ n_3 (i + 1))) μ2 n_3)
        have l_9 := g0.1
        obtain ⟨b_10, f_11, q_12⟩ := ((i_list.grow g0)).pos (by first | omega | (simp only [List.length_set, List.length_replicate, List.length_append, List.length_cons, List.length_nil, List.length_take, List.length_drop, marks_length]; done) | (simp only [List.length_set, List.length_replicate, List.length_append, List.length_cons, List.length_nil, List.length_take, List.length_drop, marks_length]; omega))
        refine ⟨by omega, by omega, b_10, f_11, q_12, ?_⟩
        refine ⟨((l_list).getD (i : Int).toNat 0), (i_list).rd g0 q_12 (by omega) _, ?_⟩
        refine T_spec_l06Abs_i ?_
        refine ⟨(wrapu_nonneg _), ?_⟩
        refine Br.intro (fun c_13 => ?_) (fun c_13 => ?_)
        · have e := e.trans (cond_t c_13)
          have c_13' := ine_t c_13
          rw [show IntKind.wrap .i64 (n_3 + 1) = (n_3 + 1) from wrap64 (by omega) (by omega)]
          refine spec_l06Planes_n2 (μ2 - 1) (by first | omega | (omega)) ⟨rfl, (by first | omega | (first | omega | (have := pl_lt (by assumption) (by assumption) (by assumption) (spec_abs_rng ((by assumption : ∀ j : Nat, -1000000 ≤ l_list.getD j 0 ∧ l_list.getD j 0 ≤ 1000000) _)); omega)) | (simp only [List.length_append, List.length_cons, List.length_nil, List.length_set]; done) | (simp only [List.length_append, List.length_cons, List.length_nil, List.length_set]; omega)), (by first | omega | (first | omega | (have := pl_lt (by assumption) (by assumption) (by assumption) (spec_abs_rng ((by assumption : ∀ j : Nat, -1000000 ≤ l_list.getD j 0 ∧ l_list.getD j 0 ≤ 1000000) _)); omega)) | (simp only [List.length_append, List.length_cons, List.length_nil, List.length_set]; done) | (simp only [List.length_append, List.length_cons, List.length_nil, List.length_set]; omega)), (by first | omega | (omega)), (by rw [show μ2 - 1 + 1 = μ2 from by first | omega | (omega)]; exact e)⟩
        · have e := e.trans (cond_f c_13)
          have c_13' := ine_f c_13
          rw [spec_l06Planes_x2_2]
          rw [show IntKind.wrap .i64 (i + 1) = (i + 1) from wrap64 (by omega) (by omega)]
          refine spec_l06Planes_n1 (μ - 1) (by first | omega) ⟨rfl, (by first | omega | (simp only [List.length_append, List.length_cons, List.length_nil, List.length_set]; done) | (simp only [List.length_append, List.length_cons, List.length_nil, List.length_set]; omega)), (by first | omega | (simp only [List.length_append, List.length_cons, List.length_nil, List.length_set]; done) | (simp only [List.length_append, List.length_cons, List.length_nil, List.length_set]; omega)), (by first | omega | (simp only [List.length_append, List.length_cons, List.length_nil, List.length_set]; done) | (simp only [List.length_append, List.length_cons, List.length_nil, List.length_set]; omega)), (by first | omega | (simp only [List.length_append, List.length_cons, List.length_nil, List.length_set]; done) | (simp only [List.length_append, List.length_cons, List.length_nil, List.length_set]; omega)), (by first | omega), (by rw [show μ - 1 + 1 = μ from by first | omega]; exact e)⟩
    · have e := e.trans (cond_f c_6)
      have c_6' := of_decide_eq_false c_6
      rw [spec_l06Planes_x1_0]
      rw [e] at hk
      exact hk
theorem spec_l06Planes_ok : FnOk Try.prog 69 S_spec_l06Planes := by
  refine FnOk.body mix_ok E_spec_l06Planes_ok Try.func69 rfl (by kernel_rfl) (by kernel_rfl) ?_ ?_ ?_ ?_ ?_
  · intro args H K K' h hk
    simp only [S_spec_l06Planes] at *
    unfold F_spec_l06Planes at *
    split at hk
    · obtain ⟨l_list, i_list, bd_14, pr0, k⟩ := hk
      exact ⟨l_list, i_list, bd_14, pr0, h _ _ k⟩
    · exact hk.elim
  · intro _ args H K hk
    simp only [S_spec_l06Planes] at *
    unfold F_spec_l06Planes at *
    split at hk
    · obtain ⟨l_list, i_list, bd_14, pr0, k⟩ := hk
      exact ⟨_, k, fun K' k' => ⟨l_list, i_list, bd_14, pr0, k'⟩⟩
    · exact hk.elim
  · intro args H K hk
    simp only [S_spec_l06Planes] at *
    unfold F_spec_l06Planes at *
    split at hk
    · obtain ⟨l_list, i_list, bd_14, pr0, k⟩ := hk
      exact ⟨_, _, k⟩
    · exact hk.elim
  · intro hq; cases hq
  · have mm := @spec_l06Planes_main
    revert mm
    generalize bodyK Try.prog E_spec_l06Planes Try.f69 = Q
    intro mm args H K hk
    simp only [S_spec_l06Planes] at *
    unfold F_spec_l06Planes at *
    split at hk
    · exact mm _ _ _ H K hk
    · exact hk.elim
def p_spec_PlanesFor (l_list : List Int) : Int × Bool := (bif !(p_spec_l02Integers l_list) then ((0 : Int), false) else ((p_spec_l06Planes l_list), true))
theorem p_spec_PlanesFor_eq (l_list : List Int) : p_spec_PlanesFor l_list = (bif !(p_spec_l02Integers l_list) then ((0 : Int), false) else ((p_spec_l06Planes l_list), true)) := rfl
def T_spec_PlanesFor (list_a : Option Addr) (list_n : Nat) (list_e : Nat) (H : AHeap) (K : Int → Bool → AHeap → Prop) : Prop := ∃ (l_list : List Int), IsL fI H list_a list_n l_list ∧ l_list.length < 1073741824 ∧ K ((p_spec_PlanesFor l_list).1) ((p_spec_PlanesFor l_list).2) H
theorem T_spec_PlanesFor_i {list_a : Option Addr} {list_n : Nat} {list_e : Nat} {H : AHeap} {K : Int → Bool → AHeap → Prop} (h : ∃ (l_list : List Int), IsL fI H list_a list_n l_list ∧ l_list.length < 1073741824 ∧ K ((p_spec_PlanesFor l_list).1) ((p_spec_PlanesFor l_list).2) H) : T_spec_PlanesFor list_a list_n list_e H K := h

/-! spec_PlanesFor: function 36 -/
def E_spec_PlanesFor : Env := envOf [(68, S_spec_l02Integers), (69, S_spec_l06Planes)]
def F_spec_PlanesFor : List Value → AHeap → (Value → AHeap → Prop) → Prop
  | [.slice list_a list_n list_e], H, K => T_spec_PlanesFor list_a list_n list_e H fun (r1 : Int) (r2 : Bool) (H' : AHeap) => K (.tuple #[.int .i64 r1, .bool r2]) H'
  | _, _, _ => False
def S_spec_PlanesFor : FSpec := { F := F_spec_PlanesFor, quiet := true, tame := false }
theorem spec_PlanesFor_vc (list_a : Option Addr) (list_n : Nat) (list_e : Nat) (H : AHeap) (K : Value → AHeap → Prop) : bodyK Try.prog E_spec_PlanesFor Try.f36 [.slice list_a list_n list_e] H K =
  (T_spec_l02Integers list_a list_n list_e H fun (r1 : Bool) (H1 : AHeap) => Br (!r1) (K (.tuple #[.int .i64 0, .bool false]) H1) (T_spec_l06Planes list_a list_n list_e H1 fun (r2 : Int) (H2 : AHeap) => K (.tuple #[.int .i64 r2, .bool true]) H2)) := by kernel_rfl
theorem E_spec_PlanesFor_ok : ∀ g, FnOk Try.prog g (E_spec_PlanesFor g) := FnOk.envOf (by
  intro x hx
  simp only [List.mem_cons, List.not_mem_nil, or_false] at hx
  rcases hx with rfl | rfl
  · exact spec_l02Integers_ok
  · exact spec_l06Planes_ok)
set_option maxHeartbeats 1000000 in
theorem spec_PlanesFor_main (list_a : Option Addr) (list_n : Nat) (list_e : Nat) (H : AHeap) (K : Value → AHeap → Prop) (h : T_spec_PlanesFor list_a list_n list_e H fun (r1 : Int) (r2 : Bool) (H' : AHeap) => K (.tuple #[.int .i64 r1, .bool r2]) H') : bodyK Try.prog E_spec_PlanesFor Try.f36 [.slice list_a list_n list_e] H K := by
  rw [spec_PlanesFor_vc]
  obtain ⟨l_list, i_list, bd_2, hk⟩ := h
  obtain rfl := i_list.eqn
  have e : (p_spec_PlanesFor l_list) = _ := rfl
  have e := e.trans (p_spec_PlanesFor_eq l_list)
  have g0 := Grow.refl H
  refine T_spec_l02Integers_i ⟨_, (i_list.grow g0), (by first | omega | (simp only [List.length_set, List.length_replicate, List.length_append, List.length_cons, List.length_nil, List.length_take, List.length_drop, marks_length]; done) | (simp only [List.length_set, List.length_replicate, List.length_append, List.length_cons, List.length_nil, List.length_take, List.length_drop, marks_length]; omega)), ?_⟩
  refine Br.intro (fun c_1 => ?_) (fun c_1 => ?_)
  · have e := e.trans (cond_t c_1)
    have c_1n := nf_of_t c_1
    rw [e] at hk
    exact hk
  · have e := e.trans (cond_f c_1)
    have c_1n := nt_of_f c_1
    refine T_spec_l06Planes_i ⟨_, (i_list.grow g0), (by first | omega | (simp only [List.length_set, List.length_replicate, List.length_append, List.length_cons, List.length_nil, List.length_take, List.length_drop, marks_length]; done) | (simp only [List.length_set, List.length_replicate, List.length_append, List.length_cons, List.length_nil, List.length_take, List.length_drop, marks_length]; omega)), (by first | assumption | omega | (simp; omega) | (exact (spec_int_t (by assumption)).2.2)), ?_⟩
    rw [e] at hk
    exact hk
theorem spec_PlanesFor_ok : FnOk Try.prog 36 S_spec_PlanesFor := by
  refine FnOk.body mix_ok E_spec_PlanesFor_ok Try.func36 rfl (by kernel_rfl) (by kernel_rfl) ?_ ?_ ?_ ?_ ?_
  · intro args H K K' h hk
    simp only [S_spec_PlanesFor] at *
    unfold F_spec_PlanesFor at *
    split at hk
    · obtain ⟨l_list, i_list, bd_2, k⟩ := hk
      exact ⟨l_list, i_list, bd_2, h _ _ k⟩
    · exact hk.elim
  · intro _ args H K hk
    simp only [S_spec_PlanesFor] at *
    unfold F_spec_PlanesFor at *
    split at hk
    · obtain ⟨l_list, i_list, bd_2, k⟩ := hk
      exact ⟨_, k, fun K' k' => ⟨l_list, i_list, bd_2, k'⟩⟩
    · exact hk.elim
  · intro args H K hk
    simp only [S_spec_PlanesFor] at *
    unfold F_spec_PlanesFor at *
    split at hk
    · obtain ⟨l_list, i_list, bd_2, k⟩ := hk
      exact ⟨_, _, k⟩
    · exact hk.elim
  · intro hq; cases hq
  · have mm := @spec_PlanesFor_main
    revert mm
    generalize bodyK Try.prog E_spec_PlanesFor Try.f36 = Q
    intro mm args H K hk
    simp only [S_spec_PlanesFor] at *
    unfold F_spec_PlanesFor at *
    split at hk
    · exact mm _ _ _ H K hk
    · exact hk.elim
def p_impl_within (n : Int) (low : Int) (high : Int) : Bool := (bif decide ((low : Int) ≤ n) then decide ((n : Int) ≤ high) else false)
theorem p_impl_within_eq (n : Int) (low : Int) (high : Int) : p_impl_within n low high = (bif decide ((low : Int) ≤ n) then decide ((n : Int) ≤ high) else false) := rfl
def T_impl_within (n : Int) (low : Int) (high : Int) (H : AHeap) (K : Bool → AHeap → Prop) : Prop := K (p_impl_within n low high) H
theorem impl_within_t {n a b : Int} (h : p_impl_within n a b = true) : a ≤ n ∧ n ≤ b := by
  unfold p_impl_within at h
  by_cases h1 : a ≤ n
  · rw [decide_eq_true h1, cond_true] at h; exact ⟨h1, of_decide_eq_true h⟩
  · rw [decide_eq_false h1] at h; cases h
theorem T_impl_within_i {n : Int} {low : Int} {high : Int} {H : AHeap} {K : Bool → AHeap → Prop} (h : K (p_impl_within n low high) H) : T_impl_within n low high H K := h
/-! impl_within: function 53 -/
def E_impl_within : Env := envOf []
def F_impl_within : List Value → AHeap → (Value → AHeap → Prop) → Prop
  | [.int .i64 n, .int .i64 low, .int .i64 high], H, K => T_impl_within n low high H fun (r1 : Bool) (H' : AHeap) => K (.bool r1) H'
  | _, _, _ => False
def S_impl_within : FSpec := { F := F_impl_within, quiet := true, tame := false }
theorem impl_within_vc (n : Int) (low : Int) (high : Int) (H : AHeap) (K : Value → AHeap → Prop) : bodyK Try.prog E_impl_within Try.f53 [.int .i64 n, .int .i64 low, .int .i64 high] H K =
  (Br (decide ((low : Int) ≤ n)) (K (.bool (decide ((n : Int) ≤ high))) H) (K (.bool false) H)) := by kernel_rfl
theorem E_impl_within_ok : ∀ g, FnOk Try.prog g (E_impl_within g) := FnOk.envOf (by
  intro x hx; cases hx)
set_option maxHeartbeats 1000000 in
theorem impl_within_main (n : Int) (low : Int) (high : Int) (H : AHeap) (K : Value → AHeap → Prop) (h : T_impl_within n low high H fun (r1 : Bool) (H' : AHeap) => K (.bool r1) H') : bodyK Try.prog E_impl_within Try.f53 [.int .i64 n, .int .i64 low, .int .i64 high] H K := by
  rw [impl_within_vc]
  unfold T_impl_within p_impl_within at h
  repeat' (first | exact h | (exfalso; simp_all; done) | (refine ⟨by decide, ?_⟩) | (refine Br.intro (fun hb => ?_) (fun hb => ?_) <;> (try simp only [hb, cond_true, cond_false, Bool.not_true, Bool.not_false] at h)))
theorem impl_within_ok : FnOk Try.prog 53 S_impl_within := by
  refine FnOk.body mix_ok E_impl_within_ok Try.func53 rfl (by kernel_rfl) (by kernel_rfl) ?_ ?_ ?_ ?_ ?_
  · intro args H K K' h hk
    simp only [S_impl_within] at *
    unfold F_impl_within at *
    split at hk
    · have k := hk
      exact h _ _ k
    · exact hk.elim
  · intro _ args H K hk
    simp only [S_impl_within] at *
    unfold F_impl_within at *
    split at hk
    · have k := hk
      exact ⟨_, k, fun K' k' => k'⟩
    · exact hk.elim
  · intro args H K hk
    simp only [S_impl_within] at *
    unfold F_impl_within at *
    split at hk
    · have k := hk
      exact ⟨_, _, k⟩
    · exact hk.elim
  · intro hq; cases hq
  · have mm := @impl_within_main
    revert mm
    generalize bodyK Try.prog E_impl_within Try.f53 = Q
    intro mm args H K hk
    simp only [S_impl_within] at *
    unfold F_impl_within at *
    split at hk
    · exact mm _ _ _ H K hk
    · exact hk.elim
def p_impl_areWithin_l1 (l_list : List Int) (vmost : Int) : Nat → Bool → Int → Bool
  | 0, _, _ => false
  | μ + 1, t4, t9 => (bif decide ((t9 : Int) < (l_list.length : Int)) then (bif !((p_impl_within (((l_list).getD (t9 : Int).toNat 0)) (IntKind.wrap .i64 (0 - vmost)) vmost)) then false else (p_impl_areWithin_l1 l_list vmost μ t4 (t9 + 1))) else true)
theorem p_impl_areWithin_l1_s (l_list : List Int) (vmost : Int) (μ : Nat) (t4 : Bool) (t9 : Int) : p_impl_areWithin_l1 l_list vmost (μ + 1) t4 t9 = (bif decide ((t9 : Int) < (l_list.length : Int)) then (bif !((p_impl_within (((l_list).getD (t9 : Int).toNat 0)) (IntKind.wrap .i64 (0 - vmost)) vmost)) then false else (p_impl_areWithin_l1 l_list vmost μ t4 (t9 + 1))) else true) := rfl
def p_impl_areWithin (l_list : List Int) (vmost : Int) : Bool := (p_impl_areWithin_l1 l_list vmost (Int.toNat ((l_list.length : Int) - (0 : Int)) + 1) false (0 : Int))
theorem p_impl_areWithin_eq (l_list : List Int) (vmost : Int) : p_impl_areWithin l_list vmost = (p_impl_areWithin_l1 l_list vmost (Int.toNat ((l_list.length : Int) - (0 : Int)) + 1) false (0 : Int)) := rfl
def T_impl_areWithin (list_a : Option Addr) (list_n : Nat) (list_e : Nat) (vmost : Int) (H : AHeap) (K : Bool → AHeap → Prop) : Prop := ∃ (l_list : List Int), IsL fI H list_a list_n l_list ∧ l_list.length < 1073741824 ∧ K (p_impl_areWithin l_list vmost) H
theorem T_impl_areWithin_i {list_a : Option Addr} {list_n : Nat} {list_e : Nat} {vmost : Int} {H : AHeap} {K : Bool → AHeap → Prop} (h : ∃ (l_list : List Int), IsL fI H list_a list_n l_list ∧ l_list.length < 1073741824 ∧ K (p_impl_areWithin l_list vmost) H) : T_impl_areWithin list_a list_n list_e vmost H K := h

/-! impl_areWithin: function 82 -/
def E_impl_areWithin : Env := envOf [(53, S_impl_within)]
def F_impl_areWithin : List Value → AHeap → (Value → AHeap → Prop) → Prop
  | [.slice list_a list_n list_e, .int .i64 vmost], H, K => T_impl_areWithin list_a list_n list_e vmost H fun (r1 : Bool) (H' : AHeap) => K (.bool r1) H'
  | _, _, _ => False
def S_impl_areWithin : FSpec := { F := F_impl_areWithin, quiet := true, tame := false }
theorem impl_areWithin_vc (list_a : Option Addr) (list_n : Nat) (list_e : Nat) (vmost : Int) (H : AHeap) (K : Value → AHeap → Prop) : bodyK Try.prog E_impl_areWithin Try.f82 [.slice list_a list_n list_e, .int .i64 vmost] H K =
  (loopK (exK Try.prog E_impl_areWithin (cl (cl (cr (cl (cr (bodyC Try.f82))))))) [.slice list_a list_n list_e, .int .i64 vmost, undef, undef, .bool false, undef, undef, .slice list_a list_n list_e, .int .i64 (list_n : Int), .int .i64 0, undef, undef, undef, undef, undef, undef, undef, undef, undef, undef] H (blockQ 0 (seqQ (exK Try.prog E_impl_areWithin (cr (cr (bodyC Try.f82)))) (retK Try.prog Try.f82 K)))) := by kernel_rfl
theorem impl_areWithin_r1 (list_a : Option Addr) (list_e : Nat) (list_n : Nat) (vmost : Int) (t4 : Bool) (t9 : Int) (g6 g10 g11 g12 g13 g14 g15 g16 g17 g18 g19 : Value) (H : AHeap) (R : Post) : exK Try.prog E_impl_areWithin (cl (cl (cr (cl (cr (bodyC Try.f82)))))) [.slice list_a list_n list_e, .int .i64 vmost, undef, undef, .bool t4, undef, g6, .slice list_a list_n list_e, .int .i64 (list_n : Int), .int .i64 t9, g10, g11, g12, g13, g14, g15, g16, g17, g18, g19] H R =
  (Br (decide ((t9 : Int) < (list_n : Int))) ((0 : Int) ≤ t9 ∧ t9 < (list_n : Int) ∧ ∃ b1 f1, (list_a : Option Addr) = some ⟨b1, f1, none⟩ ∧ ∃ x1 : Int,  rdC H b1 (f1 + (t9 : Int).toNat * 1) = some (.int .i64 x1) ∧ T_impl_within x1 (IntKind.wrap .i64 (0 - vmost)) vmost H fun (r1 : Bool) (H1 : AHeap) => Br (!r1) (R .ret [.slice list_a list_n list_e, .int .i64 vmost, undef, undef, .bool false, undef, .int .i64 x1, .slice list_a list_n list_e, .int .i64 (list_n : Int), .int .i64 t9, .bool (decide ((t9 : Int) < (list_n : Int))), .pointer (some ⟨b1, f1 + (t9 : Int).toNat * 1, none⟩), .int .i64 x1, .int .i64 x1, .int .i64 vmost, .int .i64 (IntKind.wrap .i64 (0 - vmost)), .int .i64 vmost, .bool r1, .bool (!r1), g19] H1) (R .normal [.slice list_a list_n list_e, .int .i64 vmost, undef, undef, .bool t4, undef, .int .i64 x1, .slice list_a list_n list_e, .int .i64 (list_n : Int), .int .i64 (IntKind.wrap .i64 (t9 + 1)), .bool (decide ((t9 : Int) < (list_n : Int))), .pointer (some ⟨b1, f1 + (t9 : Int).toNat * 1, none⟩), .int .i64 x1, .int .i64 x1, .int .i64 vmost, .int .i64 (IntKind.wrap .i64 (0 - vmost)), .int .i64 vmost, .bool r1, .bool (!r1), .int .i64 (IntKind.wrap .i64 (t9 + 1))] H1)) (R (.exit 0) [.slice list_a list_n list_e, .int .i64 vmost, undef, undef, .bool t4, undef, g6, .slice list_a list_n list_e, .int .i64 (list_n : Int), .int .i64 t9, .bool (decide ((t9 : Int) < (list_n : Int))), g11, g12, g13, g14, g15, g16, g17, g18, g19] H)) := by kernel_rfl
def impl_areWithin_I1 (list_a : Option Addr) (list_e : Nat) (list_n : Nat) (vmost : Int) (Inv : Nat → Bool → Int → AHeap → Prop) : Nat → List Value → AHeap → Prop := fun μ tm H => ∃ (t4 : Bool), ∃ (t9 : Int), ∃ g6 g10 g11 g12 g13 g14 g15 g16 g17 g18 g19, tm = [.slice list_a list_n list_e, .int .i64 vmost, undef, undef, .bool t4, undef, g6, .slice list_a list_n list_e, .int .i64 (list_n : Int), .int .i64 t9, g10, g11, g12, g13, g14, g15, g16, g17, g18, g19] ∧ Inv μ t4 t9 H
theorem impl_areWithin_L1 (list_a : Option Addr) (list_e : Nat) (list_n : Nat) (vmost : Int) {Q : Post} (Inv : Nat → Bool → Int → AHeap → Prop) (ν : Nat) (t4 : Bool) (t9 : Int) (g6 g10 g11 g12 g13 g14 g15 g16 g17 g18 g19 : Value) (H : AHeap) (h0 : Inv ν t4 t9 H)
    (hs : ∀ (μ : Nat) (t4 : Bool) (t9 : Int) (g6 g10 g11 g12 g13 g14 g15 g16 g17 g18 g19 : Value) (H : AHeap), Inv μ t4 t9 H → exK Try.prog E_impl_areWithin (cl (cl (cr (cl (cr (bodyC Try.f82)))))) [.slice list_a list_n list_e, .int .i64 vmost, undef, undef, .bool t4, undef, g6, .slice list_a list_n list_e, .int .i64 (list_n : Int), .int .i64 t9, g10, g11, g12, g13, g14, g15, g16, g17, g18, g19] H (loopQ (impl_areWithin_I1 list_a list_e list_n vmost Inv) μ Q)) : loopK (exK Try.prog E_impl_areWithin (cl (cl (cr (cl (cr (bodyC Try.f82))))))) [.slice list_a list_n list_e, .int .i64 vmost, undef, undef, .bool t4, undef, g6, .slice list_a list_n list_e, .int .i64 (list_n : Int), .int .i64 t9, g10, g11, g12, g13, g14, g15, g16, g17, g18, g19] H Q :=
  ⟨impl_areWithin_I1 list_a list_e list_n vmost Inv, ν, ⟨t4, t9, g6, g10, g11, g12, g13, g14, g15, g16, g17, g18, g19, rfl, h0⟩, fun μ tm H h => by obtain ⟨t4, t9, g6, g10, g11, g12, g13, g14, g15, g16, g17, g18, g19, rfl, hI⟩ := h; exact hs μ t4 t9 g6 g10 g11 g12 g13 g14 g15 g16 g17 g18 g19 H hI⟩
theorem impl_areWithin_n1 {list_a : Option Addr} {list_e : Nat} {list_n : Nat} {vmost : Int} {Q : Post} {Inv : Nat → Bool → Int → AHeap → Prop} {μ : Nat} (μ' : Nat) {t4 : Bool} {t9 : Int} {g6 g10 g11 g12 g13 g14 g15 g16 g17 g18 g19 : Value} {H : AHeap} (hm : μ' < μ) (hI : Inv μ' t4 t9 H) : loopQ (impl_areWithin_I1 list_a list_e list_n vmost Inv) μ Q .normal [.slice list_a list_n list_e, .int .i64 vmost, undef, undef, .bool t4, undef, g6, .slice list_a list_n list_e, .int .i64 (list_n : Int), .int .i64 t9, g10, g11, g12, g13, g14, g15, g16, g17, g18, g19] H := ⟨μ', hm, t4, t9, g6, g10, g11, g12, g13, g14, g15, g16, g17, g18, g19, rfl, hI⟩
theorem impl_areWithin_x1_0 (list_a : Option Addr) (list_e : Nat) (list_n : Nat) (vmost : Int) (t4 : Bool) (t9 : Int) (g6 g10 g11 g12 g13 g14 g15 g16 g17 g18 g19 : Value) (H : AHeap) (K : Value → AHeap → Prop)  {I : Nat → List Value → AHeap → Prop} {μ : Nat} : loopQ I μ (blockQ 0 (seqQ (exK Try.prog E_impl_areWithin (cr (cr (bodyC Try.f82)))) (retK Try.prog Try.f82 K))) (.exit 0) [.slice list_a list_n list_e, .int .i64 vmost, undef, undef, .bool t4, undef, g6, .slice list_a list_n list_e, .int .i64 (list_n : Int), .int .i64 t9, g10, g11, g12, g13, g14, g15, g16, g17, g18, g19] H =
  (K (.bool true) H) := by kernel_rfl
theorem impl_areWithin_x1_ret (list_a : Option Addr) (list_e : Nat) (list_n : Nat) (vmost : Int) (t4 : Bool) (t9 : Int) (g6 g10 g11 g12 g13 g14 g15 g16 g17 g18 g19 : Value) (H : AHeap) (K : Value → AHeap → Prop)  {I : Nat → List Value → AHeap → Prop} {μ : Nat} : loopQ I μ (blockQ 0 (seqQ (exK Try.prog E_impl_areWithin (cr (cr (bodyC Try.f82)))) (retK Try.prog Try.f82 K))) .ret [.slice list_a list_n list_e, .int .i64 vmost, undef, undef, .bool t4, undef, g6, .slice list_a list_n list_e, .int .i64 (list_n : Int), .int .i64 t9, g10, g11, g12, g13, g14, g15, g16, g17, g18, g19] H =
  (K (.bool t4) H) := by kernel_rfl
theorem E_impl_areWithin_ok : ∀ g, FnOk Try.prog g (E_impl_areWithin g) := FnOk.envOf (by
  intro x hx
  simp only [List.mem_cons, List.not_mem_nil, or_false] at hx
  subst hx; exact impl_within_ok)
set_option maxHeartbeats 1000000 in
theorem impl_areWithin_main (list_a : Option Addr) (list_n : Nat) (list_e : Nat) (vmost : Int) (H : AHeap) (K : Value → AHeap → Prop) (h : T_impl_areWithin list_a list_n list_e vmost H fun (r1 : Bool) (H' : AHeap) => K (.bool r1) H') : bodyK Try.prog E_impl_areWithin Try.f82 [.slice list_a list_n list_e, .int .i64 vmost] H K := by
  rw [impl_areWithin_vc]
  obtain ⟨l_list, i_list, bd_9, hk⟩ := h
  obtain rfl := i_list.eqn
  have e : (p_impl_areWithin l_list vmost) = _ := rfl
  have e := e.trans (p_impl_areWithin_eq l_list vmost)
  have g0 := Grow.refl H
  refine impl_areWithin_L1 _ _ _ _ (fun (μ : Nat) (t4 : Bool) (t9 : Int) (H_1 : AHeap) => H = H_1 ∧ (0 : Int) ≤ t9 ∧ t9 ≤ (l_list.length : Int) ∧ (l_list.length : Int) - t9 ≤ (μ : Int) ∧ p_impl_areWithin l_list vmost = p_impl_areWithin_l1 l_list vmost (μ + 1) t4 t9) (Int.toNat ((l_list.length : Int) - (0 : Int))) _ _ _ _ _ _ _ _ _ _ _ _ _ H ?_ ?_
  · exact ⟨rfl, (by first | omega | (simp; done) | (simp; omega)), (by first | omega | (simp; done) | (simp; omega)), (by omega), e⟩
  · intro μ t4 t9 g6 g10 g11 g12 g13 g14 g15 g16 g17 g18 g19 H_1 hI
    obtain ⟨rfl, v_1, v_2, hμ, e⟩ := hI
    rw [impl_areWithin_r1]
    have e := e.trans (p_impl_areWithin_l1_s l_list vmost μ t4 t9)
    have l_3 := g0.1
    refine Br.intro (fun c_4 => ?_) (fun c_4 => ?_)
    · have e := e.trans (cond_t c_4)
      have c_4' := of_decide_eq_true c_4
      obtain ⟨b_5, f_6, q_7⟩ := ((i_list.grow g0)).pos (by first | omega | (simp only [List.length_set, List.length_replicate, List.length_append, List.length_cons, List.length_nil, List.length_take, List.length_drop, marks_length]; done) | (simp only [List.length_set, List.length_replicate, List.length_append, List.length_cons, List.length_nil, List.length_take, List.length_drop, marks_length]; omega))
      refine ⟨by omega, by omega, b_5, f_6, q_7, ?_⟩
      refine ⟨((l_list).getD (t9 : Int).toNat 0), (i_list).rd g0 q_7 (by omega) _, ?_⟩
      refine T_impl_within_i ?_
      refine Br.intro (fun c_8 => ?_) (fun c_8 => ?_)
      · have e := e.trans (cond_t c_8)
        have c_8n := nf_of_t c_8
        rw [impl_areWithin_x1_ret]
        rw [e] at hk
        exact hk
      · have e := e.trans (cond_f c_8)
        have c_8n := nt_of_f c_8
        have c_8n' := impl_within_t c_8n
        rw [show IntKind.wrap .i64 (t9 + 1) = (t9 + 1) from wrap64 (by omega) (by omega)]
        refine impl_areWithin_n1 (μ - 1) (by first | omega) ⟨rfl, (by first | omega | (simp only [List.length_append, List.length_cons, List.length_nil, List.length_set]; done) | (simp only [List.length_append, List.length_cons, List.length_nil, List.length_set]; omega)), (by first | omega | (simp only [List.length_append, List.length_cons, List.length_nil, List.length_set]; done) | (simp only [List.length_append, List.length_cons, List.length_nil, List.length_set]; omega)), (by first | omega), (by rw [show μ - 1 + 1 = μ from by first | omega]; exact e)⟩
    · have e := e.trans (cond_f c_4)
      have c_4' := of_decide_eq_false c_4
      rw [impl_areWithin_x1_0]
      rw [e] at hk
      exact hk
theorem impl_areWithin_ok : FnOk Try.prog 82 S_impl_areWithin := by
  refine FnOk.body mix_ok E_impl_areWithin_ok Try.func82 rfl (by kernel_rfl) (by kernel_rfl) ?_ ?_ ?_ ?_ ?_
  · intro args H K K' h hk
    simp only [S_impl_areWithin] at *
    unfold F_impl_areWithin at *
    split at hk
    · obtain ⟨l_list, i_list, bd_9, k⟩ := hk
      exact ⟨l_list, i_list, bd_9, h _ _ k⟩
    · exact hk.elim
  · intro _ args H K hk
    simp only [S_impl_areWithin] at *
    unfold F_impl_areWithin at *
    split at hk
    · obtain ⟨l_list, i_list, bd_9, k⟩ := hk
      exact ⟨_, k, fun K' k' => ⟨l_list, i_list, bd_9, k'⟩⟩
    · exact hk.elim
  · intro args H K hk
    simp only [S_impl_areWithin] at *
    unfold F_impl_areWithin at *
    split at hk
    · obtain ⟨l_list, i_list, bd_9, k⟩ := hk
      exact ⟨_, _, k⟩
    · exact hk.elim
  · intro hq; cases hq
  · have mm := @impl_areWithin_main
    revert mm
    generalize bodyK Try.prog E_impl_areWithin Try.f82 = Q
    intro mm args H K hk
    simp only [S_impl_areWithin] at *
    unfold F_impl_areWithin at *
    split at hk
    · exact mm _ _ _ _ H K hk
    · exact hk.elim
def p_impl_AreIntegers (l_list : List Int) : Bool := (bif (p_impl_within (l_list.length : Int) (1 : Int) (128 : Int)) then (p_impl_areWithin l_list (1000000 : Int)) else false)
theorem p_impl_AreIntegers_eq (l_list : List Int) : p_impl_AreIntegers l_list = (bif (p_impl_within (l_list.length : Int) (1 : Int) (128 : Int)) then (p_impl_areWithin l_list (1000000 : Int)) else false) := rfl
def T_impl_AreIntegers (list_a : Option Addr) (list_n : Nat) (list_e : Nat) (H : AHeap) (K : Bool → AHeap → Prop) : Prop := ∃ (l_list : List Int), IsL fI H list_a list_n l_list ∧ l_list.length < 1073741824 ∧ K (p_impl_AreIntegers l_list) H
theorem T_impl_AreIntegers_i {list_a : Option Addr} {list_n : Nat} {list_e : Nat} {H : AHeap} {K : Bool → AHeap → Prop} (h : ∃ (l_list : List Int), IsL fI H list_a list_n l_list ∧ l_list.length < 1073741824 ∧ K (p_impl_AreIntegers l_list) H) : T_impl_AreIntegers list_a list_n list_e H K := h

/-! impl_AreIntegers: function 66 -/
def E_impl_AreIntegers : Env := envOf [(53, S_impl_within), (82, S_impl_areWithin)]
def F_impl_AreIntegers : List Value → AHeap → (Value → AHeap → Prop) → Prop
  | [.slice list_a list_n list_e], H, K => T_impl_AreIntegers list_a list_n list_e H fun (r1 : Bool) (H' : AHeap) => K (.bool r1) H'
  | _, _, _ => False
def S_impl_AreIntegers : FSpec := { F := F_impl_AreIntegers, quiet := true, tame := false }
theorem impl_AreIntegers_vc (list_a : Option Addr) (list_n : Nat) (list_e : Nat) (H : AHeap) (K : Value → AHeap → Prop) : bodyK Try.prog E_impl_AreIntegers Try.f66 [.slice list_a list_n list_e] H K =
  (T_impl_within (list_n : Int) 1 128 H fun (r1 : Bool) (H1 : AHeap) => Br r1 (T_impl_areWithin list_a list_n list_e 1000000 H1 fun (r2 : Bool) (H2 : AHeap) => K (.bool r2) H2) (K (.bool false) H1)) := by kernel_rfl
theorem E_impl_AreIntegers_ok : ∀ g, FnOk Try.prog g (E_impl_AreIntegers g) := FnOk.envOf (by
  intro x hx
  simp only [List.mem_cons, List.not_mem_nil, or_false] at hx
  rcases hx with rfl | rfl
  · exact impl_within_ok
  · exact impl_areWithin_ok)
set_option maxHeartbeats 1000000 in
theorem impl_AreIntegers_main (list_a : Option Addr) (list_n : Nat) (list_e : Nat) (H : AHeap) (K : Value → AHeap → Prop) (h : T_impl_AreIntegers list_a list_n list_e H fun (r1 : Bool) (H' : AHeap) => K (.bool r1) H') : bodyK Try.prog E_impl_AreIntegers Try.f66 [.slice list_a list_n list_e] H K := by
  rw [impl_AreIntegers_vc]
  obtain ⟨l_list, i_list, bd_2, hk⟩ := h
  obtain rfl := i_list.eqn
  have e : (p_impl_AreIntegers l_list) = _ := rfl
  have e := e.trans (p_impl_AreIntegers_eq l_list)
  have g0 := Grow.refl H
  refine T_impl_within_i ?_
  refine Br.intro (fun c_1 => ?_) (fun c_1 => ?_)
  · have e := e.trans (cond_t c_1)
    have c_1' := impl_within_t c_1
    refine T_impl_areWithin_i ⟨_, (i_list.grow g0), (by first | omega | (simp only [List.length_set, List.length_replicate, List.length_append, List.length_cons, List.length_nil, List.length_take, List.length_drop, marks_length]; done) | (simp only [List.length_set, List.length_replicate, List.length_append, List.length_cons, List.length_nil, List.length_take, List.length_drop, marks_length]; omega)), ?_⟩
    rw [e] at hk
    exact hk
  · have e := e.trans (cond_f c_1)
    rw [e] at hk
    exact hk
theorem impl_AreIntegers_ok : FnOk Try.prog 66 S_impl_AreIntegers := by
  refine FnOk.body mix_ok E_impl_AreIntegers_ok Try.func66 rfl (by kernel_rfl) (by kernel_rfl) ?_ ?_ ?_ ?_ ?_
  · intro args H K K' h hk
    simp only [S_impl_AreIntegers] at *
    unfold F_impl_AreIntegers at *
    split at hk
    · obtain ⟨l_list, i_list, bd_2, k⟩ := hk
      exact ⟨l_list, i_list, bd_2, h _ _ k⟩
    · exact hk.elim
  · intro _ args H K hk
    simp only [S_impl_AreIntegers] at *
    unfold F_impl_AreIntegers at *
    split at hk
    · obtain ⟨l_list, i_list, bd_2, k⟩ := hk
      exact ⟨_, k, fun K' k' => ⟨l_list, i_list, bd_2, k'⟩⟩
    · exact hk.elim
  · intro args H K hk
    simp only [S_impl_AreIntegers] at *
    unfold F_impl_AreIntegers at *
    split at hk
    · obtain ⟨l_list, i_list, bd_2, k⟩ := hk
      exact ⟨_, _, k⟩
    · exact hk.elim
  · intro hq; cases hq
  · have mm := @impl_AreIntegers_main
    revert mm
    generalize bodyK Try.prog E_impl_AreIntegers Try.f66 = Q
    intro mm args H K hk
    simp only [S_impl_AreIntegers] at *
    unfold F_impl_AreIntegers at *
    split at hk
    · exact mm _ _ _ H K hk
    · exact hk.elim
def p_impl_far (n : Int) : Int := (if (IntKind.wrap .i64 (0 - n) : Int) > n then IntKind.wrap .i64 (0 - n) else n)
theorem p_impl_far_eq (n : Int) : p_impl_far n = (if (IntKind.wrap .i64 (0 - n) : Int) > n then IntKind.wrap .i64 (0 - n) else n) := rfl
def T_impl_far (n : Int) (H : AHeap) (K : Int → AHeap → Prop) : Prop := K (p_impl_far n) H

theorem T_impl_far_i {n : Int} {H : AHeap} {K : Int → AHeap → Prop} (h : K (p_impl_far n) H) : T_impl_far n H K := h
/-! impl_far: function 85 -/
def E_impl_far : Env := envOf []
def F_impl_far : List Value → AHeap → (Value → AHeap → Prop) → Prop
  | [.int .i64 n], H, K => T_impl_far n H fun (r1 : Int) (H' : AHeap) => K (.int .i64 r1) H'
  | _, _, _ => False
def S_impl_far : FSpec := { F := F_impl_far, quiet := true, tame := false }
theorem impl_far_vc (n : Int) (H : AHeap) (K : Value → AHeap → Prop) : bodyK Try.prog E_impl_far Try.f85 [.int .i64 n] H K =
  (K (.int .i64 ((if (IntKind.wrap .i64 (0 - n) : Int) > n then IntKind.wrap .i64 (0 - n) else n))) H) := by kernel_rfl
theorem E_impl_far_ok : ∀ g, FnOk Try.prog g (E_impl_far g) := FnOk.envOf (by
  intro x hx; cases hx)
set_option maxHeartbeats 1000000 in
theorem impl_far_main (n : Int) (H : AHeap) (K : Value → AHeap → Prop) (h : T_impl_far n H fun (r1 : Int) (H' : AHeap) => K (.int .i64 r1) H') : bodyK Try.prog E_impl_far Try.f85 [.int .i64 n] H K := by
  rw [impl_far_vc]
  unfold T_impl_far p_impl_far at h
  repeat' (first | exact h | (exfalso; simp_all; done) | (refine ⟨by decide, ?_⟩) | (refine Br.intro (fun hb => ?_) (fun hb => ?_) <;> (try simp only [hb, cond_true, cond_false, Bool.not_true, Bool.not_false] at h)))
theorem impl_far_ok : FnOk Try.prog 85 S_impl_far := by
  refine FnOk.body mix_ok E_impl_far_ok Try.func85 rfl (by kernel_rfl) (by kernel_rfl) ?_ ?_ ?_ ?_ ?_
  · intro args H K K' h hk
    simp only [S_impl_far] at *
    unfold F_impl_far at *
    split at hk
    · have k := hk
      exact h _ _ k
    · exact hk.elim
  · intro _ args H K hk
    simp only [S_impl_far] at *
    unfold F_impl_far at *
    split at hk
    · have k := hk
      exact ⟨_, k, fun K' k' => k'⟩
    · exact hk.elim
  · intro args H K hk
    simp only [S_impl_far] at *
    unfold F_impl_far at *
    split at hk
    · have k := hk
      exact ⟨_, _, k⟩
    · exact hk.elim
  · intro hq; cases hq
  · have mm := @impl_far_main
    revert mm
    generalize bodyK Try.prog E_impl_far Try.f85 = Q
    intro mm args H K hk
    simp only [S_impl_far] at *
    unfold F_impl_far at *
    split at hk
    · exact mm _ H K hk
    · exact hk.elim
def math_bits_Len64_tab : ByteArray := (⟨#[0, 1, 2, 2, 3, 3, 3, 3, 4, 4, 4, 4, 4, 4, 4, 4, 5, 5, 5, 5, 5, 5, 5, 5, 5, 5, 5, 5, 5, 5, 5, 5, 6, 6, 6, 6, 6, 6, 6, 6, 6, 6, 6, 6, 6, 6, 6, 6, 6, 6, 6, 6, 6, 6, 6, 6, 6, 6, 6, 6, 6, 6, 6, 6, 7, 7, 7, 7, 7, 7, 7, 7, 7, 7, 7, 7, 7, 7, 7, 7, 7, 7, 7, 7, 7, 7, 7, 7, 7, 7, 7, 7, 7, 7, 7, 7, 7, 7, 7, 7, 7, 7, 7, 7, 7, 7, 7, 7, 7, 7, 7, 7, 7, 7, 7, 7, 7, 7, 7, 7, 7, 7, 7, 7, 7, 7, 7, 7, 8, 8, 8, 8, 8, 8, 8, 8, 8, 8, 8, 8, 8, 8, 8, 8, 8, 8, 8, 8, 8, 8, 8, 8, 8, 8, 8, 8, 8, 8, 8, 8, 8, 8, 8, 8, 8, 8, 8, 8, 8, 8, 8, 8, 8, 8, 8, 8, 8, 8, 8, 8, 8, 8, 8, 8, 8, 8, 8, 8, 8, 8, 8, 8, 8, 8, 8, 8, 8, 8, 8, 8, 8, 8, 8, 8, 8, 8, 8, 8, 8, 8, 8, 8, 8, 8, 8, 8, 8, 8, 8, 8, 8, 8, 8, 8, 8, 8, 8, 8, 8, 8, 8, 8, 8, 8, 8, 8, 8, 8, 8, 8, 8, 8, 8, 8, 8, 8, 8, 8, 8, 8, 8, 8, 8, 8, 8, 8]⟩ : ByteArray)
theorem math_bits_Len64_tab_size : math_bits_Len64_tab.data.size = 256 := by decide +kernel
def p_math_bits_Len64 (x : Int) : Int := (bif decide ((4294967296 : Int) ≤ x) then (bif decide ((65536 : Int) ≤ Int.fdiv x (2 ^ (min (32 : Int).toNat (IntKind.bits .u64)))) then (bif decide ((256 : Int) ≤ Int.fdiv (Int.fdiv x (2 ^ (min (32 : Int).toNat (IntKind.bits .u64)))) (2 ^ (min (16 : Int).toNat (IntKind.bits .u64)))) then IntKind.wrap .i64 ((IntKind.wrap .i64 ((32 + 16) + 8)) + (IntKind.wrap .i64 (((sAt math_bits_Len64_tab (IntKind.wrap .u8 (Int.fdiv (Int.fdiv (Int.fdiv x (2 ^ (min (32 : Int).toNat (IntKind.bits .u64)))) (2 ^ (min (16 : Int).toNat (IntKind.bits .u64)))) (2 ^ (min (8 : Int).toNat (IntKind.bits .u64)))) : Int).toNat).toNat : Int)))) else IntKind.wrap .i64 ((32 + 16) + (IntKind.wrap .i64 (((sAt math_bits_Len64_tab (IntKind.wrap .u8 (Int.fdiv (Int.fdiv x (2 ^ (min (32 : Int).toNat (IntKind.bits .u64)))) (2 ^ (min (16 : Int).toNat (IntKind.bits .u64)))) : Int).toNat).toNat : Int))))) else (bif decide ((256 : Int) ≤ Int.fdiv x (2 ^ (min (32 : Int).toNat (IntKind.bits .u64)))) then IntKind.wrap .i64 ((32 + 8) + (IntKind.wrap .i64 (((sAt math_bits_Len64_tab (IntKind.wrap .u8 (Int.fdiv (Int.fdiv x (2 ^ (min (32 : Int).toNat (IntKind.bits .u64)))) (2 ^ (min (8 : Int).toNat (IntKind.bits .u64)))) : Int).toNat).toNat : Int)))) else IntKind.wrap .i64 (32 + (IntKind.wrap .i64 (((sAt math_bits_Len64_tab (IntKind.wrap .u8 (Int.fdiv x (2 ^ (min (32 : Int).toNat (IntKind.bits .u64)))) : Int).toNat).toNat : Int)))))) else (bif decide ((65536 : Int) ≤ x) then (bif decide ((256 : Int) ≤ Int.fdiv x (2 ^ (min (16 : Int).toNat (IntKind.bits .u64)))) then IntKind.wrap .i64 ((IntKind.wrap .i64 ((0 + 16) + 8)) + (IntKind.wrap .i64 (((sAt math_bits_Len64_tab (IntKind.wrap .u8 (Int.fdiv (Int.fdiv x (2 ^ (min (16 : Int).toNat (IntKind.bits .u64)))) (2 ^ (min (8 : Int).toNat (IntKind.bits .u64)))) : Int).toNat).toNat : Int)))) else IntKind.wrap .i64 ((0 + 16) + (IntKind.wrap .i64 (((sAt math_bits_Len64_tab (IntKind.wrap .u8 (Int.fdiv x (2 ^ (min (16 : Int).toNat (IntKind.bits .u64)))) : Int).toNat).toNat : Int))))) else (bif decide ((256 : Int) ≤ x) then IntKind.wrap .i64 ((0 + 8) + (IntKind.wrap .i64 (((sAt math_bits_Len64_tab (IntKind.wrap .u8 (Int.fdiv x (2 ^ (min (8 : Int).toNat (IntKind.bits .u64)))) : Int).toNat).toNat : Int)))) else IntKind.wrap .i64 (0 + (IntKind.wrap .i64 (((sAt math_bits_Len64_tab (IntKind.wrap .u8 x : Int).toNat).toNat : Int)))))))
theorem p_math_bits_Len64_eq (x : Int) : p_math_bits_Len64 x = (bif decide ((4294967296 : Int) ≤ x) then (bif decide ((65536 : Int) ≤ Int.fdiv x (2 ^ (min (32 : Int).toNat (IntKind.bits .u64)))) then (bif decide ((256 : Int) ≤ Int.fdiv (Int.fdiv x (2 ^ (min (32 : Int).toNat (IntKind.bits .u64)))) (2 ^ (min (16 : Int).toNat (IntKind.bits .u64)))) then IntKind.wrap .i64 ((IntKind.wrap .i64 ((32 + 16) + 8)) + (IntKind.wrap .i64 (((sAt math_bits_Len64_tab (IntKind.wrap .u8 (Int.fdiv (Int.fdiv (Int.fdiv x (2 ^ (min (32 : Int).toNat (IntKind.bits .u64)))) (2 ^ (min (16 : Int).toNat (IntKind.bits .u64)))) (2 ^ (min (8 : Int).toNat (IntKind.bits .u64)))) : Int).toNat).toNat : Int)))) else IntKind.wrap .i64 ((32 + 16) + (IntKind.wrap .i64 (((sAt math_bits_Len64_tab (IntKind.wrap .u8 (Int.fdiv (Int.fdiv x (2 ^ (min (32 : Int).toNat (IntKind.bits .u64)))) (2 ^ (min (16 : Int).toNat (IntKind.bits .u64)))) : Int).toNat).toNat : Int))))) else (bif decide ((256 : Int) ≤ Int.fdiv x (2 ^ (min (32 : Int).toNat (IntKind.bits .u64)))) then IntKind.wrap .i64 ((32 + 8) + (IntKind.wrap .i64 (((sAt math_bits_Len64_tab (IntKind.wrap .u8 (Int.fdiv (Int.fdiv x (2 ^ (min (32 : Int).toNat (IntKind.bits .u64)))) (2 ^ (min (8 : Int).toNat (IntKind.bits .u64)))) : Int).toNat).toNat : Int)))) else IntKind.wrap .i64 (32 + (IntKind.wrap .i64 (((sAt math_bits_Len64_tab (IntKind.wrap .u8 (Int.fdiv x (2 ^ (min (32 : Int).toNat (IntKind.bits .u64)))) : Int).toNat).toNat : Int)))))) else (bif decide ((65536 : Int) ≤ x) then (bif decide ((256 : Int) ≤ Int.fdiv x (2 ^ (min (16 : Int).toNat (IntKind.bits .u64)))) then IntKind.wrap .i64 ((IntKind.wrap .i64 ((0 + 16) + 8)) + (IntKind.wrap .i64 (((sAt math_bits_Len64_tab (IntKind.wrap .u8 (Int.fdiv (Int.fdiv x (2 ^ (min (16 : Int).toNat (IntKind.bits .u64)))) (2 ^ (min (8 : Int).toNat (IntKind.bits .u64)))) : Int).toNat).toNat : Int)))) else IntKind.wrap .i64 ((0 + 16) + (IntKind.wrap .i64 (((sAt math_bits_Len64_tab (IntKind.wrap .u8 (Int.fdiv x (2 ^ (min (16 : Int).toNat (IntKind.bits .u64)))) : Int).toNat).toNat : Int))))) else (bif decide ((256 : Int) ≤ x) then IntKind.wrap .i64 ((0 + 8) + (IntKind.wrap .i64 (((sAt math_bits_Len64_tab (IntKind.wrap .u8 (Int.fdiv x (2 ^ (min (8 : Int).toNat (IntKind.bits .u64)))) : Int).toNat).toNat : Int)))) else IntKind.wrap .i64 (0 + (IntKind.wrap .i64 (((sAt math_bits_Len64_tab (IntKind.wrap .u8 x : Int).toNat).toNat : Int))))))) := rfl
def T_math_bits_Len64 (x : Int) (H : AHeap) (K : Int → AHeap → Prop) : Prop := K (p_math_bits_Len64 x) H
theorem T_math_bits_Len64_i {x : Int} {H : AHeap} {K : Int → AHeap → Prop} (h : K (p_math_bits_Len64 x) H) : T_math_bits_Len64 x H K := h

/-! math_bits_Len64: function 86 -/
def E_math_bits_Len64 : Env := envOf []
def F_math_bits_Len64 : List Value → AHeap → (Value → AHeap → Prop) → Prop
  | [.int .u64 x], H, K => T_math_bits_Len64 x H fun (r1 : Int) (H' : AHeap) => K (.int .i64 r1) H'
  | _, _, _ => False
def S_math_bits_Len64 : FSpec := { F := F_math_bits_Len64, quiet := true, tame := false }
theorem math_bits_Len64_vc (x : Int) (H : AHeap) (K : Value → AHeap → Prop) : bodyK Try.prog E_math_bits_Len64 Try.f86 [.int .u64 x] H K =
  (Br (decide ((4294967296 : Int) ≤ x)) ((0 : Int) ≤ 32 ∧ Br (decide ((65536 : Int) ≤ Int.fdiv x (2 ^ (min (32 : Int).toNat (IntKind.bits .u64))))) ((0 : Int) ≤ 16 ∧ Br (decide ((256 : Int) ≤ Int.fdiv (Int.fdiv x (2 ^ (min (32 : Int).toNat (IntKind.bits .u64)))) (2 ^ (min (16 : Int).toNat (IntKind.bits .u64))))) ((0 : Int) ≤ 8 ∧ ∃ c1 : UInt8, (0 : Int) ≤ IntKind.wrap .u8 (Int.fdiv (Int.fdiv (Int.fdiv x (2 ^ (min (32 : Int).toNat (IntKind.bits .u64)))) (2 ^ (min (16 : Int).toNat (IntKind.bits .u64)))) (2 ^ (min (8 : Int).toNat (IntKind.bits .u64)))) ∧ (⟨#[0, 1, 2, 2, 3, 3, 3, 3, 4, 4, 4, 4, 4, 4, 4, 4, 5, 5, 5, 5, 5, 5, 5, 5, 5, 5, 5, 5, 5, 5, 5, 5, 6, 6, 6, 6, 6, 6, 6, 6, 6, 6, 6, 6, 6, 6, 6, 6, 6, 6, 6, 6, 6, 6, 6, 6, 6, 6, 6, 6, 6, 6, 6, 6, 7, 7, 7, 7, 7, 7, 7, 7, 7, 7, 7, 7, 7, 7, 7, 7, 7, 7, 7, 7, 7, 7, 7, 7, 7, 7, 7, 7, 7, 7, 7, 7, 7, 7, 7, 7, 7, 7, 7, 7, 7, 7, 7, 7, 7, 7, 7, 7, 7, 7, 7, 7, 7, 7, 7, 7, 7, 7, 7, 7, 7, 7, 7, 7, 8, 8, 8, 8, 8, 8, 8, 8, 8, 8, 8, 8, 8, 8, 8, 8, 8, 8, 8, 8, 8, 8, 8, 8, 8, 8, 8, 8, 8, 8, 8, 8, 8, 8, 8, 8, 8, 8, 8, 8, 8, 8, 8, 8, 8, 8, 8, 8, 8, 8, 8, 8, 8, 8, 8, 8, 8, 8, 8, 8, 8, 8, 8, 8, 8, 8, 8, 8, 8, 8, 8, 8, 8, 8, 8, 8, 8, 8, 8, 8, 8, 8, 8, 8, 8, 8, 8, 8, 8, 8, 8, 8, 8, 8, 8, 8, 8, 8, 8, 8, 8, 8, 8, 8, 8, 8, 8, 8, 8, 8, 8, 8, 8, 8, 8, 8, 8, 8, 8, 8, 8, 8, 8, 8, 8, 8, 8, 8]⟩ : ByteArray)[(IntKind.wrap .u8 (Int.fdiv (Int.fdiv (Int.fdiv x (2 ^ (min (32 : Int).toNat (IntKind.bits .u64)))) (2 ^ (min (16 : Int).toNat (IntKind.bits .u64)))) (2 ^ (min (8 : Int).toNat (IntKind.bits .u64)))) : Int).toNat]? = some c1 ∧ K (.int .i64 (IntKind.wrap .i64 ((IntKind.wrap .i64 ((IntKind.wrap .i64 (32 + 16)) + 8)) + (IntKind.wrap .i64 (c1.toNat : Int))))) H) (∃ c2 : UInt8, (0 : Int) ≤ IntKind.wrap .u8 (Int.fdiv (Int.fdiv x (2 ^ (min (32 : Int).toNat (IntKind.bits .u64)))) (2 ^ (min (16 : Int).toNat (IntKind.bits .u64)))) ∧ (⟨#[0, 1, 2, 2, 3, 3, 3, 3, 4, 4, 4, 4, 4, 4, 4, 4, 5, 5, 5, 5, 5, 5, 5, 5, 5, 5, 5, 5, 5, 5, 5, 5, 6, 6, 6, 6, 6, 6, 6, 6, 6, 6, 6, 6, 6, 6, 6, 6, 6, 6, 6, 6, 6, 6, 6, 6, 6, 6, 6, 6, 6, 6, 6, 6, 7, 7, 7, 7, 7, 7, 7, 7, 7, 7, 7, 7, 7, 7, 7, 7, 7, 7, 7, 7, 7, 7, 7, 7, 7, 7, 7, 7, 7, 7, 7, 7, 7, 7, 7, 7, 7, 7, 7, 7, 7, 7, 7, 7, 7, 7, 7, 7, 7, 7, 7, 7, 7, 7, 7, 7, 7, 7, 7, 7, 7, 7, 7, 7, 8, 8, 8, 8, 8, 8, 8, 8, 8, 8, 8, 8, 8, 8, 8, 8, 8, 8, 8, 8, 8, 8, 8, 8, 8, 8, 8, 8, 8, 8, 8, 8, 8, 8, 8, 8, 8, 8, 8, 8, 8, 8, 8, 8, 8, 8, 8, 8, 8, 8, 8, 8, 8, 8, 8, 8, 8, 8, 8, 8, 8, 8, 8, 8, 8, 8, 8, 8, 8, 8, 8, 8, 8, 8, 8, 8, 8, 8, 8, 8, 8, 8, 8, 8, 8, 8, 8, 8, 8, 8, 8, 8, 8, 8, 8, 8, 8, 8, 8, 8, 8, 8, 8, 8, 8, 8, 8, 8, 8, 8, 8, 8, 8, 8, 8, 8, 8, 8, 8, 8, 8, 8, 8, 8, 8, 8, 8, 8]⟩ : ByteArray)[(IntKind.wrap .u8 (Int.fdiv (Int.fdiv x (2 ^ (min (32 : Int).toNat (IntKind.bits .u64)))) (2 ^ (min (16 : Int).toNat (IntKind.bits .u64)))) : Int).toNat]? = some c2 ∧ K (.int .i64 (IntKind.wrap .i64 ((IntKind.wrap .i64 (32 + 16)) + (IntKind.wrap .i64 (c2.toNat : Int))))) H)) (Br (decide ((256 : Int) ≤ Int.fdiv x (2 ^ (min (32 : Int).toNat (IntKind.bits .u64))))) ((0 : Int) ≤ 8 ∧ ∃ c3 : UInt8, (0 : Int) ≤ IntKind.wrap .u8 (Int.fdiv (Int.fdiv x (2 ^ (min (32 : Int).toNat (IntKind.bits .u64)))) (2 ^ (min (8 : Int).toNat (IntKind.bits .u64)))) ∧ (⟨#[0, 1, 2, 2, 3, 3, 3, 3, 4, 4, 4, 4, 4, 4, 4, 4, 5, 5, 5, 5, 5, 5, 5, 5, 5, 5, 5, 5, 5, 5, 5, 5, 6, 6, 6, 6, 6, 6, 6, 6, 6, 6, 6, 6, 6, 6, 6, 6, 6, 6, 6, 6, 6, 6, 6, 6, 6, 6, 6, 6, 6, 6, 6, 6, 7, 7, 7, 7, 7, 7, 7, 7, 7, 7, 7, 7, 7, 7, 7, 7, 7, 7, 7, 7, 7, 7, 7, 7, 7, 7, 7, 7, 7, 7, 7, 7, 7, 7, 7, 7, 7, 7, 7, 7, 7, 7, 7, 7, 7, 7, 7, 7, 7, 7, 7, 7, 7, 7, 7, 7, 7, 7, 7, 7, 7, 7, 7, 7, 8, 8, 8, 8, 8, 8, 8, 8, 8, 8, 8, 8, 8, 8, 8, 8, 8, 8, 8, 8, 8, 8, 8, 8, 8, 8, 8, 8, 8, 8, 8, 8, 8, 8, 8, 8, 8, 8, 8, 8, 8, 8, 8, 8, 8, 8, 8, 8, 8, 8, 8, 8, 8, 8, 8, 8, 8, 8, 8, 8, 8, 8, 8, 8, 8, 8, 8, 8, 8, 8, 8, 8, 8, 8, 8, 8, 8, 8, 8, 8, 8, 8, 8, 8, 8, 8, 8, 8, 8, 8, 8, 8, 8, 8, 8, 8, 8, 8, 8, 8, 8, 8, 8, 8, 8, 8, 8, 8, 8, 8, 8, 8, 8, 8, 8, 8, 8, 8, 8, 8, 8, 8, 8, 8, 8, 8, 8, 8]⟩ : ByteArray)[(IntKind.wrap .u8 (Int.fdiv (Int.fdiv x (2 ^ (min (32 : Int).toNat (IntKind.bits .u64)))) (2 ^ (min (8 : Int).toNat (IntKind.bits .u64)))) : Int).toNat]? = some c3 ∧ K (.int .i64 (IntKind.wrap .i64 ((IntKind.wrap .i64 (32 + 8)) + (IntKind.wrap .i64 (c3.toNat : Int))))) H) (∃ c4 : UInt8, (0 : Int) ≤ IntKind.wrap .u8 (Int.fdiv x (2 ^ (min (32 : Int).toNat (IntKind.bits .u64)))) ∧ (⟨#[0, 1, 2, 2, 3, 3, 3, 3, 4, 4, 4, 4, 4, 4, 4, 4, 5, 5, 5, 5, 5, 5, 5, 5, 5, 5, 5, 5, 5, 5, 5, 5, 6, 6, 6, 6, 6, 6, 6, 6, 6, 6, 6, 6, 6, 6, 6, 6, 6, 6, 6, 6, 6, 6, 6, 6, 6, 6, 6, 6, 6, 6, 6, 6, 7, 7, 7, 7, 7, 7, 7, 7, 7, 7, 7, 7, 7, 7, 7, 7, 7, 7, 7, 7, 7, 7, 7, 7, 7, 7, 7, 7, 7, 7, 7, 7, 7, 7, 7, 7, 7, 7, 7, 7, 7, 7, 7, 7, 7, 7, 7, 7, 7, 7, 7, 7, 7, 7, 7, 7, 7, 7, 7, 7, 7, 7, 7, 7, 8, 8, 8, 8, 8, 8, 8, 8, 8, 8, 8, 8, 8, 8, 8, 8, 8, 8, 8, 8, 8, 8, 8, 8, 8, 8, 8, 8, 8, 8, 8, 8, 8, 8, 8, 8, 8, 8, 8, 8, 8, 8, 8, 8, 8, 8, 8, 8, 8, 8, 8, 8, 8, 8, 8, 8, 8, 8, 8, 8, 8, 8, 8, 8, 8, 8, 8, 8, 8, 8, 8, 8, 8, 8, 8, 8, 8, 8, 8, 8, 8, 8, 8, 8, 8, 8, 8, 8, 8, 8, 8, 8, 8, 8, 8, 8, 8, 8, 8, 8, 8, 8, 8, 8, 8, 8, 8, 8, 8, 8, 8, 8, 8, 8, 8, 8, 8, 8, 8, 8, 8, 8, 8, 8, 8, 8, 8, 8]⟩ : ByteArray)[(IntKind.wrap .u8 (Int.fdiv x (2 ^ (min (32 : Int).toNat (IntKind.bits .u64)))) : Int).toNat]? = some c4 ∧ K (.int .i64 (IntKind.wrap .i64 (32 + (IntKind.wrap .i64 (c4.toNat : Int))))) H))) (Br (decide ((65536 : Int) ≤ x)) ((0 : Int) ≤ 16 ∧ Br (decide ((256 : Int) ≤ Int.fdiv x (2 ^ (min (16 : Int).toNat (IntKind.bits .u64))))) ((0 : Int) ≤ 8 ∧ ∃ c5 : UInt8, (0 : Int) ≤ IntKind.wrap .u8 (Int.fdiv (Int.fdiv x (2 ^ (min (16 : Int).toNat (IntKind.bits .u64)))) (2 ^ (min (8 : Int).toNat (IntKind.bits .u64)))) ∧ (⟨#[0, 1, 2, 2, 3, 3, 3, 3, 4, 4, 4, 4, 4, 4, 4, 4, 5, 5, 5, 5, 5, 5, 5, 5, 5, 5, 5, 5, 5, 5, 5, 5, 6, 6, 6, 6, 6, 6, 6, 6, 6, 6, 6, 6, 6, 6, 6, 6, 6, 6, 6, 6, 6, 6, 6, 6, 6, 6, 6, 6, 6, 6, 6, 6, 7, 7, 7, 7, 7, 7, 7, 7, 7, 7, 7, 7, 7, 7, 7, 7, 7, 7, 7, 7, 7, 7, 7, 7, 7, 7, 7, 7, 7, 7, 7, 7, 7, 7, 7, 7, 7, 7, 7, 7, 7, 7, 7, 7, 7, 7, 7, 7, 7, 7, 7, 7, 7, 7, 7, 7, 7, 7, 7, 7, 7, 7, 7, 7, 8, 8, 8, 8, 8, 8, 8, 8, 8, 8, 8, 8, 8, 8, 8, 8, 8, 8, 8, 8, 8, 8, 8, 8, 8, 8, 8, 8, 8, 8, 8, 8, 8, 8, 8, 8, 8, 8, 8, 8, 8, 8, 8, 8, 8, 8, 8, 8, 8, 8, 8, 8, 8, 8, 8, 8, 8, 8, 8, 8, 8, 8, 8, 8, 8, 8, 8, 8, 8, 8, 8, 8, 8, 8, 8, 8, 8, 8, 8, 8, 8, 8, 8, 8, 8, 8, 8, 8, 8, 8, 8, 8, 8, 8, 8, 8, 8, 8, 8, 8, 8, 8, 8, 8, 8, 8, 8, 8, 8, 8, 8, 8, 8, 8, 8, 8, 8, 8, 8, 8, 8, 8, 8, 8, 8, 8, 8, 8]⟩ : ByteArray)[(IntKind.wrap .u8 (Int.fdiv (Int.fdiv x (2 ^ (min (16 : Int).toNat (IntKind.bits .u64)))) (2 ^ (min (8 : Int).toNat (IntKind.bits .u64)))) : Int).toNat]? = some c5 ∧ K (.int .i64 (IntKind.wrap .i64 ((IntKind.wrap .i64 ((IntKind.wrap .i64 (0 + 16)) + 8)) + (IntKind.wrap .i64 (c5.toNat : Int))))) H) (∃ c6 : UInt8, (0 : Int) ≤ IntKind.wrap .u8 (Int.fdiv x (2 ^ (min (16 : Int).toNat (IntKind.bits .u64)))) ∧ (⟨#[0, 1, 2, 2, 3, 3, 3, 3, 4, 4, 4, 4, 4, 4, 4, 4, 5, 5, 5, 5, 5, 5, 5, 5, 5, 5, 5, 5, 5, 5, 5, 5, 6, 6, 6, 6, 6, 6, 6, 6, 6, 6, 6, 6, 6, 6, 6, 6, 6, 6, 6, 6, 6, 6, 6, 6, 6, 6, 6, 6, 6, 6, 6, 6, 7, 7, 7, 7, 7, 7, 7, 7, 7, 7, 7, 7, 7, 7, 7, 7, 7, 7, 7, 7, 7, 7, 7, 7, 7, 7, 7, 7, 7, 7, 7, 7, 7, 7, 7, 7, 7, 7, 7, 7, 7, 7, 7, 7, 7, 7, 7, 7, 7, 7, 7, 7, 7, 7, 7, 7, 7, 7, 7, 7, 7, 7, 7, 7, 8, 8, 8, 8, 8, 8, 8, 8, 8, 8, 8, 8, 8, 8, 8, 8, 8, 8, 8, 8, 8, 8, 8, 8, 8, 8, 8, 8, 8, 8, 8, 8, 8, 8, 8, 8, 8, 8, 8, 8, 8, 8, 8, 8, 8, 8, 8, 8, 8, 8, 8, 8, 8, 8, 8, 8, 8, 8, 8, 8, 8, 8, 8, 8, 8, 8, 8, 8, 8, 8, 8, 8, 8, 8, 8, 8, 8, 8, 8, 8, 8, 8, 8, 8, 8, 8, 8, 8, 8, 8, 8, 8, 8, 8, 8, 8, 8, 8, 8, 8, 8, 8, 8, 8, 8, 8, 8, 8, 8, 8, 8, 8, 8, 8, 8, 8, 8, 8, 8, 8, 8, 8, 8, 8, 8, 8, 8, 8]⟩ : ByteArray)[(IntKind.wrap .u8 (Int.fdiv x (2 ^ (min (16 : Int).toNat (IntKind.bits .u64)))) : Int).toNat]? = some c6 ∧ K (.int .i64 (IntKind.wrap .i64 ((IntKind.wrap .i64 (0 + 16)) + (IntKind.wrap .i64 (c6.toNat : Int))))) H)) (Br (decide ((256 : Int) ≤ x)) ((0 : Int) ≤ 8 ∧ ∃ c7 : UInt8, (0 : Int) ≤ IntKind.wrap .u8 (Int.fdiv x (2 ^ (min (8 : Int).toNat (IntKind.bits .u64)))) ∧ (⟨#[0, 1, 2, 2, 3, 3, 3, 3, 4, 4, 4, 4, 4, 4, 4, 4, 5, 5, 5, 5, 5, 5, 5, 5, 5, 5, 5, 5, 5, 5, 5, 5, 6, 6, 6, 6, 6, 6, 6, 6, 6, 6, 6, 6, 6, 6, 6, 6, 6, 6, 6, 6, 6, 6, 6, 6, 6, 6, 6, 6, 6, 6, 6, 6, 7, 7, 7, 7, 7, 7, 7, 7, 7, 7, 7, 7, 7, 7, 7, 7, 7, 7, 7, 7, 7, 7, 7, 7, 7, 7, 7, 7, 7, 7, 7, 7, 7, 7, 7, 7, 7, 7, 7, 7, 7, 7, 7, 7, 7, 7, 7, 7, 7, 7, 7, 7, 7, 7, 7, 7, 7, 7, 7, 7, 7, 7, 7, 7, 8, 8, 8, 8, 8, 8, 8, 8, 8, 8, 8, 8, 8, 8, 8, 8, 8, 8, 8, 8, 8, 8, 8, 8, 8, 8, 8, 8, 8, 8, 8, 8, 8, 8, 8, 8, 8, 8, 8, 8, 8, 8, 8, 8, 8, 8, 8, 8, 8, 8, 8, 8, 8, 8, 8, 8, 8, 8, 8, 8, 8, 8, 8, 8, 8, 8, 8, 8, 8, 8, 8, 8, 8, 8, 8, 8, 8, 8, 8, 8, 8, 8, 8, 8, 8, 8, 8, 8, 8, 8, 8, 8, 8, 8, 8, 8, 8, 8, 8, 8, 8, 8, 8, 8, 8, 8, 8, 8, 8, 8, 8, 8, 8, 8, 8, 8, 8, 8, 8, 8, 8, 8, 8, 8, 8, 8, 8, 8]⟩ : ByteArray)[(IntKind.wrap .u8 (Int.fdiv x (2 ^ (min (8 : Int).toNat (IntKind.bits .u64)))) : Int).toNat]? = some c7 ∧ K (.int .i64 (IntKind.wrap .i64 ((IntKind.wrap .i64 (0 + 8)) + (IntKind.wrap .i64 (c7.toNat : Int))))) H) (∃ c8 : UInt8, (0 : Int) ≤ IntKind.wrap .u8 x ∧ (⟨#[0, 1, 2, 2, 3, 3, 3, 3, 4, 4, 4, 4, 4, 4, 4, 4, 5, 5, 5, 5, 5, 5, 5, 5, 5, 5, 5, 5, 5, 5, 5, 5, 6, 6, 6, 6, 6, 6, 6, 6, 6, 6, 6, 6, 6, 6, 6, 6, 6, 6, 6, 6, 6, 6, 6, 6, 6, 6, 6, 6, 6, 6, 6, 6, 7, 7, 7, 7, 7, 7, 7, 7, 7, 7, 7, 7, 7, 7, 7, 7, 7, 7, 7, 7, 7, 7, 7, 7, 7, 7, 7, 7, 7, 7, 7, 7, 7, 7, 7, 7, 7, 7, 7, 7, 7, 7, 7, 7, 7, 7, 7, 7, 7, 7, 7, 7, 7, 7, 7, 7, 7, 7, 7, 7, 7, 7, 7, 7, 8, 8, 8, 8, 8, 8, 8, 8, 8, 8, 8, 8, 8, 8, 8, 8, 8, 8, 8, 8, 8, 8, 8, 8, 8, 8, 8, 8, 8, 8, 8, 8, 8, 8, 8, 8, 8, 8, 8, 8, 8, 8, 8, 8, 8, 8, 8, 8, 8, 8, 8, 8, 8, 8, 8, 8, 8, 8, 8, 8, 8, 8, 8, 8, 8, 8, 8, 8, 8, 8, 8, 8, 8, 8, 8, 8, 8, 8, 8, 8, 8, 8, 8, 8, 8, 8, 8, 8, 8, 8, 8, 8, 8, 8, 8, 8, 8, 8, 8, 8, 8, 8, 8, 8, 8, 8, 8, 8, 8, 8, 8, 8, 8, 8, 8, 8, 8, 8, 8, 8, 8, 8, 8, 8, 8, 8, 8, 8]⟩ : ByteArray)[(IntKind.wrap .u8 x : Int).toNat]? = some c8 ∧ K (.int .i64 (IntKind.wrap .i64 (0 + (IntKind.wrap .i64 (c8.toNat : Int))))) H)))) := by kernel_rfl
theorem E_math_bits_Len64_ok : ∀ g, FnOk Try.prog g (E_math_bits_Len64 g) := FnOk.envOf (by
  intro x hx; cases hx)
set_option maxHeartbeats 1000000 in
theorem math_bits_Len64_main (x : Int) (H : AHeap) (K : Value → AHeap → Prop) (h : T_math_bits_Len64 x H fun (r1 : Int) (H' : AHeap) => K (.int .i64 r1) H') : bodyK Try.prog E_math_bits_Len64 Try.f86 [.int .u64 x] H K := by
  rw [math_bits_Len64_vc]
  have hk := h
  unfold T_math_bits_Len64 at hk
  have e : (p_math_bits_Len64 x) = _ := rfl
  have e := e.trans (p_math_bits_Len64_eq x)
  have g0 := Grow.refl H
  refine Br.intro (fun c_1 => ?_) (fun c_1 => ?_)
  · have e := e.trans (cond_t c_1)
    have c_1' := of_decide_eq_true c_1
    refine ⟨(by first | omega | decide | (simp; done) | (simp; omega)), ?_⟩
    refine Br.intro (fun c_2 => ?_) (fun c_2 => ?_)
    · have e := e.trans (cond_t c_2)
      have c_2' := of_decide_eq_true c_2
      refine ⟨(by first | omega | decide | (simp; done) | (simp; omega)), ?_⟩
      rw [show IntKind.wrap .i64 (32 + 16) = (32 + 16) from wrap64 (by omega) (by omega)]
      refine Br.intro (fun c_3 => ?_) (fun c_3 => ?_)
      · have e := e.trans (cond_t c_3)
        have c_3' := of_decide_eq_true c_3
        refine ⟨(by first | omega | decide | (simp; done) | (simp; omega)), ?_⟩
        have z_4 := wrapu8_rng (Int.fdiv (Int.fdiv (Int.fdiv x (2 ^ (min (32 : Int).toNat (IntKind.bits .u64)))) (2 ^ (min (16 : Int).toNat (IntKind.bits .u64)))) (2 ^ (min (8 : Int).toNat (IntKind.bits .u64))))
        refine ⟨sAt math_bits_Len64_tab (IntKind.wrap .u8 (Int.fdiv (Int.fdiv (Int.fdiv x (2 ^ (min (32 : Int).toNat (IntKind.bits .u64)))) (2 ^ (min (16 : Int).toNat (IntKind.bits .u64)))) (2 ^ (min (8 : Int).toNat (IntKind.bits .u64)))) : Int).toNat, by omega, sAt_some (s := math_bits_Len64_tab) (by rw [math_bits_Len64_tab_size]; omega), ?_⟩
        rw [e] at hk
        exact hk
      · have e := e.trans (cond_f c_3)
        have c_3' := of_decide_eq_false c_3
        have z_5 := wrapu8_rng (Int.fdiv (Int.fdiv x (2 ^ (min (32 : Int).toNat (IntKind.bits .u64)))) (2 ^ (min (16 : Int).toNat (IntKind.bits .u64))))
        refine ⟨sAt math_bits_Len64_tab (IntKind.wrap .u8 (Int.fdiv (Int.fdiv x (2 ^ (min (32 : Int).toNat (IntKind.bits .u64)))) (2 ^ (min (16 : Int).toNat (IntKind.bits .u64)))) : Int).toNat, by omega, sAt_some (s := math_bits_Len64_tab) (by rw [math_bits_Len64_tab_size]; omega), ?_⟩
        rw [e] at hk
        exact hk
    · have e := e.trans (cond_f c_2)
      have c_2' := of_decide_eq_false c_2
      refine Br.intro (fun c_6 => ?_) (fun c_6 => ?_)
      · have e := e.trans (cond_t c_6)
        have c_6' := of_decide_eq_true c_6
        refine ⟨(by first | omega | decide | (simp; done) | (simp; omega)), ?_⟩
        rw [show IntKind.wrap .i64 (32 + 8) = (32 + 8) from wrap64 (by omega) (by omega)]
        have z_7 := wrapu8_rng (Int.fdiv (Int.fdiv x (2 ^ (min (32 : Int).toNat (IntKind.bits .u64)))) (2 ^ (min (8 : Int).toNat (IntKind.bits .u64))))
        refine ⟨sAt math_bits_Len64_tab (IntKind.wrap .u8 (Int.fdiv (Int.fdiv x (2 ^ (min (32 : Int).toNat (IntKind.bits .u64)))) (2 ^ (min (8 : Int).toNat (IntKind.bits .u64)))) : Int).toNat, by omega, sAt_some (s := math_bits_Len64_tab) (by rw [math_bits_Len64_tab_size]; omega), ?_⟩
        rw [e] at hk
        exact hk
      · have e := e.trans (cond_f c_6)
        have c_6' := of_decide_eq_false c_6
        have z_8 := wrapu8_rng (Int.fdiv x (2 ^ (min (32 : Int).toNat (IntKind.bits .u64))))
        refine ⟨sAt math_bits_Len64_tab (IntKind.wrap .u8 (Int.fdiv x (2 ^ (min (32 : Int).toNat (IntKind.bits .u64)))) : Int).toNat, by omega, sAt_some (s := math_bits_Len64_tab) (by rw [math_bits_Len64_tab_size]; omega), ?_⟩
        rw [e] at hk
        exact hk
  · have e := e.trans (cond_f c_1)
    have c_1' := of_decide_eq_false c_1
    refine Br.intro (fun c_9 => ?_) (fun c_9 => ?_)
    · have e := e.trans (cond_t c_9)
      have c_9' := of_decide_eq_true c_9
      refine ⟨(by first | omega | decide | (simp; done) | (simp; omega)), ?_⟩
      rw [show IntKind.wrap .i64 (0 + 16) = (0 + 16) from wrap64 (by omega) (by omega)]
      refine Br.intro (fun c_10 => ?_) (fun c_10 => ?_)
      · have e := e.trans (cond_t c_10)
        have c_10' := of_decide_eq_true c_10
        refine ⟨(by first | omega | decide | (simp; done) | (simp; omega)), ?_⟩
        have z_11 := wrapu8_rng (Int.fdiv (Int.fdiv x (2 ^ (min (16 : Int).toNat (IntKind.bits .u64)))) (2 ^ (min (8 : Int).toNat (IntKind.bits .u64))))
        refine ⟨sAt math_bits_Len64_tab (IntKind.wrap .u8 (Int.fdiv (Int.fdiv x (2 ^ (min (16 : Int).toNat (IntKind.bits .u64)))) (2 ^ (min (8 : Int).toNat (IntKind.bits .u64)))) : Int).toNat, by omega, sAt_some (s := math_bits_Len64_tab) (by rw [math_bits_Len64_tab_size]; omega), ?_⟩
        rw [e] at hk
        exact hk
      · have e := e.trans (cond_f c_10)
        have c_10' := of_decide_eq_false c_10
        have z_12 := wrapu8_rng (Int.fdiv x (2 ^ (min (16 : Int).toNat (IntKind.bits .u64))))
        refine ⟨sAt math_bits_Len64_tab (IntKind.wrap .u8 (Int.fdiv x (2 ^ (min (16 : Int).toNat (IntKind.bits .u64)))) : Int).toNat, by omega, sAt_some (s := math_bits_Len64_tab) (by rw [math_bits_Len64_tab_size]; omega), ?_⟩
        rw [e] at hk
        exact hk
    · have e := e.trans (cond_f c_9)
      have c_9' := of_decide_eq_false c_9
      refine Br.intro (fun c_13 => ?_) (fun c_13 => ?_)
      · have e := e.trans (cond_t c_13)
        have c_13' := of_decide_eq_true c_13
        refine ⟨(by first | omega | decide | (simp; done) | (simp; omega)), ?_⟩
        rw [show IntKind.wrap .i64 (0 + 8) = (0 + 8) from wrap64 (by omega) (by omega)]
        have z_14 := wrapu8_rng (Int.fdiv x (2 ^ (min (8 : Int).toNat (IntKind.bits .u64))))
        refine ⟨sAt math_bits_Len64_tab (IntKind.wrap .u8 (Int.fdiv x (2 ^ (min (8 : Int).toNat (IntKind.bits .u64)))) : Int).toNat, by omega, sAt_some (s := math_bits_Len64_tab) (by rw [math_bits_Len64_tab_size]; omega), ?_⟩
        rw [e] at hk
        exact hk
      · have e := e.trans (cond_f c_13)
        have c_13' := of_decide_eq_false c_13
        have z_15 := wrapu8_rng x
        refine ⟨sAt math_bits_Len64_tab (IntKind.wrap .u8 x : Int).toNat, by omega, sAt_some (s := math_bits_Len64_tab) (by rw [math_bits_Len64_tab_size]; omega), ?_⟩
        rw [e] at hk
        exact hk
theorem math_bits_Len64_ok : FnOk Try.prog 86 S_math_bits_Len64 := by
  refine FnOk.body mix_ok E_math_bits_Len64_ok Try.func86 rfl (by kernel_rfl) (by kernel_rfl) ?_ ?_ ?_ ?_ ?_
  · intro args H K K' h hk
    simp only [S_math_bits_Len64] at *
    unfold F_math_bits_Len64 at *
    split at hk
    · have k := hk
      exact h _ _ k
    · exact hk.elim
  · intro _ args H K hk
    simp only [S_math_bits_Len64] at *
    unfold F_math_bits_Len64 at *
    split at hk
    · have k := hk
      exact ⟨_, k, fun K' k' => k'⟩
    · exact hk.elim
  · intro args H K hk
    simp only [S_math_bits_Len64] at *
    unfold F_math_bits_Len64 at *
    split at hk
    · have k := hk
      exact ⟨_, _, k⟩
    · exact hk.elim
  · intro hq; cases hq
  · have mm := @math_bits_Len64_main
    revert mm
    generalize bodyK Try.prog E_math_bits_Len64 Try.f86 = Q
    intro mm args H K hk
    simp only [S_math_bits_Len64] at *
    unfold F_math_bits_Len64 at *
    split at hk
    · exact mm _ H K hk
    · exact hk.elim
def p_impl_planesFor_l1 (l_list : List Int) : Nat → Int → Int → Int
  | 0, _, _ => 0
  | μ + 1, vmost, t8 => (bif decide ((t8 : Int) < (l_list.length : Int)) then (p_impl_planesFor_l1 l_list μ ((if ((p_impl_far (((l_list).getD (t8 : Int).toNat 0))) : Int) > vmost then (p_impl_far (((l_list).getD (t8 : Int).toNat 0))) else vmost)) (t8 + 1)) else (p_math_bits_Len64 (IntKind.wrap .u64 vmost)))
theorem p_impl_planesFor_l1_s (l_list : List Int) (μ : Nat) (vmost : Int) (t8 : Int) : p_impl_planesFor_l1 l_list (μ + 1) vmost t8 = (bif decide ((t8 : Int) < (l_list.length : Int)) then (p_impl_planesFor_l1 l_list μ ((if ((p_impl_far (((l_list).getD (t8 : Int).toNat 0))) : Int) > vmost then (p_impl_far (((l_list).getD (t8 : Int).toNat 0))) else vmost)) (t8 + 1)) else (p_math_bits_Len64 (IntKind.wrap .u64 vmost))) := rfl
def p_impl_planesFor (l_list : List Int) : Int := (p_impl_planesFor_l1 l_list (Int.toNat ((l_list.length : Int) - (0 : Int)) + 1) (0 : Int) (0 : Int))
theorem p_impl_planesFor_eq (l_list : List Int) : p_impl_planesFor l_list = (p_impl_planesFor_l1 l_list (Int.toNat ((l_list.length : Int) - (0 : Int)) + 1) (0 : Int) (0 : Int)) := rfl
def T_impl_planesFor (list_a : Option Addr) (list_n : Nat) (list_e : Nat) (H : AHeap) (K : Int → AHeap → Prop) : Prop := ∃ (l_list : List Int), IsL fI H list_a list_n l_list ∧ l_list.length < 1073741824 ∧ K (p_impl_planesFor l_list) H
theorem T_impl_planesFor_i {list_a : Option Addr} {list_n : Nat} {list_e : Nat} {H : AHeap} {K : Int → AHeap → Prop} (h : ∃ (l_list : List Int), IsL fI H list_a list_n l_list ∧ l_list.length < 1073741824 ∧ K (p_impl_planesFor l_list) H) : T_impl_planesFor list_a list_n list_e H K := h

/-! impl_planesFor: function 70 -/
def E_impl_planesFor : Env := envOf [(85, S_impl_far), (86, S_math_bits_Len64)]
def F_impl_planesFor : List Value → AHeap → (Value → AHeap → Prop) → Prop
  | [.slice list_a list_n list_e], H, K => T_impl_planesFor list_a list_n list_e H fun (r1 : Int) (H' : AHeap) => K (.int .i64 r1) H'
  | _, _, _ => False
def S_impl_planesFor : FSpec := { F := F_impl_planesFor, quiet := true, tame := false }
theorem impl_planesFor_vc (list_a : Option Addr) (list_n : Nat) (list_e : Nat) (H : AHeap) (K : Value → AHeap → Prop) : bodyK Try.prog E_impl_planesFor Try.f70 [.slice list_a list_n list_e] H K =
  (loopK (exK Try.prog E_impl_planesFor (cl (cl (cr (cl (cr (cr (bodyC Try.f70)))))))) [.slice list_a list_n list_e, undef, .int .i64 0, .int .i64 0, undef, undef, .slice list_a list_n list_e, .int .i64 (list_n : Int), .int .i64 0, undef, undef, undef, undef, undef, undef, undef, undef, undef, undef, undef] H (blockQ 0 (seqQ (exK Try.prog E_impl_planesFor (cr (cr (cr (bodyC Try.f70))))) (retK Try.prog Try.f70 K)))) := by kernel_rfl
theorem impl_planesFor_r1 (list_a : Option Addr) (list_e : Nat) (list_n : Nat) (vmost : Int) (t8 : Int) (g5 g9 g10 g11 g12 g13 g14 g15 g16 : Value) (H : AHeap) (R : Post) : exK Try.prog E_impl_planesFor (cl (cl (cr (cl (cr (cr (bodyC Try.f70))))))) [.slice list_a list_n list_e, undef, .int .i64 0, .int .i64 vmost, undef, g5, .slice list_a list_n list_e, .int .i64 (list_n : Int), .int .i64 t8, g9, g10, g11, g12, g13, g14, g15, g16, undef, undef, undef] H R =
  (Br (decide ((t8 : Int) < (list_n : Int))) ((0 : Int) ≤ t8 ∧ t8 < (list_n : Int) ∧ ∃ b1 f1, (list_a : Option Addr) = some ⟨b1, f1, none⟩ ∧ ∃ x1 : Int,  rdC H b1 (f1 + (t8 : Int).toNat * 1) = some (.int .i64 x1) ∧ T_impl_far x1 H fun (r1 : Int) (H1 : AHeap) => R .normal [.slice list_a list_n list_e, undef, .int .i64 0, .int .i64 ((if (r1 : Int) > vmost then r1 else vmost)), undef, .int .i64 x1, .slice list_a list_n list_e, .int .i64 (list_n : Int), .int .i64 (IntKind.wrap .i64 (t8 + 1)), .bool (decide ((t8 : Int) < (list_n : Int))), .pointer (some ⟨b1, f1 + (t8 : Int).toNat * 1, none⟩), .int .i64 x1, .int .i64 vmost, .int .i64 x1, .int .i64 r1, .int .i64 ((if (r1 : Int) > vmost then r1 else vmost)), .int .i64 (IntKind.wrap .i64 (t8 + 1)), undef, undef, undef] H1) (R (.exit 0) [.slice list_a list_n list_e, undef, .int .i64 0, .int .i64 vmost, undef, g5, .slice list_a list_n list_e, .int .i64 (list_n : Int), .int .i64 t8, .bool (decide ((t8 : Int) < (list_n : Int))), g10, g11, g12, g13, g14, g15, g16, undef, undef, undef] H)) := by kernel_rfl
def impl_planesFor_I1 (list_a : Option Addr) (list_e : Nat) (list_n : Nat) (Inv : Nat → Int → Int → AHeap → Prop) : Nat → List Value → AHeap → Prop := fun μ tm H => ∃ (vmost : Int), ∃ (t8 : Int), ∃ g5 g9 g10 g11 g12 g13 g14 g15 g16, tm = [.slice list_a list_n list_e, undef, .int .i64 0, .int .i64 vmost, undef, g5, .slice list_a list_n list_e, .int .i64 (list_n : Int), .int .i64 t8, g9, g10, g11, g12, g13, g14, g15, g16, undef, undef, undef] ∧ Inv μ vmost t8 H
theorem impl_planesFor_L1 (list_a : Option Addr) (list_e : Nat) (list_n : Nat) {Q : Post} (Inv : Nat → Int → Int → AHeap → Prop) (ν : Nat) (vmost : Int) (t8 : Int) (g5 g9 g10 g11 g12 g13 g14 g15 g16 : Value) (H : AHeap) (h0 : Inv ν vmost t8 H)
    (hs : ∀ (μ : Nat) (vmost : Int) (t8 : Int) (g5 g9 g10 g11 g12 g13 g14 g15 g16 : Value) (H : AHeap), Inv μ vmost t8 H → exK Try.prog E_impl_planesFor (cl (cl (cr (cl (cr (cr (bodyC Try.f70))))))) [.slice list_a list_n list_e, undef, .int .i64 0, .int .i64 vmost, undef, g5, .slice list_a list_n list_e, .int .i64 (list_n : Int), .int .i64 t8, g9, g10, g11, g12, g13, g14, g15, g16, undef, undef, undef] H (loopQ (impl_planesFor_I1 list_a list_e list_n Inv) μ Q)) : loopK (exK Try.prog E_impl_planesFor (cl (cl (cr (cl (cr (cr (bodyC Try.f70)))))))) [.slice list_a list_n list_e, undef, .int .i64 0, .int .i64 vmost, undef, g5, .slice list_a list_n list_e, .int .i64 (list_n : Int), .int .i64 t8, g9, g10, g11, g12, g13, g14, g15, g16, undef, undef, undef] H Q :=
  ⟨impl_planesFor_I1 list_a list_e list_n Inv, ν, ⟨vmost, t8, g5, g9, g10, g11, g12, g13, g14, g15, g16, rfl, h0⟩, fun μ tm H h => by obtain ⟨vmost, t8, g5, g9, g10, g11, g12, g13, g14, g15, g16, rfl, hI⟩ := h; exact hs μ vmost t8 g5 g9 g10 g11 g12 g13 g14 g15 g16 H hI⟩
theorem impl_planesFor_n1 {list_a : Option Addr} {list_e : Nat} {list_n : Nat} {Q : Post} {Inv : Nat → Int → Int → AHeap → Prop} {μ : Nat} (μ' : Nat) {vmost : Int} {t8 : Int} {g5 g9 g10 g11 g12 g13 g14 g15 g16 : Value} {H : AHeap} (hm : μ' < μ) (hI : Inv μ' vmost t8 H) : loopQ (impl_planesFor_I1 list_a list_e list_n Inv) μ Q .normal [.slice list_a list_n list_e, undef, .int .i64 0, .int .i64 vmost, undef, g5, .slice list_a list_n list_e, .int .i64 (list_n : Int), .int .i64 t8, g9, g10, g11, g12, g13, g14, g15, g16, undef, undef, undef] H := ⟨μ', hm, vmost, t8, g5, g9, g10, g11, g12, g13, g14, g15, g16, rfl, hI⟩
theorem impl_planesFor_x1_0 (list_a : Option Addr) (list_e : Nat) (list_n : Nat) (vmost : Int) (t8 : Int) (g5 g9 g10 g11 g12 g13 g14 g15 g16 : Value) (H : AHeap) (K : Value → AHeap → Prop)  {I : Nat → List Value → AHeap → Prop} {μ : Nat} : loopQ I μ (blockQ 0 (seqQ (exK Try.prog E_impl_planesFor (cr (cr (cr (bodyC Try.f70))))) (retK Try.prog Try.f70 K))) (.exit 0) [.slice list_a list_n list_e, undef, .int .i64 0, .int .i64 vmost, undef, g5, .slice list_a list_n list_e, .int .i64 (list_n : Int), .int .i64 t8, g9, g10, g11, g12, g13, g14, g15, g16, undef, undef, undef] H =
  (T_math_bits_Len64 (IntKind.wrap .u64 vmost) H fun (r2 : Int) (H2 : AHeap) => K (.int .i64 r2) H2) := by kernel_rfl
theorem E_impl_planesFor_ok : ∀ g, FnOk Try.prog g (E_impl_planesFor g) := FnOk.envOf (by
  intro x hx
  simp only [List.mem_cons, List.not_mem_nil, or_false] at hx
  rcases hx with rfl | rfl
  · exact impl_far_ok
  · exact math_bits_Len64_ok)
set_option maxHeartbeats 1000000 in
theorem impl_planesFor_main (list_a : Option Addr) (list_n : Nat) (list_e : Nat) (H : AHeap) (K : Value → AHeap → Prop) (h : T_impl_planesFor list_a list_n list_e H fun (r1 : Int) (H' : AHeap) => K (.int .i64 r1) H') : bodyK Try.prog E_impl_planesFor Try.f70 [.slice list_a list_n list_e] H K := by
  rw [impl_planesFor_vc]
  obtain ⟨l_list, i_list, bd_8, hk⟩ := h
  obtain rfl := i_list.eqn
  have e : (p_impl_planesFor l_list) = _ := rfl
  have e := e.trans (p_impl_planesFor_eq l_list)
  have g0 := Grow.refl H
  refine impl_planesFor_L1 _ _ _ (fun (μ : Nat) (vmost : Int) (t8 : Int) (H_1 : AHeap) => H = H_1 ∧ (0 : Int) ≤ t8 ∧ t8 ≤ (l_list.length : Int) ∧ (l_list.length : Int) - t8 ≤ (μ : Int) ∧ p_impl_planesFor l_list = p_impl_planesFor_l1 l_list (μ + 1) vmost t8) (Int.toNat ((l_list.length : Int) - (0 : Int))) _ _ _ _ _ _ _ _ _ _ _ H ?_ ?_
  · exact ⟨rfl, (by first | omega | (simp; done) | (simp; omega)), (by first | omega | (simp; done) | (simp; omega)), (by omega), e⟩
  · intro μ vmost t8 g5 g9 g10 g11 g12 g13 g14 g15 g16 H_1 hI
    obtain ⟨rfl, v_1, v_2, hμ, e⟩ := hI
    rw [impl_planesFor_r1]
    have e := e.trans (p_impl_planesFor_l1_s l_list μ vmost t8)
    have l_3 := g0.1
    refine Br.intro (fun c_4 => ?_) (fun c_4 => ?_)
    · have e := e.trans (cond_t c_4)
      have c_4' := of_decide_eq_true c_4
      obtain ⟨b_5, f_6, q_7⟩ := ((i_list.grow g0)).pos (by first | omega | (simp only [List.length_set, List.length_replicate, List.length_append, List.length_cons, List.length_nil, List.length_take, List.length_drop, marks_length]; done) | (simp only [List.length_set, List.length_replicate, List.length_append, List.length_cons, List.length_nil, List.length_take, List.length_drop, marks_length]; omega))
      refine ⟨by omega, by omega, b_5, f_6, q_7, ?_⟩
      refine ⟨((l_list).getD (t8 : Int).toNat 0), (i_list).rd g0 q_7 (by omega) _, ?_⟩
      refine T_impl_far_i ?_
      rw [show IntKind.wrap .i64 (t8 + 1) = (t8 + 1) from wrap64 (by omega) (by omega)]
      refine impl_planesFor_n1 (μ - 1) (by first | omega) ⟨rfl, (by first | omega | (simp only [List.length_append, List.length_cons, List.length_nil, List.length_set]; done) | (simp only [List.length_append, List.length_cons, List.length_nil, List.length_set]; omega)), (by first | omega | (simp only [List.length_append, List.length_cons, List.length_nil, List.length_set]; done) | (simp only [List.length_append, List.length_cons, List.length_nil, List.length_set]; omega)), (by first | omega), (by rw [show μ - 1 + 1 = μ from by first | omega]; exact e)⟩
    · have e := e.trans (cond_f c_4)
      have c_4' := of_decide_eq_false c_4
      rw [impl_planesFor_x1_0]
      refine T_math_bits_Len64_i ?_
      rw [e] at hk
      exact hk
theorem impl_planesFor_ok : FnOk Try.prog 70 S_impl_planesFor := by
  refine FnOk.body mix_ok E_impl_planesFor_ok Try.func70 rfl (by kernel_rfl) (by kernel_rfl) ?_ ?_ ?_ ?_ ?_
  · intro args H K K' h hk
    simp only [S_impl_planesFor] at *
    unfold F_impl_planesFor at *
    split at hk
    · obtain ⟨l_list, i_list, bd_8, k⟩ := hk
      exact ⟨l_list, i_list, bd_8, h _ _ k⟩
    · exact hk.elim
  · intro _ args H K hk
    simp only [S_impl_planesFor] at *
    unfold F_impl_planesFor at *
    split at hk
    · obtain ⟨l_list, i_list, bd_8, k⟩ := hk
      exact ⟨_, k, fun K' k' => ⟨l_list, i_list, bd_8, k'⟩⟩
    · exact hk.elim
  · intro args H K hk
    simp only [S_impl_planesFor] at *
    unfold F_impl_planesFor at *
    split at hk
    · obtain ⟨l_list, i_list, bd_8, k⟩ := hk
      exact ⟨_, _, k⟩
    · exact hk.elim
  · intro hq; cases hq
  · have mm := @impl_planesFor_main
    revert mm
    generalize bodyK Try.prog E_impl_planesFor Try.f70 = Q
    intro mm args H K hk
    simp only [S_impl_planesFor] at *
    unfold F_impl_planesFor at *
    split at hk
    · exact mm _ _ _ H K hk
    · exact hk.elim
def p_impl_PlanesFor (l_list : List Int) : Int × Bool := (bif !(p_impl_AreIntegers l_list) then ((0 : Int), false) else ((p_impl_planesFor l_list), true))
theorem p_impl_PlanesFor_eq (l_list : List Int) : p_impl_PlanesFor l_list = (bif !(p_impl_AreIntegers l_list) then ((0 : Int), false) else ((p_impl_planesFor l_list), true)) := rfl
def T_impl_PlanesFor (list_a : Option Addr) (list_n : Nat) (list_e : Nat) (H : AHeap) (K : Int → Bool → AHeap → Prop) : Prop := ∃ (l_list : List Int), IsL fI H list_a list_n l_list ∧ l_list.length < 1073741824 ∧ K ((p_impl_PlanesFor l_list).1) ((p_impl_PlanesFor l_list).2) H
theorem T_impl_PlanesFor_i {list_a : Option Addr} {list_n : Nat} {list_e : Nat} {H : AHeap} {K : Int → Bool → AHeap → Prop} (h : ∃ (l_list : List Int), IsL fI H list_a list_n l_list ∧ l_list.length < 1073741824 ∧ K ((p_impl_PlanesFor l_list).1) ((p_impl_PlanesFor l_list).2) H) : T_impl_PlanesFor list_a list_n list_e H K := h

/-! impl_PlanesFor: function 37 -/
def E_impl_PlanesFor : Env := envOf [(66, S_impl_AreIntegers), (70, S_impl_planesFor)]
def F_impl_PlanesFor : List Value → AHeap → (Value → AHeap → Prop) → Prop
  | [.slice list_a list_n list_e], H, K => T_impl_PlanesFor list_a list_n list_e H fun (r1 : Int) (r2 : Bool) (H' : AHeap) => K (.tuple #[.int .i64 r1, .bool r2]) H'
  | _, _, _ => False
def S_impl_PlanesFor : FSpec := { F := F_impl_PlanesFor, quiet := true, tame := false }
theorem impl_PlanesFor_vc (list_a : Option Addr) (list_n : Nat) (list_e : Nat) (H : AHeap) (K : Value → AHeap → Prop) : bodyK Try.prog E_impl_PlanesFor Try.f37 [.slice list_a list_n list_e] H K =
  (T_impl_AreIntegers list_a list_n list_e H fun (r1 : Bool) (H1 : AHeap) => Br (!r1) (K (.tuple #[.int .i64 0, .bool false]) H1) (T_impl_planesFor list_a list_n list_e H1 fun (r2 : Int) (H2 : AHeap) => K (.tuple #[.int .i64 r2, .bool true]) H2)) := by kernel_rfl
theorem E_impl_PlanesFor_ok : ∀ g, FnOk Try.prog g (E_impl_PlanesFor g) := FnOk.envOf (by
  intro x hx
  simp only [List.mem_cons, List.not_mem_nil, or_false] at hx
  rcases hx with rfl | rfl
  · exact impl_AreIntegers_ok
  · exact impl_planesFor_ok)
set_option maxHeartbeats 1000000 in
theorem impl_PlanesFor_main (list_a : Option Addr) (list_n : Nat) (list_e : Nat) (H : AHeap) (K : Value → AHeap → Prop) (h : T_impl_PlanesFor list_a list_n list_e H fun (r1 : Int) (r2 : Bool) (H' : AHeap) => K (.tuple #[.int .i64 r1, .bool r2]) H') : bodyK Try.prog E_impl_PlanesFor Try.f37 [.slice list_a list_n list_e] H K := by
  rw [impl_PlanesFor_vc]
  obtain ⟨l_list, i_list, bd_2, hk⟩ := h
  obtain rfl := i_list.eqn
  have e : (p_impl_PlanesFor l_list) = _ := rfl
  have e := e.trans (p_impl_PlanesFor_eq l_list)
  have g0 := Grow.refl H
  refine T_impl_AreIntegers_i ⟨_, (i_list.grow g0), (by first | omega | (simp only [List.length_set, List.length_replicate, List.length_append, List.length_cons, List.length_nil, List.length_take, List.length_drop, marks_length]; done) | (simp only [List.length_set, List.length_replicate, List.length_append, List.length_cons, List.length_nil, List.length_take, List.length_drop, marks_length]; omega)), ?_⟩
  refine Br.intro (fun c_1 => ?_) (fun c_1 => ?_)
  · have e := e.trans (cond_t c_1)
    have c_1n := nf_of_t c_1
    rw [e] at hk
    exact hk
  · have e := e.trans (cond_f c_1)
    have c_1n := nt_of_f c_1
    refine T_impl_planesFor_i ⟨_, (i_list.grow g0), (by first | omega | (simp only [List.length_set, List.length_replicate, List.length_append, List.length_cons, List.length_nil, List.length_take, List.length_drop, marks_length]; done) | (simp only [List.length_set, List.length_replicate, List.length_append, List.length_cons, List.length_nil, List.length_take, List.length_drop, marks_length]; omega)), ?_⟩
    rw [e] at hk
    exact hk
theorem impl_PlanesFor_ok : FnOk Try.prog 37 S_impl_PlanesFor := by
  refine FnOk.body mix_ok E_impl_PlanesFor_ok Try.func37 rfl (by kernel_rfl) (by kernel_rfl) ?_ ?_ ?_ ?_ ?_
  · intro args H K K' h hk
    simp only [S_impl_PlanesFor] at *
    unfold F_impl_PlanesFor at *
    split at hk
    · obtain ⟨l_list, i_list, bd_2, k⟩ := hk
      exact ⟨l_list, i_list, bd_2, h _ _ k⟩
    · exact hk.elim
  · intro _ args H K hk
    simp only [S_impl_PlanesFor] at *
    unfold F_impl_PlanesFor at *
    split at hk
    · obtain ⟨l_list, i_list, bd_2, k⟩ := hk
      exact ⟨_, k, fun K' k' => ⟨l_list, i_list, bd_2, k'⟩⟩
    · exact hk.elim
  · intro args H K hk
    simp only [S_impl_PlanesFor] at *
    unfold F_impl_PlanesFor at *
    split at hk
    · obtain ⟨l_list, i_list, bd_2, k⟩ := hk
      exact ⟨_, _, k⟩
    · exact hk.elim
  · intro hq; cases hq
  · have mm := @impl_PlanesFor_main
    revert mm
    generalize bodyK Try.prog E_impl_PlanesFor Try.f37 = Q
    intro mm args H K hk
    simp only [S_impl_PlanesFor] at *
    unfold F_impl_PlanesFor at *
    split at hk
    · exact mm _ _ _ H K hk
    · exact hk.elim
def p_laws_eqInt64S_l1 (l_a : List Int) (l_b : List Int) : Nat → Bool → Int → Bool
  | 0, _, _ => false
  | μ + 1, t4, i => (bif decide ((i : Int) < (l_a.length : Int)) then (bif (((l_a).getD (i : Int).toNat 0) : Int) != ((l_b).getD (i : Int).toNat 0) then false else (p_laws_eqInt64S_l1 l_a l_b μ t4 (i + 1))) else true)
theorem p_laws_eqInt64S_l1_s (l_a : List Int) (l_b : List Int) (μ : Nat) (t4 : Bool) (i : Int) : p_laws_eqInt64S_l1 l_a l_b (μ + 1) t4 i = (bif decide ((i : Int) < (l_a.length : Int)) then (bif (((l_a).getD (i : Int).toNat 0) : Int) != ((l_b).getD (i : Int).toNat 0) then false else (p_laws_eqInt64S_l1 l_a l_b μ t4 (i + 1))) else true) := rfl
def p_laws_eqInt64S (l_a : List Int) (l_b : List Int) : Bool := ((bif ((l_a.length : Int) : Int) != (l_b.length : Int) then false else (p_laws_eqInt64S_l1 l_a l_b (Int.toNat ((l_a.length : Int) - (0 : Int)) + 1) false (0 : Int))))
theorem p_laws_eqInt64S_eq (l_a : List Int) (l_b : List Int) : p_laws_eqInt64S l_a l_b = ((bif ((l_a.length : Int) : Int) != (l_b.length : Int) then false else (p_laws_eqInt64S_l1 l_a l_b (Int.toNat ((l_a.length : Int) - (0 : Int)) + 1) false (0 : Int)))) := rfl
def T_laws_eqInt64S (a_a : Option Addr) (a_n : Nat) (a_e : Nat) (b_a : Option Addr) (b_n : Nat) (b_e : Nat) (H : AHeap) (K : Bool → AHeap → Prop) : Prop := ∃ (l_a : List Int), ∃ (l_b : List Int), IsL fI H a_a a_n l_a ∧ IsL fI H b_a b_n l_b ∧ l_a.length < 1073741824 ∧ l_b.length < 1073741824 ∧ K (p_laws_eqInt64S l_a l_b) H
theorem T_laws_eqInt64S_i {a_a : Option Addr} {a_n : Nat} {a_e : Nat} {b_a : Option Addr} {b_n : Nat} {b_e : Nat} {H : AHeap} {K : Bool → AHeap → Prop} (h : ∃ (l_a : List Int), ∃ (l_b : List Int), IsL fI H a_a a_n l_a ∧ IsL fI H b_a b_n l_b ∧ l_a.length < 1073741824 ∧ l_b.length < 1073741824 ∧ K (p_laws_eqInt64S l_a l_b) H) : T_laws_eqInt64S a_a a_n a_e b_a b_n b_e H K := h
theorem laws_eqInt64S_go (l : List Int) : ∀ (μ : Nat) (t : Bool) (i : Nat), l.length - i < μ → p_laws_eqInt64S_l1 l l μ t (i : Int) = true := by
  intro μ
  induction μ with
  | zero => intro t i h; omega
  | succ μ ih =>
    intro t i hm
    rw [p_laws_eqInt64S_l1_s]
    by_cases h : i < l.length
    · rw [decide_eq_true (show (i : Int) < (l.length : Int) by omega), cond_true]
      simp only [bne_self_eq_false, cond_false]
      exact ih t (i + 1) (by omega)
    · rw [decide_eq_false (show ¬ (i : Int) < (l.length : Int) by omega), cond_false]
theorem laws_eqInt64S_self (l : List Int) : p_laws_eqInt64S l l = true := by
  rw [p_laws_eqInt64S_eq]
  have h0 : ((l.length : Int) != (l.length : Int)) = false := by simp
  rw [h0, cond_false]
  exact laws_eqInt64S_go l _ false 0 (by omega)
/-! laws_eqInt64S: function 35 -/
def E_laws_eqInt64S : Env := envOf []
def F_laws_eqInt64S : List Value → AHeap → (Value → AHeap → Prop) → Prop
  | [.slice a_a a_n a_e, .slice b_a b_n b_e], H, K => T_laws_eqInt64S a_a a_n a_e b_a b_n b_e H fun (r1 : Bool) (H' : AHeap) => K (.bool r1) H'
  | _, _, _ => False
def S_laws_eqInt64S : FSpec := { F := F_laws_eqInt64S, quiet := true, tame := false }
theorem laws_eqInt64S_vc (a_a : Option Addr) (a_n : Nat) (a_e : Nat) (b_a : Option Addr) (b_n : Nat) (b_e : Nat) (H : AHeap) (K : Value → AHeap → Prop) : bodyK Try.prog E_laws_eqInt64S Try.f35 [.slice a_a a_n a_e, .slice b_a b_n b_e] H K =
  (Br (((a_n : Int) : Int) != (b_n : Int)) (K (.bool false) H) (loopK (exK Try.prog E_laws_eqInt64S (cl (cl (cr (cl (cr (cr (bodyC Try.f35)))))))) [.slice a_a a_n a_e, .slice b_a b_n b_e, undef, undef, .bool false, .int .i64 0, .slice a_a a_n a_e, .int .i64 (a_n : Int), .slice b_a b_n b_e, .int .i64 (b_n : Int), .bool (((a_n : Int) : Int) != (b_n : Int)), undef, undef, undef, undef, undef, undef, undef, undef, undef, undef, undef, undef, undef, undef, undef] H (blockQ 0 (seqQ (exK Try.prog E_laws_eqInt64S (cr (cr (cr (bodyC Try.f35))))) (retK Try.prog Try.f35 K))))) := by kernel_rfl
theorem laws_eqInt64S_r1 (a_a : Option Addr) (a_e : Nat) (a_n : Nat) (b_a : Option Addr) (b_e : Nat) (b_n : Nat) (t4 : Bool) (i : Int) (g11 g12 g13 g14 g15 g16 g17 g18 g19 g20 g21 g22 g23 g24 g25 : Value) (H : AHeap) (R : Post) : exK Try.prog E_laws_eqInt64S (cl (cl (cr (cl (cr (cr (bodyC Try.f35))))))) [.slice a_a a_n a_e, .slice b_a b_n b_e, undef, undef, .bool t4, .int .i64 i, .slice a_a a_n a_e, .int .i64 (a_n : Int), .slice b_a b_n b_e, .int .i64 (b_n : Int), .bool (((a_n : Int) : Int) != (b_n : Int)), g11, g12, g13, g14, g15, g16, g17, g18, g19, g20, g21, g22, g23, g24, g25] H R =
  (Br (decide ((i : Int) < (a_n : Int))) ((0 : Int) ≤ i ∧ i < (a_n : Int) ∧ ∃ b1 f1, (a_a : Option Addr) = some ⟨b1, f1, none⟩ ∧ ∃ x1 : Int,  rdC H b1 (f1 + (i : Int).toNat * 1) = some (.int .i64 x1) ∧ (0 : Int) ≤ i ∧ i < (b_n : Int) ∧ ∃ b2 f2, (b_a : Option Addr) = some ⟨b2, f2, none⟩ ∧ ∃ x2 : Int,  rdC H b2 (f2 + (i : Int).toNat * 1) = some (.int .i64 x2) ∧ Br ((x1 : Int) != x2) (R .ret [.slice a_a a_n a_e, .slice b_a b_n b_e, undef, undef, .bool false, .int .i64 i, .slice a_a a_n a_e, .int .i64 (a_n : Int), .slice b_a b_n b_e, .int .i64 (b_n : Int), .bool (((a_n : Int) : Int) != (b_n : Int)), .int .i64 i, .slice a_a a_n a_e, .int .i64 (a_n : Int), .bool (decide ((i : Int) < (a_n : Int))), g15, g16, .slice a_a a_n a_e, .int .i64 i, .pointer (some ⟨b1, f1 + (i : Int).toNat * 1, none⟩), .int .i64 x1, .slice b_a b_n b_e, .int .i64 i, .pointer (some ⟨b2, f2 + (i : Int).toNat * 1, none⟩), .int .i64 x2, .bool ((x1 : Int) != x2)] H) (R .normal [.slice a_a a_n a_e, .slice b_a b_n b_e, undef, undef, .bool t4, .int .i64 (IntKind.wrap .i64 (i + 1)), .slice a_a a_n a_e, .int .i64 (a_n : Int), .slice b_a b_n b_e, .int .i64 (b_n : Int), .bool (((a_n : Int) : Int) != (b_n : Int)), .int .i64 i, .slice a_a a_n a_e, .int .i64 (a_n : Int), .bool (decide ((i : Int) < (a_n : Int))), .int .i64 i, .int .i64 (IntKind.wrap .i64 (i + 1)), .slice a_a a_n a_e, .int .i64 i, .pointer (some ⟨b1, f1 + (i : Int).toNat * 1, none⟩), .int .i64 x1, .slice b_a b_n b_e, .int .i64 i, .pointer (some ⟨b2, f2 + (i : Int).toNat * 1, none⟩), .int .i64 x2, .bool ((x1 : Int) != x2)] H)) (R (.exit 0) [.slice a_a a_n a_e, .slice b_a b_n b_e, undef, undef, .bool t4, .int .i64 i, .slice a_a a_n a_e, .int .i64 (a_n : Int), .slice b_a b_n b_e, .int .i64 (b_n : Int), .bool (((a_n : Int) : Int) != (b_n : Int)), .int .i64 i, .slice a_a a_n a_e, .int .i64 (a_n : Int), .bool (decide ((i : Int) < (a_n : Int))), g15, g16, g17, g18, g19, g20, g21, g22, g23, g24, g25] H)) := by kernel_rfl
def laws_eqInt64S_I1 (a_a : Option Addr) (a_e : Nat) (a_n : Nat) (b_a : Option Addr) (b_e : Nat) (b_n : Nat) (Inv : Nat → Bool → Int → AHeap → Prop) : Nat → List Value → AHeap → Prop := fun μ tm H => ∃ (t4 : Bool), ∃ (i : Int), ∃ g11 g12 g13 g14 g15 g16 g17 g18 g19 g20 g21 g22 g23 g24 g25, tm = [.slice a_a a_n a_e, .slice b_a b_n b_e, undef, undef, .bool t4, .int .i64 i, .slice a_a a_n a_e, .int .i64 (a_n : Int), .slice b_a b_n b_e, .int .i64 (b_n : Int), .bool (((a_n : Int) : Int) != (b_n : Int)), g11, g12, g13, g14, g15, g16, g17, g18, g19, g20, g21, g22, g23, g24, g25] ∧ Inv μ t4 i H
theorem laws_eqInt64S_L1 (a_a : Option Addr) (a_e : Nat) (a_n : Nat) (b_a : Option Addr) (b_e : Nat) (b_n : Nat) {Q : Post} (Inv : Nat → Bool → Int → AHeap → Prop) (ν : Nat) (t4 : Bool) (i : Int) (g11 g12 g13 g14 g15 g16 g17 g18 g19 g20 g21 g22 g23 g24 g25 : Value) (H : AHeap) (h0 : Inv ν t4 i H)
    (hs : ∀ (μ : Nat) (t4 : Bool) (i : Int) (g11 g12 g13 g14 g15 g16 g17 g18 g19 g20 g21 g22 g23 g24 g25 : Value) (H : AHeap), Inv μ t4 i H → exK Try.prog E_laws_eqInt64S (cl (cl (cr (cl (cr (cr (bodyC Try.f35))))))) [.slice a_a a_n a_e, .slice b_a b_n b_e, undef, undef, .bool t4, .int .i64 i, .slice a_a a_n a_e, .int .i64 (a_n : Int), .slice b_a b_n b_e, .int .i64 (b_n : Int), .bool (((a_n : Int) : Int) != (b_n : Int)), g11, g12, g13, g14, g15, g16, g17, g18, g19, g20, g21, g22, g23, g24, g25] H (loopQ (laws_eqInt64S_I1 a_a a_e a_n b_a b_e b_n Inv) μ Q)) : loopK (exK Try.prog E_laws_eqInt64S (cl (cl (cr (cl (cr (cr (bodyC Try.f35)))))))) [.slice a_a a_n a_e, .slice b_a b_n b_e, undef, undef, .bool t4, .int .i64 i, .slice a_a a_n a_e, .int .i64 (a_n : Int), .slice b_a b_n b_e, .int .i64 (b_n : Int), .bool (((a_n : Int) : Int) != (b_n : Int)), g11, g12, g13, g14, g15, g16, g17, g18, g19, g20, g21, g22, g23, g24, g25] H Q :=
  ⟨laws_eqInt64S_I1 a_a a_e a_n b_a b_e b_n Inv, ν, ⟨t4, i, g11, g12, g13, g14, g15, g16, g17, g18, g19, g20, g21, g22, g23, g24, g25, rfl, h0⟩, fun μ tm H h => by obtain ⟨t4, i, g11, g12, g13, g14, g15, g16, g17, g18, g19, g20, g21, g22, g23, g24, g25, rfl, hI⟩ := h; exact hs μ t4 i g11 g12 g13 g14 g15 g16 g17 g18 g19 g20 g21 g22 g23 g24 g25 H hI⟩
theorem laws_eqInt64S_n1 {a_a : Option Addr} {a_e : Nat} {a_n : Nat} {b_a : Option Addr} {b_e : Nat} {b_n : Nat} {Q : Post} {Inv : Nat → Bool → Int → AHeap → Prop} {μ : Nat} (μ' : Nat) {t4 : Bool} {i : Int} {g11 g12 g13 g14 g15 g16 g17 g18 g19 g20 g21 g22 g23 g24 g25 : Value} {H : AHeap} (hm : μ' < μ) (hI : Inv μ' t4 i H) : loopQ (laws_eqInt64S_I1 a_a a_e a_n b_a b_e b_n Inv) μ Q .normal [.slice a_a a_n a_e, .slice b_a b_n b_e, undef, undef, .bool t4, .int .i64 i, .slice a_a a_n a_e, .int .i64 (a_n : Int), .slice b_a b_n b_e, .int .i64 (b_n : Int), .bool (((a_n : Int) : Int) != (b_n : Int)), g11, g12, g13, g14, g15, g16, g17, g18, g19, g20, g21, g22, g23, g24, g25] H := ⟨μ', hm, t4, i, g11, g12, g13, g14, g15, g16, g17, g18, g19, g20, g21, g22, g23, g24, g25, rfl, hI⟩
theorem laws_eqInt64S_x1_0 (a_a : Option Addr) (a_e : Nat) (a_n : Nat) (b_a : Option Addr) (b_e : Nat) (b_n : Nat) (t4 : Bool) (i : Int) (g11 g12 g13 g14 g15 g16 g17 g18 g19 g20 g21 g22 g23 g24 g25 : Value) (H : AHeap) (K : Value → AHeap → Prop)  {I : Nat → List Value → AHeap → Prop} {μ : Nat} : loopQ I μ (blockQ 0 (seqQ (exK Try.prog E_laws_eqInt64S (cr (cr (cr (bodyC Try.f35))))) (retK Try.prog Try.f35 K))) (.exit 0) [.slice a_a a_n a_e, .slice b_a b_n b_e, undef, undef, .bool t4, .int .i64 i, .slice a_a a_n a_e, .int .i64 (a_n : Int), .slice b_a b_n b_e, .int .i64 (b_n : Int), .bool (((a_n : Int) : Int) != (b_n : Int)), g11, g12, g13, g14, g15, g16, g17, g18, g19, g20, g21, g22, g23, g24, g25] H =
  (K (.bool true) H) := by kernel_rfl
theorem laws_eqInt64S_x1_ret (a_a : Option Addr) (a_e : Nat) (a_n : Nat) (b_a : Option Addr) (b_e : Nat) (b_n : Nat) (t4 : Bool) (i : Int) (g11 g12 g13 g14 g15 g16 g17 g18 g19 g20 g21 g22 g23 g24 g25 : Value) (H : AHeap) (K : Value → AHeap → Prop)  {I : Nat → List Value → AHeap → Prop} {μ : Nat} : loopQ I μ (blockQ 0 (seqQ (exK Try.prog E_laws_eqInt64S (cr (cr (cr (bodyC Try.f35))))) (retK Try.prog Try.f35 K))) .ret [.slice a_a a_n a_e, .slice b_a b_n b_e, undef, undef, .bool t4, .int .i64 i, .slice a_a a_n a_e, .int .i64 (a_n : Int), .slice b_a b_n b_e, .int .i64 (b_n : Int), .bool (((a_n : Int) : Int) != (b_n : Int)), g11, g12, g13, g14, g15, g16, g17, g18, g19, g20, g21, g22, g23, g24, g25] H =
  (K (.bool t4) H) := by kernel_rfl
theorem E_laws_eqInt64S_ok : ∀ g, FnOk Try.prog g (E_laws_eqInt64S g) := FnOk.envOf (by
  intro x hx; cases hx)
set_option maxHeartbeats 1000000 in
theorem laws_eqInt64S_main (a_a : Option Addr) (a_n : Nat) (a_e : Nat) (b_a : Option Addr) (b_n : Nat) (b_e : Nat) (H : AHeap) (K : Value → AHeap → Prop) (h : T_laws_eqInt64S a_a a_n a_e b_a b_n b_e H fun (r1 : Bool) (H' : AHeap) => K (.bool r1) H') : bodyK Try.prog E_laws_eqInt64S Try.f35 [.slice a_a a_n a_e, .slice b_a b_n b_e] H K := by
  rw [laws_eqInt64S_vc]
  obtain ⟨l_a, l_b, i_a, i_b, bd_13, bd_14, hk⟩ := h
  obtain rfl := i_a.eqn
  obtain rfl := i_b.eqn
  have e : (p_laws_eqInt64S l_a l_b) = _ := rfl
  have e := e.trans (p_laws_eqInt64S_eq l_a l_b)
  have g0 := Grow.refl H
  refine Br.intro (fun c_1 => ?_) (fun c_1 => ?_)
  · have e := e.trans (cond_t c_1)
    have c_1' := ine_t c_1
    rw [e] at hk
    exact hk
  · have e := e.trans (cond_f c_1)
    have c_1' := ine_f c_1
    refine laws_eqInt64S_L1 _ _ _ _ _ _ (fun (μ : Nat) (t4 : Bool) (i : Int) (H_1 : AHeap) => H = H_1 ∧ (0 : Int) ≤ i ∧ i ≤ (l_a.length : Int) ∧ (l_a.length : Int) - i ≤ (μ : Int) ∧ p_laws_eqInt64S l_a l_b = p_laws_eqInt64S_l1 l_a l_b (μ + 1) t4 i) (Int.toNat ((l_a.length : Int) - (0 : Int))) _ _ _ _ _ _ _ _ _ _ _ _ _ _ _ _ _ H ?_ ?_
    · exact ⟨rfl, (by first | omega | (simp; done) | (simp; omega)), (by first | omega | (simp; done) | (simp; omega)), (by omega), e⟩
    · intro μ t4 i g11 g12 g13 g14 g15 g16 g17 g18 g19 g20 g21 g22 g23 g24 g25 H_1 hI
      obtain ⟨rfl, v_2, v_3, hμ, e⟩ := hI
      rw [laws_eqInt64S_r1]
      have e := e.trans (p_laws_eqInt64S_l1_s l_a l_b μ t4 i)
      have l_4 := g0.1
      refine Br.intro (fun c_5 => ?_) (fun c_5 => ?_)
      · have e := e.trans (cond_t c_5)
        have c_5' := of_decide_eq_true c_5
        obtain ⟨b_6, f_7, q_8⟩ := ((i_a.grow g0)).pos (by first | omega | (simp only [List.length_set, List.length_replicate, List.length_append, List.length_cons, List.length_nil, List.length_take, List.length_drop, marks_length]; done) | (simp only [List.length_set, List.length_replicate, List.length_append, List.length_cons, List.length_nil, List.length_take, List.length_drop, marks_length]; omega))
        refine ⟨by omega, by omega, b_6, f_7, q_8, ?_⟩
        refine ⟨((l_a).getD (i : Int).toNat 0), (i_a).rd g0 q_8 (by omega) _, ?_⟩
        obtain ⟨b_9, f_10, q_11⟩ := ((i_b.grow g0)).pos (by first | omega | (simp only [List.length_set, List.length_replicate, List.length_append, List.length_cons, List.length_nil, List.length_take, List.length_drop, marks_length]; done) | (simp only [List.length_set, List.length_replicate, List.length_append, List.length_cons, List.length_nil, List.length_take, List.length_drop, marks_length]; omega))
        refine ⟨by omega, by omega, b_9, f_10, q_11, ?_⟩
        refine ⟨((l_b).getD (i : Int).toNat 0), (i_b).rd g0 q_11 (by omega) _, ?_⟩
        refine Br.intro (fun c_12 => ?_) (fun c_12 => ?_)
        · have e := e.trans (cond_t c_12)
          have c_12' := ine_t c_12
          rw [laws_eqInt64S_x1_ret]
          rw [e] at hk
          exact hk
        · have e := e.trans (cond_f c_12)
          have c_12' := ine_f c_12
          rw [show IntKind.wrap .i64 (i + 1) = (i + 1) from wrap64 (by omega) (by omega)]
          refine laws_eqInt64S_n1 (μ - 1) (by first | omega) ⟨rfl, (by first | omega | (simp only [List.length_append, List.length_cons, List.length_nil, List.length_set]; done) | (simp only [List.length_append, List.length_cons, List.length_nil, List.length_set]; omega)), (by first | omega | (simp only [List.length_append, List.length_cons, List.length_nil, List.length_set]; done) | (simp only [List.length_append, List.length_cons, List.length_nil, List.length_set]; omega)), (by first | omega), (by rw [show μ - 1 + 1 = μ from by first | omega]; exact e)⟩
      · have e := e.trans (cond_f c_5)
        have c_5' := of_decide_eq_false c_5
        rw [laws_eqInt64S_x1_0]
        rw [e] at hk
        exact hk
theorem laws_eqInt64S_ok : FnOk Try.prog 35 S_laws_eqInt64S := by
  refine FnOk.body mix_ok E_laws_eqInt64S_ok Try.func35 rfl (by kernel_rfl) (by kernel_rfl) ?_ ?_ ?_ ?_ ?_
  · intro args H K K' h hk
    simp only [S_laws_eqInt64S] at *
    unfold F_laws_eqInt64S at *
    split at hk
    · obtain ⟨l_a, l_b, i_a, i_b, bd_13, bd_14, k⟩ := hk
      exact ⟨l_a, l_b, i_a, i_b, bd_13, bd_14, h _ _ k⟩
    · exact hk.elim
  · intro _ args H K hk
    simp only [S_laws_eqInt64S] at *
    unfold F_laws_eqInt64S at *
    split at hk
    · obtain ⟨l_a, l_b, i_a, i_b, bd_13, bd_14, k⟩ := hk
      exact ⟨_, k, fun K' k' => ⟨l_a, l_b, i_a, i_b, bd_13, bd_14, k'⟩⟩
    · exact hk.elim
  · intro args H K hk
    simp only [S_laws_eqInt64S] at *
    unfold F_laws_eqInt64S at *
    split at hk
    · obtain ⟨l_a, l_b, i_a, i_b, bd_13, bd_14, k⟩ := hk
      exact ⟨_, _, k⟩
    · exact hk.elim
  · intro hq; cases hq
  · have mm := @laws_eqInt64S_main
    revert mm
    generalize bodyK Try.prog E_laws_eqInt64S Try.f35 = Q
    intro mm args H K hk
    simp only [S_laws_eqInt64S] at *
    unfold F_laws_eqInt64S at *
    split at hk
    · exact mm _ _ _ _ _ _ H K hk
    · exact hk.elim
def p_laws_FnExactPlanesFor (l_aList : List Int) : Bool := ((bif decide ((1048576 : Int) < (l_aList.length : Int)) then true else (bif ((p_impl_PlanesFor l_aList).1 : Int) != (p_spec_PlanesFor l_aList).1 then false else (bif !(((p_impl_PlanesFor l_aList).2) == ((p_spec_PlanesFor l_aList).2)) then false else (bif !(p_laws_eqInt64S l_aList l_aList) then false else true)))))
theorem p_laws_FnExactPlanesFor_eq (l_aList : List Int) : p_laws_FnExactPlanesFor l_aList = ((bif decide ((1048576 : Int) < (l_aList.length : Int)) then true else (bif ((p_impl_PlanesFor l_aList).1 : Int) != (p_spec_PlanesFor l_aList).1 then false else (bif !(((p_impl_PlanesFor l_aList).2) == ((p_spec_PlanesFor l_aList).2)) then false else (bif !(p_laws_eqInt64S l_aList l_aList) then false else true))))) := rfl
def T_laws_FnExactPlanesFor (aList_a : Option Addr) (aList_n : Nat) (aList_e : Nat) (H : AHeap) (K : Bool → AHeap → Prop) : Prop := ∃ l_aList : List Int, IsL fI H aList_a aList_n l_aList ∧ (∀ y ∈ l_aList, I64 y) ∧ l_aList.length ≤ 9223372036854775807 ∧ ∀ H' : AHeap, K true H'
theorem far_same {n : Int} (h : I64 n) : p_impl_far n = p_spec_l06Abs n := by
  unfold p_impl_far p_spec_l06Abs
  unfold I64 at h
  by_cases h0 : n < 0
  · rw [decide_eq_true h0, cond_true]
    by_cases hm : n = -9223372036854775808
    · subst hm; decide +kernel
    · rw [wrap64 (by omega) (by omega), if_pos (by omega)]
  · rw [decide_eq_false h0, cond_false, wrap64 (by omega) (by omega), if_neg (by omega)]
theorem within_go (l : List Int) (m : Int) : ∀ (μ : Nat) (t : Bool) (i : Int), p_impl_areWithin_l1 l m μ t i = p_spec_l02Bound_l1 l m μ t i := by
  intro μ
  induction μ with
  | zero => intro t i; rfl
  | succ μ ih => intro t i; rw [p_impl_areWithin_l1_s, p_spec_l02Bound_l1_s, ih]; rfl
theorem integers_same (l : List Int) : p_impl_AreIntegers l = p_spec_l02Integers l := by
  rw [p_impl_AreIntegers_eq, p_spec_l02Integers_eq, p_impl_areWithin_eq, p_spec_l02Bound_eq, within_go]
  unfold p_impl_within
  cases decide ((1 : Int) ≤ (l.length : Int)) <;> cases decide (((l.length : Int) : Int) ≤ 128) <;> rfl
def bl (a : Nat) : Nat := if a = 0 then 0 else a.log2 + 1
theorem bl_lt (k a : Nat) : k < bl a ↔ 2 ^ k ≤ a := by
  unfold bl
  by_cases h : a = 0
  · subst h
    have := Nat.two_pow_pos k
    rw [if_pos rfl]; omega
  · rw [if_neg h, ← Nat.le_log2 h]; omega
theorem bl_max (a b : Nat) : bl (max a b) = max (bl a) (bl b) := by
  have h : ∀ k, k < bl (max a b) ↔ k < max (bl a) (bl b) := by
    intro k
    have h1 := bl_lt k (max a b)
    have h2 := bl_lt k a
    have h3 := bl_lt k b
    generalize 2 ^ k = p at *
    omega
  have h1 := h (bl (max a b))
  have h2 := h (max (bl a) (bl b))
  omega
theorem bl_le {a : Nat} (h : a ≤ 1000000) : bl a ≤ 20 := by
  have := bl_lt 20 a
  rw [show (2 : Nat) ^ 20 = 1048576 from rfl] at this
  omega
theorem pl_cond {a n : Nat} (hn : n ≤ 20) : (Int.fdiv (a : Int) (2 ^ (min (IntKind.wrap .u64 (n : Int) : Int).toNat (IntKind.bits .i64))) != 0) = decide (n < bl a) := by
  rw [wrapu_id (by omega) (by omega), Int.toNat_natCast, show min n (IntKind.bits .i64) = n from by rw [show IntKind.bits .i64 = 64 from rfl]; omega, show ((2 : Int) ^ n) = ((2 ^ n : Nat) : Int) by simp, Int.fdiv_eq_ediv_of_nonneg _ (Int.natCast_nonneg _)]
  have hb := bl_lt n a
  have hp := Nat.two_pow_pos n
  generalize 2 ^ n = p at *
  rw [← Int.natCast_ediv]
  by_cases c : n < bl a
  · have h1 : 1 ≤ a / p := (Nat.one_le_div_iff hp).2 (hb.1 c)
    rw [decide_eq_true c]
    exact bne_iff_ne.2 (by omega)
  · have h1 : a / p = 0 := Nat.div_eq_of_lt (by omega)
    rw [decide_eq_false c, h1]; rfl
theorem tab_chk : ((List.range 256).all fun y => (sAt math_bits_Len64_tab y).toNat == bl y) = true := by decide +kernel
theorem tab_at {y : Nat} (h : y < 256) : (sAt math_bits_Len64_tab y).toNat = bl y := by
  have := List.all_eq_true.1 tab_chk y (List.mem_range.2 h)
  exact eq_of_beq this
theorem bl_div (x k : Nat) (h : 2 ^ k ≤ x) : bl x = k + bl (x / 2 ^ k) := by
  have g : ∀ j, j < bl (x / 2 ^ k) ↔ k + j < bl x := by
    intro j
    have h1 := bl_lt j (x / 2 ^ k)
    have h2 := bl_lt (k + j) x
    rw [h1, h2, Nat.pow_add, Nat.le_div_iff_mul_le (Nat.two_pow_pos k), Nat.mul_comm]
  have h0 := (bl_lt k x).2 h
  have g1 := g (bl (x / 2 ^ k))
  have g2 := g (bl x - k)
  omega
theorem len_small {x : Nat} (h : x ≤ 1000000) : p_math_bits_Len64 (x : Int) = (bl x : Int) := by
  have hb := bl_le h
  have p16 : ((2 : Int) ^ (min (16 : Int).toNat (IntKind.bits .u64))) = 65536 := by decide
  have p8 : ((2 : Int) ^ (min (8 : Int).toNat (IntKind.bits .u64))) = 256 := by decide
  have w : ∀ n : Int, 0 ≤ n → n ≤ 255 → IntKind.wrap .u8 n = n := fun n a b => wrapU8 a b
  rw [p_math_bits_Len64_eq, decide_eq_false (show ¬ (4294967296 : Int) ≤ x by omega), cond_false, p16, p8]
  by_cases c1 : (65536 : Int) ≤ x
  · have d := bl_div x 16 (by rw [show (2 : Nat) ^ 16 = 65536 from rfl]; omega)
    rw [show (2 : Nat) ^ 16 = 65536 from rfl] at d
    have e : Int.fdiv (x : Int) 65536 = ((x / 65536 : Nat) : Int) := by rw [Int.fdiv_eq_ediv_of_nonneg _ (by decide)]; omega
    rw [decide_eq_true c1, cond_true, e, decide_eq_false (show ¬ (256 : Int) ≤ ((x / 65536 : Nat) : Int) by omega), cond_false, w _ (by omega) (by omega), Int.toNat_natCast, tab_at (by omega), wrap64 (n := (bl (x / 65536) : Int)) (by omega) (by omega), wrap64 (by omega) (by omega)]
    omega
  · rw [decide_eq_false c1, cond_false]
    by_cases c2 : (256 : Int) ≤ x
    · have d := bl_div x 8 (by rw [show (2 : Nat) ^ 8 = 256 from rfl]; omega)
      rw [show (2 : Nat) ^ 8 = 256 from rfl] at d
      have e : Int.fdiv (x : Int) 256 = ((x / 256 : Nat) : Int) := by rw [Int.fdiv_eq_ediv_of_nonneg _ (by decide)]; omega
      rw [decide_eq_true c2, cond_true, e, w _ (by omega) (by omega), Int.toNat_natCast, tab_at (by omega), wrap64 (n := (bl (x / 256) : Int)) (by omega) (by omega), wrap64 (by omega) (by omega)]
      omega
    · rw [decide_eq_false c2, cond_false, w _ (by omega) (by omega), Int.toNat_natCast, tab_at (by omega), wrap64 (n := (bl x : Int)) (by omega) (by omega), wrap64 (by omega) (by omega)]
      omega
theorem planes_l2 (l : List Int) (n0 : Int) (i : Int) (K : Int → Int) (a : Nat) (ha : a ≤ 1000000) (he : p_spec_l06Abs (l.getD (i : Int).toNat 0) = (a : Int)) : ∀ (μ n : Nat), n ≤ 20 → bl a - n < μ → p_spec_l06Planes_l2 l n0 i K μ (n : Int) = K ((max n (bl a) : Nat) : Int) := by
  intro μ
  have hb := bl_le ha
  induction μ with
  | zero => intro n _ h; omega
  | succ μ ih =>
    intro n hn h
    rw [p_spec_l06Planes_l2_s, he, pl_cond hn]
    by_cases c : n < bl a
    · have := ih (n + 1) (by omega) (by omega)
      rw [show ((n + 1 : Nat) : Int) = (n : Int) + 1 by omega] at this
      rw [decide_eq_true c, cond_true, this]
      congr 2; omega
    · rw [decide_eq_false c, cond_false, show max n (bl a) = n by omega]
theorem planes_go (l : List Int) (hr : ∀ j : Nat, -1000000 ≤ l.getD j 0 ∧ l.getD j 0 ≤ 1000000) : ∀ (μ m : Nat) (i : Int), m ≤ 1000000 → 0 < μ → p_impl_planesFor_l1 l μ (m : Int) i = p_spec_l06Planes_l1 l μ (bl m : Int) i ∨ ¬ ((l.length : Int) - i < μ) := by
  intro μ
  induction μ with
  | zero => intro m i _ h; omega
  | succ μ ih =>
    intro m i hm _
    rw [p_impl_planesFor_l1_s, p_spec_l06Planes_l1_s]
    by_cases c : i < (l.length : Int)
    · by_cases hμ : 0 < μ
      · have r := hr (i : Int).toNat
        have ab := spec_abs_rng r
        have hb := bl_le hm
        obtain ⟨a, ha⟩ : ∃ a : Nat, p_spec_l06Abs (l.getD (i : Int).toNat 0) = (a : Int) := ⟨_, ab.2.2⟩
        have l2 := planes_l2 l (bl m : Int) i (fun (n_3 : Int) => (p_spec_l06Planes_l1 l μ n_3 (i + 1))) a (by omega) ha (Int.toNat (64 - (bl m : Int)) + 1) (bl m) hb (by have := bl_le (a := a) (by omega); omega)
        rw [decide_eq_true c, cond_true, cond_true, l2, far_same (by unfold I64; omega), ha, ← bl_max]
        have e : (if (a : Int) > (m : Int) then (a : Int) else (m : Int)) = ((max m a : Nat) : Int) := by split <;> omega
        rw [e]
        rcases ih (max m a) (i + 1) (by omega) hμ with q | q
        · left; exact q
        · right; omega
      · right; omega
    · left
      rw [decide_eq_false c, cond_false, cond_false, wrapu_id (by omega) (by omega), len_small hm]
theorem planes_same {l : List Int} (h : p_spec_l02Integers l = true) : p_impl_planesFor l = p_spec_l06Planes l := by
  have hi := spec_int_t h
  rw [p_impl_planesFor_eq, p_spec_l06Planes_eq]
  rcases planes_go l hi.2.2 (Int.toNat ((l.length : Int) - (0 : Int)) + 1) 0 0 (by decide) (by omega) with q | q
  · exact q
  · omega
theorem laws_FnExactPlanesFor_true (l_aList : List Int) (q0 : (∀ y ∈ l_aList, I64 y)) : p_laws_FnExactPlanesFor l_aList = true := by
  have e : p_impl_PlanesFor l_aList = p_spec_PlanesFor l_aList := by
    rw [p_impl_PlanesFor_eq, p_spec_PlanesFor_eq, integers_same]
    cases h : p_spec_l02Integers l_aList with
    | false => rfl
    | true => rw [planes_same h]
  rw [p_laws_FnExactPlanesFor_eq, e, laws_eqInt64S_self, bne_self_eq_false, beq_self_eq_true]
  cases decide ((1048576 : Int) < (l_aList.length : Int)) <;> rfl
/-! laws_FnExactPlanesFor: function 10 -/
def E_laws_FnExactPlanesFor : Env := envOf [(33, S_laws_toInt64S), (36, S_spec_PlanesFor), (37, S_impl_PlanesFor), (35, S_laws_eqInt64S)]
def F_laws_FnExactPlanesFor : List Value → AHeap → (Value → AHeap → Prop) → Prop
  | [.slice aList_a aList_n aList_e], H, K => T_laws_FnExactPlanesFor aList_a aList_n aList_e H fun (r1 : Bool) (H' : AHeap) => K (.bool r1) H'
  | _, _, _ => False
def S_laws_FnExactPlanesFor : FSpec := { F := F_laws_FnExactPlanesFor, quiet := false, tame := false }
theorem laws_FnExactPlanesFor_vc (aList_a : Option Addr) (aList_n : Nat) (aList_e : Nat) (H : AHeap) (K : Value → AHeap → Prop) : bodyK Try.prog E_laws_FnExactPlanesFor Try.f10 [.slice aList_a aList_n aList_e] H K =
  (Br (decide ((1048576 : Int) < (aList_n : Int))) (K (.bool true) H) (T_laws_toInt64S aList_a aList_n aList_e H fun (a1 : Option Addr) (r1 : Nat) (r2 : Nat) (H1 : AHeap) => T_spec_PlanesFor a1 r1 r2 H1 fun (r3 : Int) (r4 : Bool) (H2 : AHeap) => T_laws_toInt64S aList_a aList_n aList_e H2 fun (a2 : Option Addr) (r5 : Nat) (r6 : Nat) (H3 : AHeap) => T_impl_PlanesFor a2 r5 r6 H3 fun (r7 : Int) (r8 : Bool) (H4 : AHeap) => Br ((r7 : Int) != r3) (K (.bool false) H4) (Br (!(r8 == r4)) (K (.bool false) H4) (T_laws_toInt64S aList_a aList_n aList_e H4 fun (a3 : Option Addr) (r9 : Nat) (r10 : Nat) (H5 : AHeap) => T_laws_eqInt64S a2 r5 r6 a3 r9 r10 H5 fun (r11 : Bool) (H6 : AHeap) => Br (!r11) (K (.bool false) H6) (K (.bool true) H6))))) := by kernel_rfl
theorem E_laws_FnExactPlanesFor_ok : ∀ g, FnOk Try.prog g (E_laws_FnExactPlanesFor g) := FnOk.envOf (by
  intro x hx
  simp only [List.mem_cons, List.not_mem_nil, or_false] at hx
  rcases hx with rfl | rfl | rfl | rfl
  · exact laws_toInt64S_ok
  · exact spec_PlanesFor_ok
  · exact impl_PlanesFor_ok
  · exact laws_eqInt64S_ok)
set_option maxHeartbeats 1000000 in
theorem laws_FnExactPlanesFor_main (aList_a : Option Addr) (aList_n : Nat) (aList_e : Nat) (H : AHeap) (K : Value → AHeap → Prop) (h : T_laws_FnExactPlanesFor aList_a aList_n aList_e H fun (r1 : Bool) (H' : AHeap) => K (.bool r1) H') : bodyK Try.prog E_laws_FnExactPlanesFor Try.f10 [.slice aList_a aList_n aList_e] H K := by
  rw [laws_FnExactPlanesFor_vc]
  obtain ⟨l_aList, h_0, h_1, h_2, hk⟩ := h
  have i_aList := h_0
  obtain rfl := i_aList.eqn
  have hl := laws_FnExactPlanesFor_true l_aList h_1
  have e : p_laws_FnExactPlanesFor l_aList = _ := rfl
  have e := e.trans (p_laws_FnExactPlanesFor_eq l_aList)
  have e := hl.symm.trans e
  have g0 := Grow.refl H
  refine Br.intro (fun c_1 => ?_) (fun c_1 => ?_)
  · have e := e.trans (cond_t c_1)
    have c_1' := of_decide_eq_true c_1
    first | exact hk _ | (exfalso; cases e; done) | (rw [← e]; exact hk _)
  · have e := e.trans (cond_f c_1)
    have c_1' := of_decide_eq_false c_1
    refine T_laws_toInt64S_i ⟨_, (i_aList.grow g0), (by first | omega | (simp only [List.length_set, List.length_replicate, List.length_append, List.length_cons, List.length_nil, List.length_take, List.length_drop, marks_length]; done) | (simp only [List.length_set, List.length_replicate, List.length_append, List.length_cons, List.length_nil, List.length_take, List.length_drop, marks_length]; omega)), fun a_2 n_3 e_4 H_1 g_6 r_5 => ?_⟩
    have l_7 := g_6.1
    have g_8 := g0.trans g_6
    have l_9 := g_8.1
    obtain rfl := r_5.isL.eqn
    have u_10 := r_5.up
    have u_11 := r_5.lo
    refine T_spec_PlanesFor_i ⟨_, r_5.isL, (by first | omega | (simp only [List.length_set, List.length_replicate, List.length_append, List.length_cons, List.length_nil, List.length_take, List.length_drop, marks_length]; done) | (simp only [List.length_set, List.length_replicate, List.length_append, List.length_cons, List.length_nil, List.length_take, List.length_drop, marks_length]; omega)), ?_⟩
    refine T_laws_toInt64S_i ⟨_, (i_aList.grow g_8), (by first | omega | (simp only [List.length_set, List.length_replicate, List.length_append, List.length_cons, List.length_nil, List.length_take, List.length_drop, marks_length]; done) | (simp only [List.length_set, List.length_replicate, List.length_append, List.length_cons, List.length_nil, List.length_take, List.length_drop, marks_length]; omega)), fun a_13 n_14 e_15 H_2 g_17 r_16 => ?_⟩
    have l_18 := g_17.1
    have g_19 := g_8.trans g_17
    have l_20 := g_19.1
    have r_21 := r_5.grow g_17
    obtain rfl := r_16.isL.eqn
    have u_22 := r_16.up
    have u_23 := r_16.lo
    refine T_impl_PlanesFor_i ⟨_, r_16.isL, (by first | omega | (simp only [List.length_set, List.length_replicate, List.length_append, List.length_cons, List.length_nil, List.length_take, List.length_drop, marks_length]; done) | (simp only [List.length_set, List.length_replicate, List.length_append, List.length_cons, List.length_nil, List.length_take, List.length_drop, marks_length]; omega)), ?_⟩
    refine Br.intro (fun c_25 => ?_) (fun c_25 => ?_)
    · have e := e.trans (cond_t c_25)
      have c_25' := ine_t c_25
      first | exact hk _ | (exfalso; cases e; done) | (rw [← e]; exact hk _)
    · have e := e.trans (cond_f c_25)
      have c_25' := ine_f c_25
      refine Br.intro (fun c_26 => ?_) (fun c_26 => ?_)
      · have e := e.trans (cond_t c_26)
        have c_26n := nf_of_t c_26
        first | exact hk _ | (exfalso; cases e; done) | (rw [← e]; exact hk _)
      · have e := e.trans (cond_f c_26)
        have c_26n := nt_of_f c_26
        refine T_laws_toInt64S_i ⟨_, (i_aList.grow g_19), (by first | omega | (simp only [List.length_set, List.length_replicate, List.length_append, List.length_cons, List.length_nil, List.length_take, List.length_drop, marks_length]; done) | (simp only [List.length_set, List.length_replicate, List.length_append, List.length_cons, List.length_nil, List.length_take, List.length_drop, marks_length]; omega)), fun a_27 n_28 e_29 H_3 g_31 r_30 => ?_⟩
        have l_32 := g_31.1
        have g_33 := g_19.trans g_31
        have l_34 := g_33.1
        have r_35 := r_21.grow g_31
        have r_36 := r_16.grow g_31
        obtain rfl := r_30.isL.eqn
        have u_37 := r_30.up
        have u_38 := r_30.lo
        refine T_laws_eqInt64S_i ⟨_, _, r_36.isL, r_30.isL, (by first | omega | (simp only [List.length_set, List.length_replicate, List.length_append, List.length_cons, List.length_nil, List.length_take, List.length_drop, marks_length]; done) | (simp only [List.length_set, List.length_replicate, List.length_append, List.length_cons, List.length_nil, List.length_take, List.length_drop, marks_length]; omega)), (by first | omega | (simp only [List.length_set, List.length_replicate, List.length_append, List.length_cons, List.length_nil, List.length_take, List.length_drop, marks_length]; done) | (simp only [List.length_set, List.length_replicate, List.length_append, List.length_cons, List.length_nil, List.length_take, List.length_drop, marks_length]; omega)), ?_⟩
        refine Br.intro (fun c_40 => ?_) (fun c_40 => ?_)
        · have e := e.trans (cond_t c_40)
          have c_40n := nf_of_t c_40
          first | exact hk _ | (exfalso; cases e; done) | (rw [← e]; exact hk _)
        · have e := e.trans (cond_f c_40)
          have c_40n := nt_of_f c_40
          first | exact hk _ | (exfalso; cases e; done) | (rw [← e]; exact hk _)
theorem laws_FnExactPlanesFor_ok : FnOk Try.prog 10 S_laws_FnExactPlanesFor := by
  refine FnOk.body mix_ok E_laws_FnExactPlanesFor_ok Try.func10 rfl (by kernel_rfl) (by kernel_rfl) ?_ ?_ ?_ ?_ ?_
  · intro args H K K' h hk
    simp only [S_laws_FnExactPlanesFor] at *
    unfold F_laws_FnExactPlanesFor at *
    split at hk
    · obtain ⟨l_aList, h_0, h_1, h_2, k⟩ := hk
      exact ⟨l_aList, h_0, h_1, h_2, (fun H' => h _ _ (k H'))⟩
    · exact hk.elim
  · intro hq; cases hq
  · intro args H K hk
    simp only [S_laws_FnExactPlanesFor] at *
    unfold F_laws_FnExactPlanesFor at *
    split at hk
    · obtain ⟨l_aList, h_0, h_1, h_2, k⟩ := hk
      exact ⟨_, _, k []⟩
    · exact hk.elim
  · intro hq; cases hq
  · have mm := @laws_FnExactPlanesFor_main
    revert mm
    generalize bodyK Try.prog E_laws_FnExactPlanesFor Try.f10 = Q
    intro mm args H K hk
    simp only [S_laws_FnExactPlanesFor] at *
    unfold F_laws_FnExactPlanesFor at *
    split at hk
    · exact mm _ _ _ H K hk
    · exact hk.elim
end Go.Proofs.Ytfofkmlohmodeaa.Ai
