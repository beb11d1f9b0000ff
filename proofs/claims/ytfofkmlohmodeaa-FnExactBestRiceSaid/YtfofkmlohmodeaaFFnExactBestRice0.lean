/- What functions of the program come to on the abstract machine, and that they do so; printed by a program of mine around proofs of mine. -/
import Derived.Test.YtfofkmlohmodeaaProg
import Derived.Test.YtfofkmlohmodeaaLibA
import Derived.Test.YtfofkmlohmodeaaOpen
import Derived.Test.YtfofkmlohmodeaaLibB
set_option linter.unusedVariables false
set_option linter.unusedSimpArgs false
set_option maxRecDepth 100000
namespace Go.Proofs.Ytfofkmlohmodeaa.Ai
open Go
attribute [local irreducible] bodyK
theorem mix_ok : Try.prog.follows .mixedOrders = true := by kernel_rfl
def p_laws_toInt64S_l1 (l_a : List Int) : Nat → Int → (List Int) → (List Int)
  | 0, _, _ => []
  | μ + 1, i, y_10 => (bif decide ((i : Int) < (l_a.length : Int)) then (p_laws_toInt64S_l1 l_a μ (i + 1) (((y_10).set (i : Int).toNat ((((l_a).getD (i : Int).toNat 0) : Int))))) else y_10)
theorem p_laws_toInt64S_l1_s (l_a : List Int) (μ : Nat) (i : Int) (y_10 : List Int) : p_laws_toInt64S_l1 l_a (μ + 1) i y_10 = (bif decide ((i : Int) < (l_a.length : Int)) then (p_laws_toInt64S_l1 l_a μ (i + 1) (((y_10).set (i : Int).toNat ((((l_a).getD (i : Int).toNat 0) : Int))))) else y_10) := rfl
def p_laws_toInt64S (l_a : List Int) : (List Int) := (p_laws_toInt64S_l1 l_a (Int.toNat ((l_a.length : Int) - (0 : Int)) + 1) (0 : Int) (List.replicate (((l_a.length : Int)).toNat) 0))
theorem p_laws_toInt64S_eq (l_a : List Int) : p_laws_toInt64S l_a = (p_laws_toInt64S_l1 l_a (Int.toNat ((l_a.length : Int) - (0 : Int)) + 1) (0 : Int) (List.replicate (((l_a.length : Int)).toNat) 0)) := rfl
def T_laws_toInt64S (a_a : Option Addr) (a_n : Nat) (a_e : Nat) (H : AHeap) (K : (Option Addr) → Nat → Nat → AHeap → Prop) : Prop := ∃ (l_a : List Int), IsL fI H a_a a_n l_a ∧ l_a.length < 1073741824 ∧ ((∀ (r1_a : Option Addr) (r1_n r1_e : Nat), ∀ H' : AHeap, Grow H H' → OwnS fI H' H.length r1_a r1_n r1_e (p_laws_toInt64S l_a) → K r1_a r1_n r1_e H'))
theorem T_laws_toInt64S_i {a_a : Option Addr} {a_n : Nat} {a_e : Nat} {H : AHeap} {K : (Option Addr) → Nat → Nat → AHeap → Prop} (h : ∃ (l_a : List Int), IsL fI H a_a a_n l_a ∧ l_a.length < 1073741824 ∧ ((∀ (r1_a : Option Addr) (r1_n r1_e : Nat), ∀ H' : AHeap, Grow H H' → OwnS fI H' H.length r1_a r1_n r1_e (p_laws_toInt64S l_a) → K r1_a r1_n r1_e H'))) : T_laws_toInt64S a_a a_n a_e H K := h
theorem laws_toInt64S_go (l : List Int) : ∀ (μ : Nat) (i : Nat) (ys : List Int), ys.length = l.length → i ≤ l.length → l.length - i < μ →
    p_laws_toInt64S_l1 l μ (i : Int) (l.take i ++ ys.drop i) = l := by
  intro μ
  induction μ with
  | zero => intro i ys _ _ h; omega
  | succ μ ih =>
    intro i ys hy hi hm
    rw [p_laws_toInt64S_l1_s]
    by_cases h : i < l.length
    · rw [decide_eq_true (show (i : Int) < (l.length : Int) by omega), cond_true]
      have hx : l[i]? = some (l.getD i 0) := by rw [List.getD_eq_getElem?_getD, List.getElem?_eq_getElem h]; rfl
      rw [Int.toNat_natCast, set_front l ys i (by omega) hy.symm _ hx]
      exact ih (i + 1) ys hy (by omega) (by omega)
    · rw [decide_eq_false (show ¬ (i : Int) < (l.length : Int) by omega), cond_false]
      rw [List.take_of_length_le (by omega), List.drop_eq_nil_of_le (by omega), List.append_nil]
theorem laws_toInt64S_id (l : List Int) : p_laws_toInt64S l = l := by
  rw [p_laws_toInt64S_eq]
  have := laws_toInt64S_go l (Int.toNat ((l.length : Int) - 0) + 1) 0 (List.replicate ((l.length : Int)).toNat 0) (by simp) (by omega) (by omega)
  simpa using this
/-! laws_toInt64S: function 33 -/
def E_laws_toInt64S : Env := envOf []
def F_laws_toInt64S : List Value → AHeap → (Value → AHeap → Prop) → Prop
  | [.slice a_a a_n a_e], H, K => T_laws_toInt64S a_a a_n a_e H fun (r1_a : Option Addr) (r1_n : Nat) (r1_e : Nat) (H' : AHeap) => K (.slice r1_a r1_n r1_e) H'
  | _, _, _ => False
def S_laws_toInt64S : FSpec := ⟨F_laws_toInt64S, false⟩
theorem laws_toInt64S_vc (a_a : Option Addr) (a_n : Nat) (a_e : Nat) (H : AHeap) (K : Value → AHeap → Prop) : bodyK Try.prog E_laws_toInt64S Try.f33 [.slice a_a a_n a_e] H K =
  ((0 : Int) ≤ (a_n : Int) ∧ (a_n : Int) = (a_n : Int) ∧ (a_n : Int) < (most : Int) ∧ Al (zerosOf (.int .i64 0) ((a_n : Int)).toNat) H fun b1 H1 => loopK (exK Try.prog E_laws_toInt64S (cl (cl (cr (cl (cr (cr (bodyC Try.f33)))))))) [.slice a_a a_n a_e, undef, .slice none 0 0, .slice (some ⟨b1, 0, none⟩) (((a_n : Int)).toNat) 1, .int .i64 0, .slice a_a a_n a_e, .int .i64 (a_n : Int), .slice (some ⟨b1, 0, none⟩) (((a_n : Int)).toNat) 1, undef, undef, undef, undef, undef, undef, undef, undef, undef, undef, undef, undef, undef, undef] H1 (blockQ 0 (seqQ (exK Try.prog E_laws_toInt64S (cr (cr (cr (bodyC Try.f33))))) (retK Try.prog Try.f33 K)))) := by kernel_rfl
theorem laws_toInt64S_r1 (a_a : Option Addr) (a_e : Nat) (a_n : Nat) (b1 : Nat) (i : Int) (g8 g9 g10 g11 g12 g13 g14 g15 g16 g17 g18 g19 g20 : Value) (H : AHeap) (R : Post) : exK Try.prog E_laws_toInt64S (cl (cl (cr (cl (cr (cr (bodyC Try.f33))))))) [.slice a_a a_n a_e, undef, .slice none 0 0, .slice (some ⟨b1, 0, none⟩) (((a_n : Int)).toNat) 1, .int .i64 i, .slice a_a a_n a_e, .int .i64 (a_n : Int), .slice (some ⟨b1, 0, none⟩) (((a_n : Int)).toNat) 1, g8, g9, g10, g11, g12, g13, g14, g15, g16, g17, g18, g19, g20, undef] H R =
  (Br (decide ((i : Int) < (a_n : Int))) ((0 : Int) ≤ i ∧ i < (a_n : Int) ∧ ∃ b2 f1, (a_a : Option Addr) = some ⟨b2, f1, none⟩ ∧ ∃ x1 : Int,  rdC H b2 (f1 + (i : Int).toNat * 1) = some (.int .i64 x1) ∧ (0 : Int) ≤ i ∧ i < (((a_n : Int)).toNat : Int) ∧ ∃ b3 f2, (some ⟨b1, 0, none⟩ : Option Addr) = some ⟨b3, f2, none⟩ ∧ isOwn H b3 ∧ (∃ l, rdN H b3 (f2 + (i : Int).toNat * 1) 1 = some l) ∧ Lt (setC H b3 (f2 + (i : Int).toNat * 1) (.int .i64 x1)) fun H2 => R .normal [.slice a_a a_n a_e, undef, .slice none 0 0, .slice (some ⟨b1, 0, none⟩) (((a_n : Int)).toNat) 1, .int .i64 (IntKind.wrap .i64 (i + 1)), .slice a_a a_n a_e, .int .i64 (a_n : Int), .slice (some ⟨b1, 0, none⟩) (((a_n : Int)).toNat) 1, .int .i64 i, .slice a_a a_n a_e, .int .i64 (a_n : Int), .bool (decide ((i : Int) < (a_n : Int))), .int .i64 i, .int .i64 (IntKind.wrap .i64 (i + 1)), .slice (some ⟨b1, 0, none⟩) (((a_n : Int)).toNat) 1, .int .i64 i, .slice a_a a_n a_e, .int .i64 i, .pointer (some ⟨b2, f1 + (i : Int).toNat * 1, none⟩), .int .i64 x1, .pointer (some ⟨b3, f2 + (i : Int).toNat * 1, none⟩), undef] H2) (R (.exit 0) [.slice a_a a_n a_e, undef, .slice none 0 0, .slice (some ⟨b1, 0, none⟩) (((a_n : Int)).toNat) 1, .int .i64 i, .slice a_a a_n a_e, .int .i64 (a_n : Int), .slice (some ⟨b1, 0, none⟩) (((a_n : Int)).toNat) 1, .int .i64 i, .slice a_a a_n a_e, .int .i64 (a_n : Int), .bool (decide ((i : Int) < (a_n : Int))), g12, g13, g14, g15, g16, g17, g18, g19, g20, undef] H)) := by kernel_rfl
def laws_toInt64S_I1 (a_a : Option Addr) (a_e : Nat) (a_n : Nat) (b1 : Nat) (Inv : Nat → Int → AHeap → Prop) : Nat → List Value → AHeap → Prop := fun μ tm H => ∃ (i : Int), ∃ g8 g9 g10 g11 g12 g13 g14 g15 g16 g17 g18 g19 g20, tm = [.slice a_a a_n a_e, undef, .slice none 0 0, .slice (some ⟨b1, 0, none⟩) (((a_n : Int)).toNat) 1, .int .i64 i, .slice a_a a_n a_e, .int .i64 (a_n : Int), .slice (some ⟨b1, 0, none⟩) (((a_n : Int)).toNat) 1, g8, g9, g10, g11, g12, g13, g14, g15, g16, g17, g18, g19, g20, undef] ∧ Inv μ i H
theorem laws_toInt64S_L1 (a_a : Option Addr) (a_e : Nat) (a_n : Nat) (b1 : Nat) {Q : Post} (Inv : Nat → Int → AHeap → Prop) (ν : Nat) (i : Int) (g8 g9 g10 g11 g12 g13 g14 g15 g16 g17 g18 g19 g20 : Value) (H : AHeap) (h0 : Inv ν i H)
    (hs : ∀ (μ : Nat) (i : Int) (g8 g9 g10 g11 g12 g13 g14 g15 g16 g17 g18 g19 g20 : Value) (H : AHeap), Inv μ i H → exK Try.prog E_laws_toInt64S (cl (cl (cr (cl (cr (cr (bodyC Try.f33))))))) [.slice a_a a_n a_e, undef, .slice none 0 0, .slice (some ⟨b1, 0, none⟩) (((a_n : Int)).toNat) 1, .int .i64 i, .slice a_a a_n a_e, .int .i64 (a_n : Int), .slice (some ⟨b1, 0, none⟩) (((a_n : Int)).toNat) 1, g8, g9, g10, g11, g12, g13, g14, g15, g16, g17, g18, g19, g20, undef] H (loopQ (laws_toInt64S_I1 a_a a_e a_n b1 Inv) μ Q)) : loopK (exK Try.prog E_laws_toInt64S (cl (cl (cr (cl (cr (cr (bodyC Try.f33)))))))) [.slice a_a a_n a_e, undef, .slice none 0 0, .slice (some ⟨b1, 0, none⟩) (((a_n : Int)).toNat) 1, .int .i64 i, .slice a_a a_n a_e, .int .i64 (a_n : Int), .slice (some ⟨b1, 0, none⟩) (((a_n : Int)).toNat) 1, g8, g9, g10, g11, g12, g13, g14, g15, g16, g17, g18, g19, g20, undef] H Q :=
  ⟨laws_toInt64S_I1 a_a a_e a_n b1 Inv, ν, ⟨i, g8, g9, g10, g11, g12, g13, g14, g15, g16, g17, g18, g19, g20, rfl, h0⟩, fun μ tm H h => by obtain ⟨i, g8, g9, g10, g11, g12, g13, g14, g15, g16, g17, g18, g19, g20, rfl, hI⟩ := h; exact hs μ i g8 g9 g10 g11 g12 g13 g14 g15 g16 g17 g18 g19 g20 H hI⟩
theorem laws_toInt64S_n1 {a_a : Option Addr} {a_e : Nat} {a_n : Nat} {b1 : Nat} {Q : Post} {Inv : Nat → Int → AHeap → Prop} {μ : Nat} (μ' : Nat) {i : Int} {g8 g9 g10 g11 g12 g13 g14 g15 g16 g17 g18 g19 g20 : Value} {H : AHeap} (hm : μ' < μ) (hI : Inv μ' i H) : loopQ (laws_toInt64S_I1 a_a a_e a_n b1 Inv) μ Q .normal [.slice a_a a_n a_e, undef, .slice none 0 0, .slice (some ⟨b1, 0, none⟩) (((a_n : Int)).toNat) 1, .int .i64 i, .slice a_a a_n a_e, .int .i64 (a_n : Int), .slice (some ⟨b1, 0, none⟩) (((a_n : Int)).toNat) 1, g8, g9, g10, g11, g12, g13, g14, g15, g16, g17, g18, g19, g20, undef] H := ⟨μ', hm, i, g8, g9, g10, g11, g12, g13, g14, g15, g16, g17, g18, g19, g20, rfl, hI⟩
theorem laws_toInt64S_x1_0 (a_a : Option Addr) (a_e : Nat) (a_n : Nat) (b1 : Nat) (i : Int) (g8 g9 g10 g11 g12 g13 g14 g15 g16 g17 g18 g19 g20 : Value) (H : AHeap) (K : Value → AHeap → Prop)  {I : Nat → List Value → AHeap → Prop} {μ : Nat} : loopQ I μ (blockQ 0 (seqQ (exK Try.prog E_laws_toInt64S (cr (cr (cr (bodyC Try.f33))))) (retK Try.prog Try.f33 K))) (.exit 0) [.slice a_a a_n a_e, undef, .slice none 0 0, .slice (some ⟨b1, 0, none⟩) (((a_n : Int)).toNat) 1, .int .i64 i, .slice a_a a_n a_e, .int .i64 (a_n : Int), .slice (some ⟨b1, 0, none⟩) (((a_n : Int)).toNat) 1, g8, g9, g10, g11, g12, g13, g14, g15, g16, g17, g18, g19, g20, undef] H =
  (K (.slice (some ⟨b1, 0, none⟩) (((a_n : Int)).toNat) 1) H) := by kernel_rfl
theorem E_laws_toInt64S_ok : ∀ g, FnOk Try.prog g (E_laws_toInt64S g) := FnOk.envOf (by
  intro x hx; cases hx)
set_option maxHeartbeats 1000000 in
theorem laws_toInt64S_main (a_a : Option Addr) (a_n : Nat) (a_e : Nat) (H : AHeap) (K : Value → AHeap → Prop) (h : T_laws_toInt64S a_a a_n a_e H fun (r1_a : Option Addr) (r1_n : Nat) (r1_e : Nat) (H' : AHeap) => K (.slice r1_a r1_n r1_e) H') : bodyK Try.prog E_laws_toInt64S Try.f33 [.slice a_a a_n a_e] H K := by
  rw [laws_toInt64S_vc]
  obtain ⟨l_a, i_a, bd_28, hk⟩ := h
  obtain rfl := i_a.eqn
  have e : (p_laws_toInt64S l_a) = _ := rfl
  have e := e.trans (p_laws_toInt64S_eq l_a)
  have g0 := Grow.refl H
  refine ⟨by omega, rfl, (by have := most_eq; omega), ?_⟩
  refine Al.intro (fun b_1 H_1 hb_2 hl_3 g_4 o_5 => ?_)
  rw [zeros_map fI 0 _ rfl] at o_5
  have g_7 := g0.trans g_4
  have l_8 := g_7.1
  have w_27 := o_5.lt
  refine laws_toInt64S_L1 _ _ _ _ (fun (μ : Nat) (i : Int) (H_2 : AHeap) => ∃ (y_10 : List Int), Own H_2 b_1 (y_10.map fI) ∧ y_10.length = ((l_a.length : Int)).toNat ∧ Grow H H_2 ∧ (0 : Int) ≤ i ∧ i ≤ (l_a.length : Int) ∧ (l_a.length : Int) - i ≤ (μ : Int) ∧ p_laws_toInt64S l_a = p_laws_toInt64S_l1 l_a (μ + 1) i y_10) (Int.toNat ((l_a.length : Int) - (0 : Int))) _ _ _ _ _ _ _ _ _ _ _ _ _ _ H_1 ?_ ?_
  · exact ⟨_, o_5, (by first | rfl | (simp; done)), g_7, (by first | omega | (simp; done) | (simp; omega)), (by first | omega | (simp; done) | (simp; omega)), (by omega), e⟩
  · intro μ i g8 g9 g10 g11 g12 g13 g14 g15 g16 g17 g18 g19 g20 H_2 hI
    obtain ⟨y_10, o_9, y_11, g_12, v_13, v_14, hμ, e⟩ := hI
    rw [laws_toInt64S_r1]
    have e := e.trans (p_laws_toInt64S_l1_s l_a μ i y_10)
    have w_15 := o_9.lt
    have l_16 := g_12.1
    refine Br.intro (fun c_17 => ?_) (fun c_17 => ?_)
    · have e := e.trans (cond_t c_17)
      have c_17' := of_decide_eq_true c_17
      obtain ⟨b_18, f_19, q_20⟩ := (i_a).pos (by omega)
      refine ⟨by omega, by omega, b_18, f_19, q_20, ?_⟩
      refine ⟨((l_a).getD (i : Int).toNat 0), (i_a).rd g_12 q_20 (by omega) _, ?_⟩
      refine ⟨by omega, (by omega), _, _, rfl, ?_⟩
      refine Lt.set o_9 (by simp only [List.length_map]; (first | omega | (simp only [List.length_set, List.length_replicate, List.length_append, List.length_cons, List.length_nil]; done) | (simp only [List.length_set, List.length_replicate, List.length_append, List.length_cons, List.length_nil]; omega))) (fun H_3 hl_21 o_23 k_22 => ?_)
      have o_23 := map_set o_23
      have g_24 := g_12.keep (b := b_1) (by omega) k_22
      have l_25 := g_24.1
      have w_26 := o_23.lt
      rw [show IntKind.wrap .i64 (i + 1) = (i + 1) from wrap64 (by omega) (by omega)]
      refine laws_toInt64S_n1 (μ - 1) (by omega) ⟨_, o_23, (by simp only [List.length_set]; first | rfl | assumption | omega), g_24, (by first | omega | (simp only [List.length_append, List.length_cons, List.length_nil, List.length_set]; done) | (simp only [List.length_append, List.length_cons, List.length_nil, List.length_set]; omega)), (by first | omega | (simp only [List.length_append, List.length_cons, List.length_nil, List.length_set]; done) | (simp only [List.length_append, List.length_cons, List.length_nil, List.length_set]; omega)), (by omega), (by rw [show μ - 1 + 1 = μ from by omega]; exact e)⟩
    · have e := e.trans (cond_f c_17)
      have c_17' := of_decide_eq_false c_17
      rw [laws_toInt64S_x1_0]
      rw [e] at hk
      exact hk _ _ _ H_2 g_12 (o_9.ownS (by first | (simp only [List.length_replicate]; done) | omega | (simp; omega)) (by omega))
theorem laws_toInt64S_ok : FnOk Try.prog 33 S_laws_toInt64S := by
  refine FnOk.body mix_ok E_laws_toInt64S_ok Try.func33 rfl (by kernel_rfl) (by kernel_rfl) ?_ ?_ ?_ ?_
  · intro args H K K' h hk
    simp only [S_laws_toInt64S] at *
    unfold F_laws_toInt64S at *
    split at hk
    · obtain ⟨l_a, i_a, bd_28, k⟩ := hk
      exact ⟨l_a, i_a, bd_28, (fun r1_a r1_n r1_e H' gg ow0 => h _ _ (k r1_a r1_n r1_e H' gg ow0))⟩
    · exact hk.elim
  · intro hq; cases hq
  · intro args H K hk
    simp only [S_laws_toInt64S] at *
    unfold F_laws_toInt64S at *
    split at hk
    · obtain ⟨l_a, i_a, bd_28, k⟩ := hk
      exact liveS fun a n e H1 g o => ⟨_, _, k a n e H1 g o⟩
    · exact hk.elim
  · have mm := @laws_toInt64S_main
    revert mm
    generalize bodyK Try.prog E_laws_toInt64S Try.f33 = Q
    intro mm args H K hk
    simp only [S_laws_toInt64S] at *
    unfold F_laws_toInt64S at *
    split at hk
    · exact mm _ _ _ H K hk
    · exact hk.elim
def p_spec_l00In (n : Int) (low : Int) (high : Int) : Bool := (bif decide ((low : Int) ≤ n) then decide ((n : Int) ≤ high) else false)
theorem p_spec_l00In_eq (n : Int) (low : Int) (high : Int) : p_spec_l00In n low high = (bif decide ((low : Int) ≤ n) then decide ((n : Int) ≤ high) else false) := rfl
def T_spec_l00In (n : Int) (low : Int) (high : Int) (H : AHeap) (K : Bool → AHeap → Prop) : Prop := K (p_spec_l00In n low high) H
theorem spec_l00In_t {n a b : Int} (h : p_spec_l00In n a b = true) : a ≤ n ∧ n ≤ b := by
  unfold p_spec_l00In at h
  by_cases h1 : a ≤ n
  · rw [decide_eq_true h1, cond_true] at h; exact ⟨h1, of_decide_eq_true h⟩
  · rw [decide_eq_false h1] at h; cases h
theorem T_spec_l00In_i {n : Int} {low : Int} {high : Int} {H : AHeap} {K : Bool → AHeap → Prop} (h : K (p_spec_l00In n low high) H) : T_spec_l00In n low high H K := h
/-! spec_l00In: function 51 -/
def E_spec_l00In : Env := envOf []
def F_spec_l00In : List Value → AHeap → (Value → AHeap → Prop) → Prop
  | [.int .i64 n, .int .i64 low, .int .i64 high], H, K => T_spec_l00In n low high H fun (r1 : Bool) (H' : AHeap) => K (.bool r1) H'
  | _, _, _ => False
def S_spec_l00In : FSpec := ⟨F_spec_l00In, true⟩
theorem spec_l00In_vc (n : Int) (low : Int) (high : Int) (H : AHeap) (K : Value → AHeap → Prop) : bodyK Try.prog E_spec_l00In Try.f51 [.int .i64 n, .int .i64 low, .int .i64 high] H K =
  (Br (decide ((low : Int) ≤ n)) (K (.bool (decide ((n : Int) ≤ high))) H) (K (.bool false) H)) := by kernel_rfl
theorem E_spec_l00In_ok : ∀ g, FnOk Try.prog g (E_spec_l00In g) := FnOk.envOf (by
  intro x hx; cases hx)
set_option maxHeartbeats 1000000 in
theorem spec_l00In_main (n : Int) (low : Int) (high : Int) (H : AHeap) (K : Value → AHeap → Prop) (h : T_spec_l00In n low high H fun (r1 : Bool) (H' : AHeap) => K (.bool r1) H') : bodyK Try.prog E_spec_l00In Try.f51 [.int .i64 n, .int .i64 low, .int .i64 high] H K := by
  rw [spec_l00In_vc]
  unfold T_spec_l00In p_spec_l00In at h
  repeat' (first | exact h | (exfalso; simp_all; done) | (refine ⟨by decide, ?_⟩) | (refine Br.intro (fun hb => ?_) (fun hb => ?_) <;> (try simp only [hb, cond_true, cond_false, Bool.not_true, Bool.not_false] at h)))
theorem spec_l00In_ok : FnOk Try.prog 51 S_spec_l00In := by
  refine FnOk.body mix_ok E_spec_l00In_ok Try.func51 rfl (by kernel_rfl) (by kernel_rfl) ?_ ?_ ?_ ?_
  · intro args H K K' h hk
    simp only [S_spec_l00In] at *
    unfold F_spec_l00In at *
    split at hk
    · have k := hk
      exact h _ _ k
    · exact hk.elim
  · intro _ args H K hk
    simp only [S_spec_l00In] at *
    unfold F_spec_l00In at *
    split at hk
    · have k := hk
      exact ⟨_, k, fun K' k' => k'⟩
    · exact hk.elim
  · intro args H K hk
    simp only [S_spec_l00In] at *
    unfold F_spec_l00In at *
    split at hk
    · have k := hk
      exact ⟨_, _, k⟩
    · exact hk.elim
  · have mm := @spec_l00In_main
    revert mm
    generalize bodyK Try.prog E_spec_l00In Try.f51 = Q
    intro mm args H K hk
    simp only [S_spec_l00In] at *
    unfold F_spec_l00In at *
    split at hk
    · exact mm _ _ _ H K hk
    · exact hk.elim
def p_spec_l02Bound_l1 (l_list : List Int) (vmost : Int) : Nat → Bool → Int → Bool
  | 0, _, _ => false
  | μ + 1, t4, i => (bif decide ((i : Int) < (l_list.length : Int)) then (bif !((p_spec_l00In (((l_list).getD (i : Int).toNat 0)) (IntKind.wrap .i64 (0 - vmost)) vmost)) then false else (p_spec_l02Bound_l1 l_list vmost μ t4 (i + 1))) else true)
theorem p_spec_l02Bound_l1_s (l_list : List Int) (vmost : Int) (μ : Nat) (t4 : Bool) (i : Int) : p_spec_l02Bound_l1 l_list vmost (μ + 1) t4 i = (bif decide ((i : Int) < (l_list.length : Int)) then (bif !((p_spec_l00In (((l_list).getD (i : Int).toNat 0)) (IntKind.wrap .i64 (0 - vmost)) vmost)) then false else (p_spec_l02Bound_l1 l_list vmost μ t4 (i + 1))) else true) := rfl
def p_spec_l02Bound (l_list : List Int) (vmost : Int) : Bool := (p_spec_l02Bound_l1 l_list vmost (Int.toNat ((l_list.length : Int) - (0 : Int)) + 1) false (0 : Int))
theorem p_spec_l02Bound_eq (l_list : List Int) (vmost : Int) : p_spec_l02Bound l_list vmost = (p_spec_l02Bound_l1 l_list vmost (Int.toNat ((l_list.length : Int) - (0 : Int)) + 1) false (0 : Int)) := rfl
def T_spec_l02Bound (list_a : Option Addr) (list_n : Nat) (list_e : Nat) (vmost : Int) (H : AHeap) (K : Bool → AHeap → Prop) : Prop := ∃ (l_list : List Int), IsL fI H list_a list_n l_list ∧ l_list.length < 1073741824 ∧ K (p_spec_l02Bound l_list vmost) H
theorem T_spec_l02Bound_i {list_a : Option Addr} {list_n : Nat} {list_e : Nat} {vmost : Int} {H : AHeap} {K : Bool → AHeap → Prop} (h : ∃ (l_list : List Int), IsL fI H list_a list_n l_list ∧ l_list.length < 1073741824 ∧ K (p_spec_l02Bound l_list vmost) H) : T_spec_l02Bound list_a list_n list_e vmost H K := h

/-! spec_l02Bound: function 83 -/
def E_spec_l02Bound : Env := envOf [(51, S_spec_l00In)]
def F_spec_l02Bound : List Value → AHeap → (Value → AHeap → Prop) → Prop
  | [.slice list_a list_n list_e, .int .i64 vmost], H, K => T_spec_l02Bound list_a list_n list_e vmost H fun (r1 : Bool) (H' : AHeap) => K (.bool r1) H'
  | _, _, _ => False
def S_spec_l02Bound : FSpec := ⟨F_spec_l02Bound, true⟩
theorem spec_l02Bound_vc (list_a : Option Addr) (list_n : Nat) (list_e : Nat) (vmost : Int) (H : AHeap) (K : Value → AHeap → Prop) : bodyK Try.prog E_spec_l02Bound Try.f83 [.slice list_a list_n list_e, .int .i64 vmost] H K =
  (loopK (exK Try.prog E_spec_l02Bound (cl (cl (cr (cl (cr (bodyC Try.f83))))))) [.slice list_a list_n list_e, .int .i64 vmost, undef, undef, .bool false, .int .i64 0, undef, undef, undef, undef, undef, undef, undef, undef, undef, undef, undef, undef, undef, undef, undef] H (blockQ 0 (seqQ (exK Try.prog E_spec_l02Bound (cr (cr (bodyC Try.f83)))) (retK Try.prog Try.f83 K)))) := by kernel_rfl
theorem spec_l02Bound_r1 (list_a : Option Addr) (list_e : Nat) (list_n : Nat) (vmost : Int) (t4 : Bool) (i : Int) (g6 g7 g8 g9 g10 g11 g12 g13 g14 g15 g16 g17 g18 g19 g20 : Value) (H : AHeap) (R : Post) : exK Try.prog E_spec_l02Bound (cl (cl (cr (cl (cr (bodyC Try.f83)))))) [.slice list_a list_n list_e, .int .i64 vmost, undef, undef, .bool t4, .int .i64 i, g6, g7, g8, g9, g10, g11, g12, g13, g14, g15, g16, g17, g18, g19, g20] H R =
  (Br (decide ((i : Int) < (list_n : Int))) ((0 : Int) ≤ i ∧ i < (list_n : Int) ∧ ∃ b1 f1, (list_a : Option Addr) = some ⟨b1, f1, none⟩ ∧ ∃ x1 : Int,  rdC H b1 (f1 + (i : Int).toNat * 1) = some (.int .i64 x1) ∧ T_spec_l00In x1 (IntKind.wrap .i64 (0 - vmost)) vmost H fun (r1 : Bool) (H1 : AHeap) => Br (!r1) (R .ret [.slice list_a list_n list_e, .int .i64 vmost, undef, undef, .bool false, .int .i64 i, .int .i64 i, .slice list_a list_n list_e, .int .i64 (list_n : Int), .bool (decide ((i : Int) < (list_n : Int))), g10, g11, .slice list_a list_n list_e, .int .i64 i, .pointer (some ⟨b1, f1 + (i : Int).toNat * 1, none⟩), .int .i64 x1, .int .i64 vmost, .int .i64 (IntKind.wrap .i64 (0 - vmost)), .int .i64 vmost, .bool r1, .bool (!r1)] H1) (R .normal [.slice list_a list_n list_e, .int .i64 vmost, undef, undef, .bool t4, .int .i64 (IntKind.wrap .i64 (i + 1)), .int .i64 i, .slice list_a list_n list_e, .int .i64 (list_n : Int), .bool (decide ((i : Int) < (list_n : Int))), .int .i64 i, .int .i64 (IntKind.wrap .i64 (i + 1)), .slice list_a list_n list_e, .int .i64 i, .pointer (some ⟨b1, f1 + (i : Int).toNat * 1, none⟩), .int .i64 x1, .int .i64 vmost, .int .i64 (IntKind.wrap .i64 (0 - vmost)), .int .i64 vmost, .bool r1, .bool (!r1)] H1)) (R (.exit 0) [.slice list_a list_n list_e, .int .i64 vmost, undef, undef, .bool t4, .int .i64 i, .int .i64 i, .slice list_a list_n list_e, .int .i64 (list_n : Int), .bool (decide ((i : Int) < (list_n : Int))), g10, g11, g12, g13, g14, g15, g16, g17, g18, g19, g20] H)) := by kernel_rfl
def spec_l02Bound_I1 (list_a : Option Addr) (list_e : Nat) (list_n : Nat) (vmost : Int) (Inv : Nat → Bool → Int → AHeap → Prop) : Nat → List Value → AHeap → Prop := fun μ tm H => ∃ (t4 : Bool), ∃ (i : Int), ∃ g6 g7 g8 g9 g10 g11 g12 g13 g14 g15 g16 g17 g18 g19 g20, tm = [.slice list_a list_n list_e, .int .i64 vmost, undef, undef, .bool t4, .int .i64 i, g6, g7, g8, g9, g10, g11, g12, g13, g14, g15, g16, g17, g18, g19, g20] ∧ Inv μ t4 i H
theorem spec_l02Bound_L1 (list_a : Option Addr) (list_e : Nat) (list_n : Nat) (vmost : Int) {Q : Post} (Inv : Nat → Bool → Int → AHeap → Prop) (ν : Nat) (t4 : Bool) (i : Int) (g6 g7 g8 g9 g10 g11 g12 g13 g14 g15 g16 g17 g18 g19 g20 : Value) (H : AHeap) (h0 : Inv ν t4 i H)
    (hs : ∀ (μ : Nat) (t4 : Bool) (i : Int) (g6 g7 g8 g9 g10 g11 g12 g13 g14 g15 g16 g17 g18 g19 g20 : Value) (H : AHeap), Inv μ t4 i H → exK Try.prog E_spec_l02Bound (cl (cl (cr (cl (cr (bodyC Try.f83)))))) [.slice list_a list_n list_e, .int .i64 vmost, undef, undef, .bool t4, .int .i64 i, g6, g7, g8, g9, g10, g11, g12, g13, g14, g15, g16, g17, g18, g19, g20] H (loopQ (spec_l02Bound_I1 list_a list_e list_n vmost Inv) μ Q)) : loopK (exK Try.prog E_spec_l02Bound (cl (cl (cr (cl (cr (bodyC Try.f83))))))) [.slice list_a list_n list_e, .int .i64 vmost, undef, undef, .bool t4, .int .i64 i, g6, g7, g8, g9, g10, g11, g12, g13, g14, g15, g16, g17, g18, g19, g20] H Q :=
  ⟨spec_l02Bound_I1 list_a list_e list_n vmost Inv, ν, ⟨t4, i, g6, g7, g8, g9, g10, g11, g12, g13, g14, g15, g16, g17, g18, g19, g20, rfl, h0⟩, fun μ tm H h => by obtain ⟨t4, i, g6, g7, g8, g9, g10, g11, g12, g13, g14, g15, g16, g17, g18, g19, g20, rfl, hI⟩ := h; exact hs μ t4 i g6 g7 g8 g9 g10 g11 g12 g13 g14 g15 g16 g17 g18 g19 g20 H hI⟩
theorem spec_l02Bound_n1 {list_a : Option Addr} {list_e : Nat} {list_n : Nat} {vmost : Int} {Q : Post} {Inv : Nat → Bool → Int → AHeap → Prop} {μ : Nat} (μ' : Nat) {t4 : Bool} {i : Int} {g6 g7 g8 g9 g10 g11 g12 g13 g14 g15 g16 g17 g18 g19 g20 : Value} {H : AHeap} (hm : μ' < μ) (hI : Inv μ' t4 i H) : loopQ (spec_l02Bound_I1 list_a list_e list_n vmost Inv) μ Q .normal [.slice list_a list_n list_e, .int .i64 vmost, undef, undef, .bool t4, .int .i64 i, g6, g7, g8, g9, g10, g11, g12, g13, g14, g15, g16, g17, g18, g19, g20] H := ⟨μ', hm, t4, i, g6, g7, g8, g9, g10, g11, g12, g13, g14, g15, g16, g17, g18, g19, g20, rfl, hI⟩
theorem spec_l02Bound_x1_0 (list_a : Option Addr) (list_e : Nat) (list_n : Nat) (vmost : Int) (t4 : Bool) (i : Int) (g6 g7 g8 g9 g10 g11 g12 g13 g14 g15 g16 g17 g18 g19 g20 : Value) (H : AHeap) (K : Value → AHeap → Prop)  {I : Nat → List Value → AHeap → Prop} {μ : Nat} : loopQ I μ (blockQ 0 (seqQ (exK Try.prog E_spec_l02Bound (cr (cr (bodyC Try.f83)))) (retK Try.prog Try.f83 K))) (.exit 0) [.slice list_a list_n list_e, .int .i64 vmost, undef, undef, .bool t4, .int .i64 i, g6, g7, g8, g9, g10, g11, g12, g13, g14, g15, g16, g17, g18, g19, g20] H =
  (K (.bool true) H) := by kernel_rfl
theorem spec_l02Bound_x1_ret (list_a : Option Addr) (list_e : Nat) (list_n : Nat) (vmost : Int) (t4 : Bool) (i : Int) (g6 g7 g8 g9 g10 g11 g12 g13 g14 g15 g16 g17 g18 g19 g20 : Value) (H : AHeap) (K : Value → AHeap → Prop)  {I : Nat → List Value → AHeap → Prop} {μ : Nat} : loopQ I μ (blockQ 0 (seqQ (exK Try.prog E_spec_l02Bound (cr (cr (bodyC Try.f83)))) (retK Try.prog Try.f83 K))) .ret [.slice list_a list_n list_e, .int .i64 vmost, undef, undef, .bool t4, .int .i64 i, g6, g7, g8, g9, g10, g11, g12, g13, g14, g15, g16, g17, g18, g19, g20] H =
  (K (.bool t4) H) := by kernel_rfl
theorem E_spec_l02Bound_ok : ∀ g, FnOk Try.prog g (E_spec_l02Bound g) := FnOk.envOf (by
  intro x hx
  simp only [List.mem_cons, List.not_mem_nil, or_false] at hx
  subst hx; exact spec_l00In_ok)
set_option maxHeartbeats 1000000 in
theorem spec_l02Bound_main (list_a : Option Addr) (list_n : Nat) (list_e : Nat) (vmost : Int) (H : AHeap) (K : Value → AHeap → Prop) (h : T_spec_l02Bound list_a list_n list_e vmost H fun (r1 : Bool) (H' : AHeap) => K (.bool r1) H') : bodyK Try.prog E_spec_l02Bound Try.f83 [.slice list_a list_n list_e, .int .i64 vmost] H K := by
  rw [spec_l02Bound_vc]
  obtain ⟨l_list, i_list, bd_9, hk⟩ := h
  obtain rfl := i_list.eqn
  have e : (p_spec_l02Bound l_list vmost) = _ := rfl
  have e := e.trans (p_spec_l02Bound_eq l_list vmost)
  have g0 := Grow.refl H
  refine spec_l02Bound_L1 _ _ _ _ (fun (μ : Nat) (t4 : Bool) (i : Int) (H_1 : AHeap) => H = H_1 ∧ (0 : Int) ≤ i ∧ i ≤ (l_list.length : Int) ∧ (l_list.length : Int) - i ≤ (μ : Int) ∧ p_spec_l02Bound l_list vmost = p_spec_l02Bound_l1 l_list vmost (μ + 1) t4 i) (Int.toNat ((l_list.length : Int) - (0 : Int))) _ _ _ _ _ _ _ _ _ _ _ _ _ _ _ _ _ H ?_ ?_
  · exact ⟨rfl, (by first | omega | (simp; done) | (simp; omega)), (by first | omega | (simp; done) | (simp; omega)), (by omega), e⟩
  · intro μ t4 i g6 g7 g8 g9 g10 g11 g12 g13 g14 g15 g16 g17 g18 g19 g20 H_1 hI
    obtain ⟨rfl, v_1, v_2, hμ, e⟩ := hI
    rw [spec_l02Bound_r1]
    have e := e.trans (p_spec_l02Bound_l1_s l_list vmost μ t4 i)
    have l_3 := g0.1
    refine Br.intro (fun c_4 => ?_) (fun c_4 => ?_)
    · have e := e.trans (cond_t c_4)
      have c_4' := of_decide_eq_true c_4
      obtain ⟨b_5, f_6, q_7⟩ := (i_list).pos (by omega)
      refine ⟨by omega, by omega, b_5, f_6, q_7, ?_⟩
      refine ⟨((l_list).getD (i : Int).toNat 0), (i_list).rd g0 q_7 (by omega) _, ?_⟩
      refine T_spec_l00In_i ?_
      refine Br.intro (fun c_8 => ?_) (fun c_8 => ?_)
      · have e := e.trans (cond_t c_8)
        have c_8n := nf_of_t c_8
        rw [spec_l02Bound_x1_ret]
        rw [e] at hk
        exact hk
      · have e := e.trans (cond_f c_8)
        have c_8n := nt_of_f c_8
        have c_8n' := spec_l00In_t c_8n
        rw [show IntKind.wrap .i64 (i + 1) = (i + 1) from wrap64 (by omega) (by omega)]
        refine spec_l02Bound_n1 (μ - 1) (by omega) ⟨rfl, (by first | omega | (simp only [List.length_append, List.length_cons, List.length_nil, List.length_set]; done) | (simp only [List.length_append, List.length_cons, List.length_nil, List.length_set]; omega)), (by first | omega | (simp only [List.length_append, List.length_cons, List.length_nil, List.length_set]; done) | (simp only [List.length_append, List.length_cons, List.length_nil, List.length_set]; omega)), (by omega), (by rw [show μ - 1 + 1 = μ from by omega]; exact e)⟩
    · have e := e.trans (cond_f c_4)
      have c_4' := of_decide_eq_false c_4
      rw [spec_l02Bound_x1_0]
      rw [e] at hk
      exact hk
theorem spec_l02Bound_ok : FnOk Try.prog 83 S_spec_l02Bound := by
  refine FnOk.body mix_ok E_spec_l02Bound_ok Try.func83 rfl (by kernel_rfl) (by kernel_rfl) ?_ ?_ ?_ ?_
  · intro args H K K' h hk
    simp only [S_spec_l02Bound] at *
    unfold F_spec_l02Bound at *
    split at hk
    · obtain ⟨l_list, i_list, bd_9, k⟩ := hk
      exact ⟨l_list, i_list, bd_9, h _ _ k⟩
    · exact hk.elim
  · intro _ args H K hk
    simp only [S_spec_l02Bound] at *
    unfold F_spec_l02Bound at *
    split at hk
    · obtain ⟨l_list, i_list, bd_9, k⟩ := hk
      exact ⟨_, k, fun K' k' => ⟨l_list, i_list, bd_9, k'⟩⟩
    · exact hk.elim
  · intro args H K hk
    simp only [S_spec_l02Bound] at *
    unfold F_spec_l02Bound at *
    split at hk
    · obtain ⟨l_list, i_list, bd_9, k⟩ := hk
      exact ⟨_, _, k⟩
    · exact hk.elim
  · have mm := @spec_l02Bound_main
    revert mm
    generalize bodyK Try.prog E_spec_l02Bound Try.f83 = Q
    intro mm args H K hk
    simp only [S_spec_l02Bound] at *
    unfold F_spec_l02Bound at *
    split at hk
    · exact mm _ _ _ _ H K hk
    · exact hk.elim
def p_spec_l02Integers (l_list : List Int) : Bool := (bif decide ((1 : Int) ≤ (l_list.length : Int)) then (bif decide (((l_list.length : Int) : Int) ≤ 128) then (p_spec_l02Bound l_list (1000000 : Int)) else false) else false)
theorem p_spec_l02Integers_eq (l_list : List Int) : p_spec_l02Integers l_list = (bif decide ((1 : Int) ≤ (l_list.length : Int)) then (bif decide (((l_list.length : Int) : Int) ≤ 128) then (p_spec_l02Bound l_list (1000000 : Int)) else false) else false) := rfl
def T_spec_l02Integers (list_a : Option Addr) (list_n : Nat) (list_e : Nat) (H : AHeap) (K : Bool → AHeap → Prop) : Prop := ∃ (l_list : List Int), IsL fI H list_a list_n l_list ∧ l_list.length < 1073741824 ∧ K (p_spec_l02Integers l_list) H
theorem T_spec_l02Integers_i {list_a : Option Addr} {list_n : Nat} {list_e : Nat} {H : AHeap} {K : Bool → AHeap → Prop} (h : ∃ (l_list : List Int), IsL fI H list_a list_n l_list ∧ l_list.length < 1073741824 ∧ K (p_spec_l02Integers l_list) H) : T_spec_l02Integers list_a list_n list_e H K := h

/-! spec_l02Integers: function 68 -/
def E_spec_l02Integers : Env := envOf [(83, S_spec_l02Bound)]
def F_spec_l02Integers : List Value → AHeap → (Value → AHeap → Prop) → Prop
  | [.slice list_a list_n list_e], H, K => T_spec_l02Integers list_a list_n list_e H fun (r1 : Bool) (H' : AHeap) => K (.bool r1) H'
  | _, _, _ => False
def S_spec_l02Integers : FSpec := ⟨F_spec_l02Integers, true⟩
theorem spec_l02Integers_vc (list_a : Option Addr) (list_n : Nat) (list_e : Nat) (H : AHeap) (K : Value → AHeap → Prop) : bodyK Try.prog E_spec_l02Integers Try.f68 [.slice list_a list_n list_e] H K =
  (Br (decide ((1 : Int) ≤ (list_n : Int))) (Br (decide (((list_n : Int) : Int) ≤ 128)) (T_spec_l02Bound list_a list_n list_e 1000000 H fun (r1 : Bool) (H1 : AHeap) => K (.bool r1) H1) (K (.bool false) H)) (K (.bool false) H)) := by kernel_rfl
theorem E_spec_l02Integers_ok : ∀ g, FnOk Try.prog g (E_spec_l02Integers g) := FnOk.envOf (by
  intro x hx
  simp only [List.mem_cons, List.not_mem_nil, or_false] at hx
  subst hx; exact spec_l02Bound_ok)
set_option maxHeartbeats 1000000 in
theorem spec_l02Integers_main (list_a : Option Addr) (list_n : Nat) (list_e : Nat) (H : AHeap) (K : Value → AHeap → Prop) (h : T_spec_l02Integers list_a list_n list_e H fun (r1 : Bool) (H' : AHeap) => K (.bool r1) H') : bodyK Try.prog E_spec_l02Integers Try.f68 [.slice list_a list_n list_e] H K := by
  rw [spec_l02Integers_vc]
  obtain ⟨l_list, i_list, bd_3, hk⟩ := h
  obtain rfl := i_list.eqn
  have e : (p_spec_l02Integers l_list) = _ := rfl
  have e := e.trans (p_spec_l02Integers_eq l_list)
  have g0 := Grow.refl H
  refine Br.intro (fun c_1 => ?_) (fun c_1 => ?_)
  · have e := e.trans (cond_t c_1)
    have c_1' := of_decide_eq_true c_1
    refine Br.intro (fun c_2 => ?_) (fun c_2 => ?_)
    · have e := e.trans (cond_t c_2)
      have c_2' := of_decide_eq_true c_2
      refine T_spec_l02Bound_i ⟨_, (i_list.grow g0), (by first | omega | (simp only [List.length_set, List.length_replicate, List.length_append, List.length_cons, List.length_nil]; done) | (simp only [List.length_set, List.length_replicate, List.length_append, List.length_cons, List.length_nil]; omega)), ?_⟩
      rw [e] at hk
      exact hk
    · have e := e.trans (cond_f c_2)
      have c_2' := of_decide_eq_false c_2
      rw [e] at hk
      exact hk
  · have e := e.trans (cond_f c_1)
    have c_1' := of_decide_eq_false c_1
    rw [e] at hk
    exact hk
theorem spec_l02Integers_ok : FnOk Try.prog 68 S_spec_l02Integers := by
  refine FnOk.body mix_ok E_spec_l02Integers_ok Try.func68 rfl (by kernel_rfl) (by kernel_rfl) ?_ ?_ ?_ ?_
  · intro args H K K' h hk
    simp only [S_spec_l02Integers] at *
    unfold F_spec_l02Integers at *
    split at hk
    · obtain ⟨l_list, i_list, bd_3, k⟩ := hk
      exact ⟨l_list, i_list, bd_3, h _ _ k⟩
    · exact hk.elim
  · intro _ args H K hk
    simp only [S_spec_l02Integers] at *
    unfold F_spec_l02Integers at *
    split at hk
    · obtain ⟨l_list, i_list, bd_3, k⟩ := hk
      exact ⟨_, k, fun K' k' => ⟨l_list, i_list, bd_3, k'⟩⟩
    · exact hk.elim
  · intro args H K hk
    simp only [S_spec_l02Integers] at *
    unfold F_spec_l02Integers at *
    split at hk
    · obtain ⟨l_list, i_list, bd_3, k⟩ := hk
      exact ⟨_, _, k⟩
    · exact hk.elim
  · have mm := @spec_l02Integers_main
    revert mm
    generalize bodyK Try.prog E_spec_l02Integers Try.f68 = Q
    intro mm args H K hk
    simp only [S_spec_l02Integers] at *
    unfold F_spec_l02Integers at *
    split at hk
    · exact mm _ _ _ H K hk
    · exact hk.elim
def p_spec_l06Zig (n : Int) : Int := (bif decide ((n : Int) < 0) then IntKind.wrap .i64 ((IntKind.wrap .i64 ((-2) * n)) - 1) else IntKind.wrap .i64 (2 * n))
theorem p_spec_l06Zig_eq (n : Int) : p_spec_l06Zig n = (bif decide ((n : Int) < 0) then IntKind.wrap .i64 ((IntKind.wrap .i64 ((-2) * n)) - 1) else IntKind.wrap .i64 (2 * n)) := rfl
def T_spec_l06Zig (n : Int) (H : AHeap) (K : Int → AHeap → Prop) : Prop := K (p_spec_l06Zig n) H

theorem T_spec_l06Zig_i {n : Int} {H : AHeap} {K : Int → AHeap → Prop} (h : K (p_spec_l06Zig n) H) : T_spec_l06Zig n H K := h
/-! spec_l06Zig: function 55 -/
def E_spec_l06Zig : Env := envOf []
def F_spec_l06Zig : List Value → AHeap → (Value → AHeap → Prop) → Prop
  | [.int .i64 n], H, K => T_spec_l06Zig n H fun (r1 : Int) (H' : AHeap) => K (.int .i64 r1) H'
  | _, _, _ => False
def S_spec_l06Zig : FSpec := ⟨F_spec_l06Zig, true⟩
theorem spec_l06Zig_vc (n : Int) (H : AHeap) (K : Value → AHeap → Prop) : bodyK Try.prog E_spec_l06Zig Try.f55 [.int .i64 n] H K =
  (Br (decide ((n : Int) < 0)) (K (.int .i64 (IntKind.wrap .i64 ((IntKind.wrap .i64 ((-2) * n)) - 1))) H) (K (.int .i64 (IntKind.wrap .i64 (2 * n))) H)) := by kernel_rfl
theorem E_spec_l06Zig_ok : ∀ g, FnOk Try.prog g (E_spec_l06Zig g) := FnOk.envOf (by
  intro x hx; cases hx)
set_option maxHeartbeats 1000000 in
theorem spec_l06Zig_main (n : Int) (H : AHeap) (K : Value → AHeap → Prop) (h : T_spec_l06Zig n H fun (r1 : Int) (H' : AHeap) => K (.int .i64 r1) H') : bodyK Try.prog E_spec_l06Zig Try.f55 [.int .i64 n] H K := by
  rw [spec_l06Zig_vc]
  unfold T_spec_l06Zig p_spec_l06Zig at h
  repeat' (first | exact h | (exfalso; simp_all; done) | (refine ⟨by decide, ?_⟩) | (refine Br.intro (fun hb => ?_) (fun hb => ?_) <;> (try simp only [hb, cond_true, cond_false, Bool.not_true, Bool.not_false] at h)))
theorem spec_l06Zig_ok : FnOk Try.prog 55 S_spec_l06Zig := by
  refine FnOk.body mix_ok E_spec_l06Zig_ok Try.func55 rfl (by kernel_rfl) (by kernel_rfl) ?_ ?_ ?_ ?_
  · intro args H K K' h hk
    simp only [S_spec_l06Zig] at *
    unfold F_spec_l06Zig at *
    split at hk
    · have k := hk
      exact h _ _ k
    · exact hk.elim
  · intro _ args H K hk
    simp only [S_spec_l06Zig] at *
    unfold F_spec_l06Zig at *
    split at hk
    · have k := hk
      exact ⟨_, k, fun K' k' => k'⟩
    · exact hk.elim
  · intro args H K hk
    simp only [S_spec_l06Zig] at *
    unfold F_spec_l06Zig at *
    split at hk
    · have k := hk
      exact ⟨_, _, k⟩
    · exact hk.elim
  · have mm := @spec_l06Zig_main
    revert mm
    generalize bodyK Try.prog E_spec_l06Zig Try.f55 = Q
    intro mm args H K hk
    simp only [S_spec_l06Zig] at *
    unfold F_spec_l06Zig at *
    split at hk
    · exact mm _ H K hk
    · exact hk.elim
def p_spec_l06RiceLong_l1 (l_list : List Int) (k : Int) : Nat → Int → Int → Int
  | 0, _, _ => 0
  | μ + 1, sum, i => (bif decide ((i : Int) < (l_list.length : Int)) then (p_spec_l06RiceLong_l1 l_list k μ (IntKind.wrap .i64 (sum + (IntKind.wrap .i64 ((IntKind.wrap .i64 ((Int.fdiv ((p_spec_l06Zig (((l_list).getD (i : Int).toNat 0)))) (2 ^ (min (IntKind.wrap .u64 k : Int).toNat (IntKind.bits .i64)))) + 1)) + k)))) (i + 1)) else sum)
theorem p_spec_l06RiceLong_l1_s (l_list : List Int) (k : Int) (μ : Nat) (sum : Int) (i : Int) : p_spec_l06RiceLong_l1 l_list k (μ + 1) sum i = (bif decide ((i : Int) < (l_list.length : Int)) then (p_spec_l06RiceLong_l1 l_list k μ (IntKind.wrap .i64 (sum + (IntKind.wrap .i64 ((IntKind.wrap .i64 ((Int.fdiv ((p_spec_l06Zig (((l_list).getD (i : Int).toNat 0)))) (2 ^ (min (IntKind.wrap .u64 k : Int).toNat (IntKind.bits .i64)))) + 1)) + k)))) (i + 1)) else sum) := rfl
def p_spec_l06RiceLong (l_list : List Int) (k : Int) : Int := (p_spec_l06RiceLong_l1 l_list k (Int.toNat ((l_list.length : Int) - (0 : Int)) + 1) (0 : Int) (0 : Int))
theorem p_spec_l06RiceLong_eq (l_list : List Int) (k : Int) : p_spec_l06RiceLong l_list k = (p_spec_l06RiceLong_l1 l_list k (Int.toNat ((l_list.length : Int) - (0 : Int)) + 1) (0 : Int) (0 : Int)) := rfl
def T_spec_l06RiceLong (list_a : Option Addr) (list_n : Nat) (list_e : Nat) (k : Int) (H : AHeap) (K : Int → AHeap → Prop) : Prop := ∃ (l_list : List Int), IsL fI H list_a list_n l_list ∧ l_list.length < 1073741824 ∧ K (p_spec_l06RiceLong l_list k) H
theorem T_spec_l06RiceLong_i {list_a : Option Addr} {list_n : Nat} {list_e : Nat} {k : Int} {H : AHeap} {K : Int → AHeap → Prop} (h : ∃ (l_list : List Int), IsL fI H list_a list_n l_list ∧ l_list.length < 1073741824 ∧ K (p_spec_l06RiceLong l_list k) H) : T_spec_l06RiceLong list_a list_n list_e k H K := h

/-! spec_l06RiceLong: function 65 -/
def E_spec_l06RiceLong : Env := envOf [(55, S_spec_l06Zig)]
def F_spec_l06RiceLong : List Value → AHeap → (Value → AHeap → Prop) → Prop
  | [.slice list_a list_n list_e, .int .i64 k], H, K => T_spec_l06RiceLong list_a list_n list_e k H fun (r1 : Int) (H' : AHeap) => K (.int .i64 r1) H'
  | _, _, _ => False
def S_spec_l06RiceLong : FSpec := ⟨F_spec_l06RiceLong, true⟩
theorem spec_l06RiceLong_vc (list_a : Option Addr) (list_n : Nat) (list_e : Nat) (k : Int) (H : AHeap) (K : Value → AHeap → Prop) : bodyK Try.prog E_spec_l06RiceLong Try.f65 [.slice list_a list_n list_e, .int .i64 k] H K =
  (loopK (exK Try.prog E_spec_l06RiceLong (cl (cl (cr (cl (cr (cr (bodyC Try.f65)))))))) [.slice list_a list_n list_e, .int .i64 k, undef, undef, .int .i64 0, .int .i64 0, .int .i64 0, undef, undef, undef, undef, undef, undef, undef, undef, undef, undef, undef, undef, undef, undef, undef, undef, undef, undef, undef, undef] H (blockQ 0 (seqQ (exK Try.prog E_spec_l06RiceLong (cr (cr (cr (bodyC Try.f65))))) (retK Try.prog Try.f65 K)))) := by kernel_rfl
theorem spec_l06RiceLong_r1 (k : Int) (list_a : Option Addr) (list_e : Nat) (list_n : Nat) (sum : Int) (i : Int) (g7 g8 g9 g10 g11 g12 g13 g14 g15 g16 g17 g18 g19 g20 g21 g22 g23 g24 g25 : Value) (H : AHeap) (R : Post) : exK Try.prog E_spec_l06RiceLong (cl (cl (cr (cl (cr (cr (bodyC Try.f65))))))) [.slice list_a list_n list_e, .int .i64 k, undef, undef, .int .i64 0, .int .i64 sum, .int .i64 i, g7, g8, g9, g10, g11, g12, g13, g14, g15, g16, g17, g18, g19, g20, g21, g22, g23, g24, g25, undef] H R =
  (Br (decide ((i : Int) < (list_n : Int))) ((0 : Int) ≤ i ∧ i < (list_n : Int) ∧ ∃ b1 f1, (list_a : Option Addr) = some ⟨b1, f1, none⟩ ∧ ∃ x1 : Int,  rdC H b1 (f1 + (i : Int).toNat * 1) = some (.int .i64 x1) ∧ T_spec_l06Zig x1 H fun (r1 : Int) (H1 : AHeap) => (0 : Int) ≤ IntKind.wrap .u64 k ∧ R .normal [.slice list_a list_n list_e, .int .i64 k, undef, undef, .int .i64 0, .int .i64 (IntKind.wrap .i64 (sum + (IntKind.wrap .i64 ((IntKind.wrap .i64 ((Int.fdiv r1 (2 ^ (min (IntKind.wrap .u64 k : Int).toNat (IntKind.bits .i64)))) + 1)) + k)))), .int .i64 (IntKind.wrap .i64 (i + 1)), .int .i64 i, .slice list_a list_n list_e, .int .i64 (list_n : Int), .bool (decide ((i : Int) < (list_n : Int))), .int .i64 i, .int .i64 (IntKind.wrap .i64 (i + 1)), .int .i64 sum, .slice list_a list_n list_e, .int .i64 i, .pointer (some ⟨b1, f1 + (i : Int).toNat * 1, none⟩), .int .i64 x1, .int .i64 r1, .int .i64 k, .int .u64 (IntKind.wrap .u64 k), .int .i64 (Int.fdiv r1 (2 ^ (min (IntKind.wrap .u64 k : Int).toNat (IntKind.bits .i64)))), .int .i64 (IntKind.wrap .i64 ((Int.fdiv r1 (2 ^ (min (IntKind.wrap .u64 k : Int).toNat (IntKind.bits .i64)))) + 1)), .int .i64 k, .int .i64 (IntKind.wrap .i64 ((IntKind.wrap .i64 ((Int.fdiv r1 (2 ^ (min (IntKind.wrap .u64 k : Int).toNat (IntKind.bits .i64)))) + 1)) + k)), .int .i64 (IntKind.wrap .i64 (sum + (IntKind.wrap .i64 ((IntKind.wrap .i64 ((Int.fdiv r1 (2 ^ (min (IntKind.wrap .u64 k : Int).toNat (IntKind.bits .i64)))) + 1)) + k)))), undef] H1) (R (.exit 0) [.slice list_a list_n list_e, .int .i64 k, undef, undef, .int .i64 0, .int .i64 sum, .int .i64 i, .int .i64 i, .slice list_a list_n list_e, .int .i64 (list_n : Int), .bool (decide ((i : Int) < (list_n : Int))), g11, g12, g13, g14, g15, g16, g17, g18, g19, g20, g21, g22, g23, g24, g25, undef] H)) := by kernel_rfl
def spec_l06RiceLong_I1 (k : Int) (list_a : Option Addr) (list_e : Nat) (list_n : Nat) (Inv : Nat → Int → Int → AHeap → Prop) : Nat → List Value → AHeap → Prop := fun μ tm H => ∃ (sum : Int), ∃ (i : Int), ∃ g7 g8 g9 g10 g11 g12 g13 g14 g15 g16 g17 g18 g19 g20 g21 g22 g23 g24 g25, tm = [.slice list_a list_n list_e, .int .i64 k, undef, undef, .int .i64 0, .int .i64 sum, .int .i64 i, g7, g8, g9, g10, g11, g12, g13, g14, g15, g16, g17, g18, g19, g20, g21, g22, g23, g24, g25, undef] ∧ Inv μ sum i H
theorem spec_l06RiceLong_L1 (k : Int) (list_a : Option Addr) (list_e : Nat) (list_n : Nat) {Q : Post} (Inv : Nat → Int → Int → AHeap → Prop) (ν : Nat) (sum : Int) (i : Int) (g7 g8 g9 g10 g11 g12 g13 g14 g15 g16 g17 g18 g19 g20 g21 g22 g23 g24 g25 : Value) (H : AHeap) (h0 : Inv ν sum i H)
    (hs : ∀ (μ : Nat) (sum : Int) (i : Int) (g7 g8 g9 g10 g11 g12 g13 g14 g15 g16 g17 g18 g19 g20 g21 g22 g23 g24 g25 : Value) (H : AHeap), Inv μ sum i H → exK Try.prog E_spec_l06RiceLong (cl (cl (cr (cl (cr (cr (bodyC Try.f65))))))) [.slice list_a list_n list_e, .int .i64 k, undef, undef, .int .i64 0, .int .i64 sum, .int .i64 i, g7, g8, g9, g10, g11, g12, g13, g14, g15, g16, g17, g18, g19, g20, g21, g22, g23, g24, g25, undef] H (loopQ (spec_l06RiceLong_I1 k list_a list_e list_n Inv) μ Q)) : loopK (exK Try.prog E_spec_l06RiceLong (cl (cl (cr (cl (cr (cr (bodyC Try.f65)))))))) [.slice list_a list_n list_e, .int .i64 k, undef, undef, .int .i64 0, .int .i64 sum, .int .i64 i, g7, g8, g9, g10, g11, g12, g13, g14, g15, g16, g17, g18, g19, g20, g21, g22, g23, g24, g25, undef] H Q :=
  ⟨spec_l06RiceLong_I1 k list_a list_e list_n Inv, ν, ⟨sum, i, g7, g8, g9, g10, g11, g12, g13, g14, g15, g16, g17, g18, g19, g20, g21, g22, g23, g24, g25, rfl, h0⟩, fun μ tm H h => by obtain ⟨sum, i, g7, g8, g9, g10, g11, g12, g13, g14, g15, g16, g17, g18, g19, g20, g21, g22, g23, g24, g25, rfl, hI⟩ := h; exact hs μ sum i g7 g8 g9 g10 g11 g12 g13 g14 g15 g16 g17 g18 g19 g20 g21 g22 g23 g24 g25 H hI⟩
theorem spec_l06RiceLong_n1 {k : Int} {list_a : Option Addr} {list_e : Nat} {list_n : Nat} {Q : Post} {Inv : Nat → Int → Int → AHeap → Prop} {μ : Nat} (μ' : Nat) {sum : Int} {i : Int} {g7 g8 g9 g10 g11 g12 g13 g14 g15 g16 g17 g18 g19 g20 g21 g22 g23 g24 g25 : Value} {H : AHeap} (hm : μ' < μ) (hI : Inv μ' sum i H) : loopQ (spec_l06RiceLong_I1 k list_a list_e list_n Inv) μ Q .normal [.slice list_a list_n list_e, .int .i64 k, undef, undef, .int .i64 0, .int .i64 sum, .int .i64 i, g7, g8, g9, g10, g11, g12, g13, g14, g15, g16, g17, g18, g19, g20, g21, g22, g23, g24, g25, undef] H := ⟨μ', hm, sum, i, g7, g8, g9, g10, g11, g12, g13, g14, g15, g16, g17, g18, g19, g20, g21, g22, g23, g24, g25, rfl, hI⟩
theorem spec_l06RiceLong_x1_0 (k : Int) (list_a : Option Addr) (list_e : Nat) (list_n : Nat) (sum : Int) (i : Int) (g7 g8 g9 g10 g11 g12 g13 g14 g15 g16 g17 g18 g19 g20 g21 g22 g23 g24 g25 : Value) (H : AHeap) (K : Value → AHeap → Prop)  {I : Nat → List Value → AHeap → Prop} {μ : Nat} : loopQ I μ (blockQ 0 (seqQ (exK Try.prog E_spec_l06RiceLong (cr (cr (cr (bodyC Try.f65))))) (retK Try.prog Try.f65 K))) (.exit 0) [.slice list_a list_n list_e, .int .i64 k, undef, undef, .int .i64 0, .int .i64 sum, .int .i64 i, g7, g8, g9, g10, g11, g12, g13, g14, g15, g16, g17, g18, g19, g20, g21, g22, g23, g24, g25, undef] H =
  (K (.int .i64 sum) H) := by kernel_rfl
theorem E_spec_l06RiceLong_ok : ∀ g, FnOk Try.prog g (E_spec_l06RiceLong g) := FnOk.envOf (by
  intro x hx
  simp only [List.mem_cons, List.not_mem_nil, or_false] at hx
  subst hx; exact spec_l06Zig_ok)
set_option maxHeartbeats 1000000 in
theorem spec_l06RiceLong_main (list_a : Option Addr) (list_n : Nat) (list_e : Nat) (k : Int) (H : AHeap) (K : Value → AHeap → Prop) (h : T_spec_l06RiceLong list_a list_n list_e k H fun (r1 : Int) (H' : AHeap) => K (.int .i64 r1) H') : bodyK Try.prog E_spec_l06RiceLong Try.f65 [.slice list_a list_n list_e, .int .i64 k] H K := by
  rw [spec_l06RiceLong_vc]
  obtain ⟨l_list, i_list, bd_8, hk⟩ := h
  obtain rfl := i_list.eqn
  have e : (p_spec_l06RiceLong l_list k) = _ := rfl
  have e := e.trans (p_spec_l06RiceLong_eq l_list k)
  have g0 := Grow.refl H
  refine spec_l06RiceLong_L1 _ _ _ _ (fun (μ : Nat) (sum : Int) (i : Int) (H_1 : AHeap) => H = H_1 ∧ (0 : Int) ≤ i ∧ i ≤ (l_list.length : Int) ∧ (l_list.length : Int) - i ≤ (μ : Int) ∧ p_spec_l06RiceLong l_list k = p_spec_l06RiceLong_l1 l_list k (μ + 1) sum i) (Int.toNat ((l_list.length : Int) - (0 : Int))) _ _ _ _ _ _ _ _ _ _ _ _ _ _ _ _ _ _ _ _ _ H ?_ ?_
  · exact ⟨rfl, (by first | omega | (simp; done) | (simp; omega)), (by first | omega | (simp; done) | (simp; omega)), (by omega), e⟩
  · intro μ sum i g7 g8 g9 g10 g11 g12 g13 g14 g15 g16 g17 g18 g19 g20 g21 g22 g23 g24 g25 H_1 hI
    obtain ⟨rfl, v_1, v_2, hμ, e⟩ := hI
    rw [spec_l06RiceLong_r1]
    have e := e.trans (p_spec_l06RiceLong_l1_s l_list k μ sum i)
    have l_3 := g0.1
    refine Br.intro (fun c_4 => ?_) (fun c_4 => ?_)
    · have e := e.trans (cond_t c_4)
      have c_4' := of_decide_eq_true c_4
      obtain ⟨b_5, f_6, q_7⟩ := (i_list).pos (by omega)
      refine ⟨by omega, by omega, b_5, f_6, q_7, ?_⟩
      refine ⟨((l_list).getD (i : Int).toNat 0), (i_list).rd g0 q_7 (by omega) _, ?_⟩
      refine T_spec_l06Zig_i ?_
      refine ⟨(wrapu_nonneg _), ?_⟩
      rw [show IntKind.wrap .i64 (i + 1) = (i + 1) from wrap64 (by omega) (by omega)]
      refine spec_l06RiceLong_n1 (μ - 1) (by omega) ⟨rfl, (by first | omega | (simp only [List.length_append, List.length_cons, List.length_nil, List.length_set]; done) | (simp only [List.length_append, List.length_cons, List.length_nil, List.length_set]; omega)), (by first | omega | (simp only [List.length_append, List.length_cons, List.length_nil, List.length_set]; done) | (simp only [List.length_append, List.length_cons, List.length_nil, List.length_set]; omega)), (by omega), (by rw [show μ - 1 + 1 = μ from by omega]; exact e)⟩
    · have e := e.trans (cond_f c_4)
      have c_4' := of_decide_eq_false c_4
      rw [spec_l06RiceLong_x1_0]
      rw [e] at hk
      exact hk
theorem spec_l06RiceLong_ok : FnOk Try.prog 65 S_spec_l06RiceLong := by
  refine FnOk.body mix_ok E_spec_l06RiceLong_ok Try.func65 rfl (by kernel_rfl) (by kernel_rfl) ?_ ?_ ?_ ?_
  · intro args H K K' h hk
    simp only [S_spec_l06RiceLong] at *
    unfold F_spec_l06RiceLong at *
    split at hk
    · obtain ⟨l_list, i_list, bd_8, k⟩ := hk
      exact ⟨l_list, i_list, bd_8, h _ _ k⟩
    · exact hk.elim
  · intro _ args H K hk
    simp only [S_spec_l06RiceLong] at *
    unfold F_spec_l06RiceLong at *
    split at hk
    · obtain ⟨l_list, i_list, bd_8, k⟩ := hk
      exact ⟨_, k, fun K' k' => ⟨l_list, i_list, bd_8, k'⟩⟩
    · exact hk.elim
  · intro args H K hk
    simp only [S_spec_l06RiceLong] at *
    unfold F_spec_l06RiceLong at *
    split at hk
    · obtain ⟨l_list, i_list, bd_8, k⟩ := hk
      exact ⟨_, _, k⟩
    · exact hk.elim
  · have mm := @spec_l06RiceLong_main
    revert mm
    generalize bodyK Try.prog E_spec_l06RiceLong Try.f65 = Q
    intro mm args H K hk
    simp only [S_spec_l06RiceLong] at *
    unfold F_spec_l06RiceLong at *
    split at hk
    · exact mm _ _ _ _ H K hk
    · exact hk.elim
def p_spec_BestRice_l1 (l_list : List Int) : Nat → Int → Int → Int → Int × Int × Bool
  | 0, _, _, _ => (0, 0, false)
  | μ + 1, best, least, k => (bif decide ((k : Int) ≤ 20) then (bif decide (((p_spec_l06RiceLong l_list k) : Int) < least) then (p_spec_BestRice_l1 l_list μ k (p_spec_l06RiceLong l_list k) (k + 1)) else (p_spec_BestRice_l1 l_list μ best least (k + 1))) else (best, least, true))
theorem p_spec_BestRice_l1_s (l_list : List Int) (μ : Nat) (best : Int) (least : Int) (k : Int) : p_spec_BestRice_l1 l_list (μ + 1) best least k = (bif decide ((k : Int) ≤ 20) then (bif decide (((p_spec_l06RiceLong l_list k) : Int) < least) then (p_spec_BestRice_l1 l_list μ k (p_spec_l06RiceLong l_list k) (k + 1)) else (p_spec_BestRice_l1 l_list μ best least (k + 1))) else (best, least, true)) := rfl
def p_spec_BestRice (l_list : List Int) : Int × Int × Bool := (bif !(p_spec_l02Integers l_list) then ((0 : Int), (0 : Int), false) else (p_spec_BestRice_l1 l_list (Int.toNat (20 - (1 : Int) + 1) + 1) (0 : Int) (((p_spec_l06RiceLong l_list (0 : Int)))) (1 : Int)))
theorem p_spec_BestRice_eq (l_list : List Int) : p_spec_BestRice l_list = (bif !(p_spec_l02Integers l_list) then ((0 : Int), (0 : Int), false) else (p_spec_BestRice_l1 l_list (Int.toNat (20 - (1 : Int) + 1) + 1) (0 : Int) (((p_spec_l06RiceLong l_list (0 : Int)))) (1 : Int))) := rfl
def T_spec_BestRice (list_a : Option Addr) (list_n : Nat) (list_e : Nat) (H : AHeap) (K : Int → Int → Bool → AHeap → Prop) : Prop := ∃ (l_list : List Int), IsL fI H list_a list_n l_list ∧ l_list.length < 1073741824 ∧ K ((p_spec_BestRice l_list).1) ((p_spec_BestRice l_list).2.1) ((p_spec_BestRice l_list).2.2) H
theorem T_spec_BestRice_i {list_a : Option Addr} {list_n : Nat} {list_e : Nat} {H : AHeap} {K : Int → Int → Bool → AHeap → Prop} (h : ∃ (l_list : List Int), IsL fI H list_a list_n l_list ∧ l_list.length < 1073741824 ∧ K ((p_spec_BestRice l_list).1) ((p_spec_BestRice l_list).2.1) ((p_spec_BestRice l_list).2.2) H) : T_spec_BestRice list_a list_n list_e H K := h

/-! spec_BestRice: function 38 -/
def E_spec_BestRice : Env := envOf [(68, S_spec_l02Integers), (65, S_spec_l06RiceLong)]
def F_spec_BestRice : List Value → AHeap → (Value → AHeap → Prop) → Prop
  | [.slice list_a list_n list_e], H, K => T_spec_BestRice list_a list_n list_e H fun (r1 : Int) (r2 : Int) (r3 : Bool) (H' : AHeap) => K (.tuple #[.int .i64 r1, .int .i64 r2, .bool r3]) H'
  | _, _, _ => False
def S_spec_BestRice : FSpec := ⟨F_spec_BestRice, true⟩
theorem spec_BestRice_vc (list_a : Option Addr) (list_n : Nat) (list_e : Nat) (H : AHeap) (K : Value → AHeap → Prop) : bodyK Try.prog E_spec_BestRice Try.f38 [.slice list_a list_n list_e] H K =
  (T_spec_l02Integers list_a list_n list_e H fun (r1 : Bool) (H1 : AHeap) => Br (!r1) (K (.tuple #[.int .i64 0, .int .i64 0, .bool false]) H1) (T_spec_l06RiceLong list_a list_n list_e 0 H1 fun (r2 : Int) (H2 : AHeap) => loopK (exK Try.prog E_spec_BestRice (cl (cl (cr (cl (cr (cr (cr (cr (bodyC Try.f38)))))))))) [.slice list_a list_n list_e, undef, .int .i64 0, .int .i64 0, .bool false, .int .i64 0, .int .i64 r2, .int .i64 1, undef, .slice list_a list_n list_e, .bool r1, .bool (!r1), .slice list_a list_n list_e, .int .i64 r2, undef, undef, undef, undef, undef, undef, undef, undef, undef, undef, undef, undef, undef, undef] H2 (blockQ 0 (seqQ (exK Try.prog E_spec_BestRice (cr (cr (cr (cr (cr (bodyC Try.f38))))))) (retK Try.prog Try.f38 K))))) := by kernel_rfl
theorem spec_BestRice_r1 (list_a : Option Addr) (list_e : Nat) (list_n : Nat) (r1 : Bool) (r2 : Int) (best : Int) (least : Int) (k : Int) (g8 g14 g15 g16 g17 g18 g19 g20 g21 g22 g23 g24 g25 : Value) (H : AHeap) (R : Post) : exK Try.prog E_spec_BestRice (cl (cl (cr (cl (cr (cr (cr (cr (bodyC Try.f38))))))))) [.slice list_a list_n list_e, undef, .int .i64 0, .int .i64 0, .bool false, .int .i64 best, .int .i64 least, .int .i64 k, g8, .slice list_a list_n list_e, .bool r1, .bool (!r1), .slice list_a list_n list_e, .int .i64 r2, g14, g15, g16, g17, g18, g19, g20, g21, g22, g23, g24, g25, undef, undef] H R =
  (Br (decide ((k : Int) ≤ 20)) (T_spec_l06RiceLong list_a list_n list_e k H fun (r3 : Int) (H3 : AHeap) => Br (decide ((r3 : Int) < least)) (R .normal [.slice list_a list_n list_e, undef, .int .i64 0, .int .i64 0, .bool false, .int .i64 k, .int .i64 r3, .int .i64 (IntKind.wrap .i64 (k + 1)), .int .i64 r3, .slice list_a list_n list_e, .bool r1, .bool (!r1), .slice list_a list_n list_e, .int .i64 r2, .int .i64 k, .bool (decide ((k : Int) ≤ 20)), .int .i64 k, .int .i64 (IntKind.wrap .i64 (k + 1)), .slice list_a list_n list_e, .int .i64 k, .int .i64 r3, .int .i64 r3, .int .i64 least, .bool (decide ((r3 : Int) < least)), .int .i64 k, .int .i64 r3, undef, undef] H3) (R .normal [.slice list_a list_n list_e, undef, .int .i64 0, .int .i64 0, .bool false, .int .i64 best, .int .i64 least, .int .i64 (IntKind.wrap .i64 (k + 1)), .int .i64 r3, .slice list_a list_n list_e, .bool r1, .bool (!r1), .slice list_a list_n list_e, .int .i64 r2, .int .i64 k, .bool (decide ((k : Int) ≤ 20)), .int .i64 k, .int .i64 (IntKind.wrap .i64 (k + 1)), .slice list_a list_n list_e, .int .i64 k, .int .i64 r3, .int .i64 r3, .int .i64 least, .bool (decide ((r3 : Int) < least)), g24, g25, undef, undef] H3)) (R (.exit 0) [.slice list_a list_n list_e, undef, .int .i64 0, .int .i64 0, .bool false, .int .i64 best, .int .i64 least, .int .i64 k, g8, .slice list_a list_n list_e, .bool r1, .bool (!r1), .slice list_a list_n list_e, .int .i64 r2, .int .i64 k, .bool (decide ((k : Int) ≤ 20)), g16, g17, g18, g19, g20, g21, g22, g23, g24, g25, undef, undef] H)) := by kernel_rfl
def spec_BestRice_I1 (list_a : Option Addr) (list_e : Nat) (list_n : Nat) (r1 : Bool) (r2 : Int) (Inv : Nat → Int → Int → Int → AHeap → Prop) : Nat → List Value → AHeap → Prop := fun μ tm H => ∃ (best : Int), ∃ (least : Int), ∃ (k : Int), ∃ g8 g14 g15 g16 g17 g18 g19 g20 g21 g22 g23 g24 g25, tm = [.slice list_a list_n list_e, undef, .int .i64 0, .int .i64 0, .bool false, .int .i64 best, .int .i64 least, .int .i64 k, g8, .slice list_a list_n list_e, .bool r1, .bool (!r1), .slice list_a list_n list_e, .int .i64 r2, g14, g15, g16, g17, g18, g19, g20, g21, g22, g23, g24, g25, undef, undef] ∧ Inv μ best least k H
theorem spec_BestRice_L1 (list_a : Option Addr) (list_e : Nat) (list_n : Nat) (r1 : Bool) (r2 : Int) {Q : Post} (Inv : Nat → Int → Int → Int → AHeap → Prop) (ν : Nat) (best : Int) (least : Int) (k : Int) (g8 g14 g15 g16 g17 g18 g19 g20 g21 g22 g23 g24 g25 : Value) (H : AHeap) (h0 : Inv ν best least k H)
    (hs : ∀ (μ : Nat) (best : Int) (least : Int) (k : Int) (g8 g14 g15 g16 g17 g18 g19 g20 g21 g22 g23 g24 g25 : Value) (H : AHeap), Inv μ best least k H → exK Try.prog E_spec_BestRice (cl (cl (cr (cl (cr (cr (cr (cr (bodyC Try.f38))))))))) [.slice list_a list_n list_e, undef, .int .i64 0, .int .i64 0, .bool false, .int .i64 best, .int .i64 least, .int .i64 k, g8, .slice list_a list_n list_e, .bool r1, .bool (!r1), .slice list_a list_n list_e, .int .i64 r2, g14, g15, g16, g17, g18, g19, g20, g21, g22, g23, g24, g25, undef, undef] H (loopQ (spec_BestRice_I1 list_a list_e list_n r1 r2 Inv) μ Q)) : loopK (exK Try.prog E_spec_BestRice (cl (cl (cr (cl (cr (cr (cr (cr (bodyC Try.f38)))))))))) [.slice list_a list_n list_e, undef, .int .i64 0, .int .i64 0, .bool false, .int .i64 best, .int .i64 least, .int .i64 k, g8, .slice list_a list_n list_e, .bool r1, .bool (!r1), .slice list_a list_n list_e, .int .i64 r2, g14, g15, g16, g17, g18, g19, g20, g21, g22, g23, g24, g25, undef, undef] H Q :=
  ⟨spec_BestRice_I1 list_a list_e list_n r1 r2 Inv, ν, ⟨best, least, k, g8, g14, g15, g16, g17, g18, g19, g20, g21, g22, g23, g24, g25, rfl, h0⟩, fun μ tm H h => by obtain ⟨best, least, k, g8, g14, g15, g16, g17, g18, g19, g20, g21, g22, g23, g24, g25, rfl, hI⟩ := h; exact hs μ best least k g8 g14 g15 g16 g17 g18 g19 g20 g21 g22 g23 g24 g25 H hI⟩
theorem spec_BestRice_n1 {list_a : Option Addr} {list_e : Nat} {list_n : Nat} {r1 : Bool} {r2 : Int} {Q : Post} {Inv : Nat → Int → Int → Int → AHeap → Prop} {μ : Nat} (μ' : Nat) {best : Int} {least : Int} {k : Int} {g8 g14 g15 g16 g17 g18 g19 g20 g21 g22 g23 g24 g25 : Value} {H : AHeap} (hm : μ' < μ) (hI : Inv μ' best least k H) : loopQ (spec_BestRice_I1 list_a list_e list_n r1 r2 Inv) μ Q .normal [.slice list_a list_n list_e, undef, .int .i64 0, .int .i64 0, .bool false, .int .i64 best, .int .i64 least, .int .i64 k, g8, .slice list_a list_n list_e, .bool r1, .bool (!r1), .slice list_a list_n list_e, .int .i64 r2, g14, g15, g16, g17, g18, g19, g20, g21, g22, g23, g24, g25, undef, undef] H := ⟨μ', hm, best, least, k, g8, g14, g15, g16, g17, g18, g19, g20, g21, g22, g23, g24, g25, rfl, hI⟩
theorem spec_BestRice_x1_0 (list_a : Option Addr) (list_e : Nat) (list_n : Nat) (r1 : Bool) (r2 : Int) (best : Int) (least : Int) (k : Int) (g8 g14 g15 g16 g17 g18 g19 g20 g21 g22 g23 g24 g25 : Value) (H : AHeap) (K : Value → AHeap → Prop)  {I : Nat → List Value → AHeap → Prop} {μ : Nat} : loopQ I μ (blockQ 0 (seqQ (exK Try.prog E_spec_BestRice (cr (cr (cr (cr (cr (bodyC Try.f38))))))) (retK Try.prog Try.f38 K))) (.exit 0) [.slice list_a list_n list_e, undef, .int .i64 0, .int .i64 0, .bool false, .int .i64 best, .int .i64 least, .int .i64 k, g8, .slice list_a list_n list_e, .bool r1, .bool (!r1), .slice list_a list_n list_e, .int .i64 r2, g14, g15, g16, g17, g18, g19, g20, g21, g22, g23, g24, g25, undef, undef] H =
  (K (.tuple #[.int .i64 best, .int .i64 least, .bool true]) H) := by kernel_rfl
theorem E_spec_BestRice_ok : ∀ g, FnOk Try.prog g (E_spec_BestRice g) := FnOk.envOf (by
  intro x hx
  simp only [List.mem_cons, List.not_mem_nil, or_false] at hx
  rcases hx with rfl | rfl
  · exact spec_l02Integers_ok
  · exact spec_l06RiceLong_ok)
set_option maxHeartbeats 1000000 in
theorem spec_BestRice_main (list_a : Option Addr) (list_n : Nat) (list_e : Nat) (H : AHeap) (K : Value → AHeap → Prop) (h : T_spec_BestRice list_a list_n list_e H fun (r1 : Int) (r2 : Int) (r3 : Bool) (H' : AHeap) => K (.tuple #[.int .i64 r1, .int .i64 r2, .bool r3]) H') : bodyK Try.prog E_spec_BestRice Try.f38 [.slice list_a list_n list_e] H K := by
  rw [spec_BestRice_vc]
  obtain ⟨l_list, i_list, bd_7, hk⟩ := h
  obtain rfl := i_list.eqn
  have e : (p_spec_BestRice l_list) = _ := rfl
  have e := e.trans (p_spec_BestRice_eq l_list)
  have g0 := Grow.refl H
  refine T_spec_l02Integers_i ⟨_, (i_list.grow g0), (by first | omega | (simp only [List.length_set, List.length_replicate, List.length_append, List.length_cons, List.length_nil]; done) | (simp only [List.length_set, List.length_replicate, List.length_append, List.length_cons, List.length_nil]; omega)), ?_⟩
  refine Br.intro (fun c_1 => ?_) (fun c_1 => ?_)
  · have e := e.trans (cond_t c_1)
    have c_1n := nf_of_t c_1
    rw [e] at hk
    exact hk
  · have e := e.trans (cond_f c_1)
    have c_1n := nt_of_f c_1
    refine T_spec_l06RiceLong_i ⟨_, (i_list.grow g0), (by first | omega | (simp only [List.length_set, List.length_replicate, List.length_append, List.length_cons, List.length_nil]; done) | (simp only [List.length_set, List.length_replicate, List.length_append, List.length_cons, List.length_nil]; omega)), ?_⟩
    refine spec_BestRice_L1 _ _ _ _ _ (fun (μ : Nat) (best : Int) (least : Int) (k : Int) (H_1 : AHeap) => H = H_1 ∧ (1 : Int) ≤ k ∧ ((k ≤ 20 + 1 ∨ k ≤ (1 : Int))) ∧ 20 - k + 1 ≤ (μ : Int) ∧ p_spec_BestRice l_list = p_spec_BestRice_l1 l_list (μ + 1) best least k) (Int.toNat (20 - (1 : Int) + 1)) _ _ _ _ _ _ _ _ _ _ _ _ _ _ _ _ H ?_ ?_
    · exact ⟨rfl, (by first | omega | (simp; done) | (simp; omega)), (by first | omega | (simp; done) | (simp; omega)), (by omega), e⟩
    · intro μ best least k g8 g14 g15 g16 g17 g18 g19 g20 g21 g22 g23 g24 g25 H_1 hI
      obtain ⟨rfl, v_2, v_3, hμ, e⟩ := hI
      rw [spec_BestRice_r1]
      have e := e.trans (p_spec_BestRice_l1_s l_list μ best least k)
      have l_4 := g0.1
      refine Br.intro (fun c_5 => ?_) (fun c_5 => ?_)
      · have e := e.trans (cond_t c_5)
        have c_5' := of_decide_eq_true c_5
        refine T_spec_l06RiceLong_i ⟨_, (i_list.grow g0), (by first | omega | (simp only [List.length_set, List.length_replicate, List.length_append, List.length_cons, List.length_nil]; done) | (simp only [List.length_set, List.length_replicate, List.length_append, List.length_cons, List.length_nil]; omega)), ?_⟩
        refine Br.intro (fun c_6 => ?_) (fun c_6 => ?_)
        · have e := e.trans (cond_t c_6)
          have c_6' := of_decide_eq_true c_6
          rw [show IntKind.wrap .i64 (k + 1) = (k + 1) from wrap64 (by omega) (by omega)]
          refine spec_BestRice_n1 (μ - 1) (by omega) ⟨rfl, (by first | omega | (simp only [List.length_append, List.length_cons, List.length_nil, List.length_set]; done) | (simp only [List.length_append, List.length_cons, List.length_nil, List.length_set]; omega)), (by first | omega | (simp only [List.length_append, List.length_cons, List.length_nil, List.length_set]; done) | (simp only [List.length_append, List.length_cons, List.length_nil, List.length_set]; omega)), (by omega), (by rw [show μ - 1 + 1 = μ from by omega]; exact e)⟩
        · have e := e.trans (cond_f c_6)
          have c_6' := of_decide_eq_false c_6
          rw [show IntKind.wrap .i64 (k + 1) = (k + 1) from wrap64 (by omega) (by omega)]
          refine spec_BestRice_n1 (μ - 1) (by omega) ⟨rfl, (by first | omega | (simp only [List.length_append, List.length_cons, List.length_nil, List.length_set]; done) | (simp only [List.length_append, List.length_cons, List.length_nil, List.length_set]; omega)), (by first | omega | (simp only [List.length_append, List.length_cons, List.length_nil, List.length_set]; done) | (simp only [List.length_append, List.length_cons, List.length_nil, List.length_set]; omega)), (by omega), (by rw [show μ - 1 + 1 = μ from by omega]; exact e)⟩
      · have e := e.trans (cond_f c_5)
        have c_5' := of_decide_eq_false c_5
        rw [spec_BestRice_x1_0]
        rw [e] at hk
        exact hk
theorem spec_BestRice_ok : FnOk Try.prog 38 S_spec_BestRice := by
  refine FnOk.body mix_ok E_spec_BestRice_ok Try.func38 rfl (by kernel_rfl) (by kernel_rfl) ?_ ?_ ?_ ?_
  · intro args H K K' h hk
    simp only [S_spec_BestRice] at *
    unfold F_spec_BestRice at *
    split at hk
    · obtain ⟨l_list, i_list, bd_7, k⟩ := hk
      exact ⟨l_list, i_list, bd_7, h _ _ k⟩
    · exact hk.elim
  · intro _ args H K hk
    simp only [S_spec_BestRice] at *
    unfold F_spec_BestRice at *
    split at hk
    · obtain ⟨l_list, i_list, bd_7, k⟩ := hk
      exact ⟨_, k, fun K' k' => ⟨l_list, i_list, bd_7, k'⟩⟩
    · exact hk.elim
  · intro args H K hk
    simp only [S_spec_BestRice] at *
    unfold F_spec_BestRice at *
    split at hk
    · obtain ⟨l_list, i_list, bd_7, k⟩ := hk
      exact ⟨_, _, k⟩
    · exact hk.elim
  · have mm := @spec_BestRice_main
    revert mm
    generalize bodyK Try.prog E_spec_BestRice Try.f38 = Q
    intro mm args H K hk
    simp only [S_spec_BestRice] at *
    unfold F_spec_BestRice at *
    split at hk
    · exact mm _ _ _ H K hk
    · exact hk.elim
def p_impl_within (n : Int) (low : Int) (high : Int) : Bool := (bif decide ((low : Int) ≤ n) then decide ((n : Int) ≤ high) else false)
theorem p_impl_within_eq (n : Int) (low : Int) (high : Int) : p_impl_within n low high = (bif decide ((low : Int) ≤ n) then decide ((n : Int) ≤ high) else false) := rfl
def T_impl_within (n : Int) (low : Int) (high : Int) (H : AHeap) (K : Bool → AHeap → Prop) : Prop := K (p_impl_within n low high) H
theorem impl_within_t {n a b : Int} (h : p_impl_within n a b = true) : a ≤ n ∧ n ≤ b := by
  unfold p_impl_within at h
  by_cases h1 : a ≤ n
  · rw [decide_eq_true h1, cond_true] at h; exact ⟨h1, of_decide_eq_true h⟩
  · rw [decide_eq_false h1] at h; cases h
theorem T_impl_within_i {n : Int} {low : Int} {high : Int} {H : AHeap} {K : Bool → AHeap → Prop} (h : K (p_impl_within n low high) H) : T_impl_within n low high H K := h
/-! impl_within: function 53 -/
def E_impl_within : Env := envOf []
def F_impl_within : List Value → AHeap → (Value → AHeap → Prop) → Prop
  | [.int .i64 n, .int .i64 low, .int .i64 high], H, K => T_impl_within n low high H fun (r1 : Bool) (H' : AHeap) => K (.bool r1) H'
  | _, _, _ => False
def S_impl_within : FSpec := ⟨F_impl_within, true⟩
theorem impl_within_vc (n : Int) (low : Int) (high : Int) (H : AHeap) (K : Value → AHeap → Prop) : bodyK Try.prog E_impl_within Try.f53 [.int .i64 n, .int .i64 low, .int .i64 high] H K =
  (Br (decide ((low : Int) ≤ n)) (K (.bool (decide ((n : Int) ≤ high))) H) (K (.bool false) H)) := by kernel_rfl
theorem E_impl_within_ok : ∀ g, FnOk Try.prog g (E_impl_within g) := FnOk.envOf (by
  intro x hx; cases hx)
set_option maxHeartbeats 1000000 in
theorem impl_within_main (n : Int) (low : Int) (high : Int) (H : AHeap) (K : Value → AHeap → Prop) (h : T_impl_within n low high H fun (r1 : Bool) (H' : AHeap) => K (.bool r1) H') : bodyK Try.prog E_impl_within Try.f53 [.int .i64 n, .int .i64 low, .int .i64 high] H K := by
  rw [impl_within_vc]
  unfold T_impl_within p_impl_within at h
  repeat' (first | exact h | (exfalso; simp_all; done) | (refine ⟨by decide, ?_⟩) | (refine Br.intro (fun hb => ?_) (fun hb => ?_) <;> (try simp only [hb, cond_true, cond_false, Bool.not_true, Bool.not_false] at h)))
theorem impl_within_ok : FnOk Try.prog 53 S_impl_within := by
  refine FnOk.body mix_ok E_impl_within_ok Try.func53 rfl (by kernel_rfl) (by kernel_rfl) ?_ ?_ ?_ ?_
  · intro args H K K' h hk
    simp only [S_impl_within] at *
    unfold F_impl_within at *
    split at hk
    · have k := hk
      exact h _ _ k
    · exact hk.elim
  · intro _ args H K hk
    simp only [S_impl_within] at *
    unfold F_impl_within at *
    split at hk
    · have k := hk
      exact ⟨_, k, fun K' k' => k'⟩
    · exact hk.elim
  · intro args H K hk
    simp only [S_impl_within] at *
    unfold F_impl_within at *
    split at hk
    · have k := hk
      exact ⟨_, _, k⟩
    · exact hk.elim
  · have mm := @impl_within_main
    revert mm
    generalize bodyK Try.prog E_impl_within Try.f53 = Q
    intro mm args H K hk
    simp only [S_impl_within] at *
    unfold F_impl_within at *
    split at hk
    · exact mm _ _ _ H K hk
    · exact hk.elim
def p_impl_areWithin_l1 (l_list : List Int) (vmost : Int) : Nat → Bool → Int → Bool
  | 0, _, _ => false
  | μ + 1, t4, t9 => (bif decide ((t9 : Int) < (l_list.length : Int)) then (bif !((p_impl_within (((l_list).getD (t9 : Int).toNat 0)) (IntKind.wrap .i64 (0 - vmost)) vmost)) then false else (p_impl_areWithin_l1 l_list vmost μ t4 (t9 + 1))) else true)
theorem p_impl_areWithin_l1_s (l_list : List Int) (vmost : Int) (μ : Nat) (t4 : Bool) (t9 : Int) : p_impl_areWithin_l1 l_list vmost (μ + 1) t4 t9 = (bif decide ((t9 : Int) < (l_list.length : Int)) then (bif !((p_impl_within (((l_list).getD (t9 : Int).toNat 0)) (IntKind.wrap .i64 (0 - vmost)) vmost)) then false else (p_impl_areWithin_l1 l_list vmost μ t4 (t9 + 1))) else true) := rfl
def p_impl_areWithin (l_list : List Int) (vmost : Int) : Bool := (p_impl_areWithin_l1 l_list vmost (Int.toNat ((l_list.length : Int) - (0 : Int)) + 1) false (0 : Int))
theorem p_impl_areWithin_eq (l_list : List Int) (vmost : Int) : p_impl_areWithin l_list vmost = (p_impl_areWithin_l1 l_list vmost (Int.toNat ((l_list.length : Int) - (0 : Int)) + 1) false (0 : Int)) := rfl
def T_impl_areWithin (list_a : Option Addr) (list_n : Nat) (list_e : Nat) (vmost : Int) (H : AHeap) (K : Bool → AHeap → Prop) : Prop := ∃ (l_list : List Int), IsL fI H list_a list_n l_list ∧ l_list.length < 1073741824 ∧ K (p_impl_areWithin l_list vmost) H
theorem T_impl_areWithin_i {list_a : Option Addr} {list_n : Nat} {list_e : Nat} {vmost : Int} {H : AHeap} {K : Bool → AHeap → Prop} (h : ∃ (l_list : List Int), IsL fI H list_a list_n l_list ∧ l_list.length < 1073741824 ∧ K (p_impl_areWithin l_list vmost) H) : T_impl_areWithin list_a list_n list_e vmost H K := h

/-! impl_areWithin: function 82 -/
def E_impl_areWithin : Env := envOf [(53, S_impl_within)]
def F_impl_areWithin : List Value → AHeap → (Value → AHeap → Prop) → Prop
  | [.slice list_a list_n list_e, .int .i64 vmost], H, K => T_impl_areWithin list_a list_n list_e vmost H fun (r1 : Bool) (H' : AHeap) => K (.bool r1) H'
  | _, _, _ => False
def S_impl_areWithin : FSpec := ⟨F_impl_areWithin, true⟩
theorem impl_areWithin_vc (list_a : Option Addr) (list_n : Nat) (list_e : Nat) (vmost : Int) (H : AHeap) (K : Value → AHeap → Prop) : bodyK Try.prog E_impl_areWithin Try.f82 [.slice list_a list_n list_e, .int .i64 vmost] H K =
  (loopK (exK Try.prog E_impl_areWithin (cl (cl (cr (cl (cr (bodyC Try.f82))))))) [.slice list_a list_n list_e, .int .i64 vmost, undef, undef, .bool false, undef, undef, .slice list_a list_n list_e, .int .i64 (list_n : Int), .int .i64 0, undef, undef, undef, undef, undef, undef, undef, undef, undef, undef] H (blockQ 0 (seqQ (exK Try.prog E_impl_areWithin (cr (cr (bodyC Try.f82)))) (retK Try.prog Try.f82 K)))) := by kernel_rfl
theorem impl_areWithin_r1 (list_a : Option Addr) (list_e : Nat) (list_n : Nat) (vmost : Int) (t4 : Bool) (t9 : Int) (g6 g10 g11 g12 g13 g14 g15 g16 g17 g18 g19 : Value) (H : AHeap) (R : Post) : exK Try.prog E_impl_areWithin (cl (cl (cr (cl (cr (bodyC Try.f82)))))) [.slice list_a list_n list_e, .int .i64 vmost, undef, undef, .bool t4, undef, g6, .slice list_a list_n list_e, .int .i64 (list_n : Int), .int .i64 t9, g10, g11, g12, g13, g14, g15, g16, g17, g18, g19] H R =
  (Br (decide ((t9 : Int) < (list_n : Int))) ((0 : Int) ≤ t9 ∧ t9 < (list_n : Int) ∧ ∃ b1 f1, (list_a : Option Addr) = some ⟨b1, f1, none⟩ ∧ ∃ x1 : Int,  rdC H b1 (f1 + (t9 : Int).toNat * 1) = some (.int .i64 x1) ∧ T_impl_within x1 (IntKind.wrap .i64 (0 - vmost)) vmost H fun (r1 : Bool) (H1 : AHeap) => Br (!r1) (R .ret [.slice list_a list_n list_e, .int .i64 vmost, undef, undef, .bool false, undef, .int .i64 x1, .slice list_a list_n list_e, .int .i64 (list_n : Int), .int .i64 t9, .bool (decide ((t9 : Int) < (list_n : Int))), .pointer (some ⟨b1, f1 + (t9 : Int).toNat * 1, none⟩), .int .i64 x1, .int .i64 x1, .int .i64 vmost, .int .i64 (IntKind.wrap .i64 (0 - vmost)), .int .i64 vmost, .bool r1, .bool (!r1), g19] H1) (R .normal [.slice list_a list_n list_e, .int .i64 vmost, undef, undef, .bool t4, undef, .int .i64 x1, .slice list_a list_n list_e, .int .i64 (list_n : Int), .int .i64 (IntKind.wrap .i64 (t9 + 1)), .bool (decide ((t9 : Int) < (list_n : Int))), .pointer (some ⟨b1, f1 + (t9 : Int).toNat * 1, none⟩), .int .i64 x1, .int .i64 x1, .int .i64 vmost, .int .i64 (IntKind.wrap .i64 (0 - vmost)), .int .i64 vmost, .bool r1, .bool (!r1), .int .i64 (IntKind.wrap .i64 (t9 + 1))] H1)) (R (.exit 0) [.slice list_a list_n list_e, .int .i64 vmost, undef, undef, .bool t4, undef, g6, .slice list_a list_n list_e, .int .i64 (list_n : Int), .int .i64 t9, .bool (decide ((t9 : Int) < (list_n : Int))), g11, g12, g13, g14, g15, g16, g17, g18, g19] H)) := by kernel_rfl
def impl_areWithin_I1 (list_a : Option Addr) (list_e : Nat) (list_n : Nat) (vmost : Int) (Inv : Nat → Bool → Int → AHeap → Prop) : Nat → List Value → AHeap → Prop := fun μ tm H => ∃ (t4 : Bool), ∃ (t9 : Int), ∃ g6 g10 g11 g12 g13 g14 g15 g16 g17 g18 g19, tm = [.slice list_a list_n list_e, .int .i64 vmost, undef, undef, .bool t4, undef, g6, .slice list_a list_n list_e, .int .i64 (list_n : Int), .int .i64 t9, g10, g11, g12, g13, g14, g15, g16, g17, g18, g19] ∧ Inv μ t4 t9 H
theorem impl_areWithin_L1 (list_a : Option Addr) (list_e : Nat) (list_n : Nat) (vmost : Int) {Q : Post} (Inv : Nat → Bool → Int → AHeap → Prop) (ν : Nat) (t4 : Bool) (t9 : Int) (g6 g10 g11 g12 g13 g14 g15 g16 g17 g18 g19 : Value) (H : AHeap) (h0 : Inv ν t4 t9 H)
    (hs : ∀ (μ : Nat) (t4 : Bool) (t9 : Int) (g6 g10 g11 g12 g13 g14 g15 g16 g17 g18 g19 : Value) (H : AHeap), Inv μ t4 t9 H → exK Try.prog E_impl_areWithin (cl (cl (cr (cl (cr (bodyC Try.f82)))))) [.slice list_a list_n list_e, .int .i64 vmost, undef, undef, .bool t4, undef, g6, .slice list_a list_n list_e, .int .i64 (list_n : Int), .int .i64 t9, g10, g11, g12, g13, g14, g15, g16, g17, g18, g19] H (loopQ (impl_areWithin_I1 list_a list_e list_n vmost Inv) μ Q)) : loopK (exK Try.prog E_impl_areWithin (cl (cl (cr (cl (cr (bodyC Try.f82))))))) [.slice list_a list_n list_e, .int .i64 vmost, undef, undef, .bool t4, undef, g6, .slice list_a list_n list_e, .int .i64 (list_n : Int), .int .i64 t9, g10, g11, g12, g13, g14, g15, g16, g17, g18, g19] H Q :=
  ⟨impl_areWithin_I1 list_a list_e list_n vmost Inv, ν, ⟨t4, t9, g6, g10, g11, g12, g13, g14, g15, g16, g17, g18, g19, rfl, h0⟩, fun μ tm H h => by obtain ⟨t4, t9, g6, g10, g11, g12, g13, g14, g15, g16, g17, g18, g19, rfl, hI⟩ := h; exact hs μ t4 t9 g6 g10 g11 g12 g13 g14 g15 g16 g17 g18 g19 H hI⟩
theorem impl_areWithin_n1 {list_a : Option Addr} {list_e : Nat} {list_n : Nat} {vmost : Int} {Q : Post} {Inv : Nat → Bool → Int → AHeap → Prop} {μ : Nat} (μ' : Nat) {t4 : Bool} {t9 : Int} {g6 g10 g11 g12 g13 g14 g15 g16 g17 g18 g19 : Value} {H : AHeap} (hm : μ' < μ) (hI : Inv μ' t4 t9 H) : loopQ (impl_areWithin_I1 list_a list_e list_n vmost Inv) μ Q .normal [.slice list_a list_n list_e, .int .i64 vmost, undef, undef, .bool t4, undef, g6, .slice list_a list_n list_e, .int .i64 (list_n : Int), .int .i64 t9, g10, g11, g12, g13, g14, g15, g16, g17, g18, g19] H := ⟨μ', hm, t4, t9, g6, g10, g11, g12, g13, g14, g15, g16, g17, g18, g19, rfl, hI⟩
theorem impl_areWithin_x1_0 (list_a : Option Addr) (list_e : Nat) (list_n : Nat) (vmost : Int) (t4 : Bool) (t9 : Int) (g6 g10 g11 g12 g13 g14 g15 g16 g17 g18 g19 : Value) (H : AHeap) (K : Value → AHeap → Prop)  {I : Nat → List Value → AHeap → Prop} {μ : Nat} : loopQ I μ (blockQ 0 (seqQ (exK Try.prog E_impl_areWithin (cr (cr (bodyC Try.f82)))) (retK Try.prog Try.f82 K))) (.exit 0) [.slice list_a list_n list_e, .int .i64 vmost, undef, undef, .bool t4, undef, g6, .slice list_a list_n list_e, .int .i64 (list_n : Int), .int .i64 t9, g10, g11, g12, g13, g14, g15, g16, g17, g18, g19] H =
  (K (.bool true) H) := by kernel_rfl
theorem impl_areWithin_x1_ret (list_a : Option Addr) (list_e : Nat) (list_n : Nat) (vmost : Int) (t4 : Bool) (t9 : Int) (g6 g10 g11 g12 g13 g14 g15 g16 g17 g18 g19 : Value) (H : AHeap) (K : Value → AHeap → Prop)  {I : Nat → List Value → AHeap → Prop} {μ : Nat} : loopQ I μ (blockQ 0 (seqQ (exK Try.prog E_impl_areWithin (cr (cr (bodyC Try.f82)))) (retK Try.prog Try.f82 K))) .ret [.slice list_a list_n list_e, .int .i64 vmost, undef, undef, .bool t4, undef, g6, .slice list_a list_n list_e, .int .i64 (list_n : Int), .int .i64 t9, g10, g11, g12, g13, g14, g15, g16, g17, g18, g19] H =
  (K (.bool t4) H) := by kernel_rfl
theorem E_impl_areWithin_ok : ∀ g, FnOk Try.prog g (E_impl_areWithin g) := FnOk.envOf (by
  intro x hx
  simp only [List.mem_cons, List.not_mem_nil, or_false] at hx
  subst hx; exact impl_within_ok)
set_option maxHeartbeats 1000000 in
theorem impl_areWithin_main (list_a : Option Addr) (list_n : Nat) (list_e : Nat) (vmost : Int) (H : AHeap) (K : Value → AHeap → Prop) (h : T_impl_areWithin list_a list_n list_e vmost H fun (r1 : Bool) (H' : AHeap) => K (.bool r1) H') : bodyK Try.prog E_impl_areWithin Try.f82 [.slice list_a list_n list_e, .int .i64 vmost] H K := by
  rw [impl_areWithin_vc]
  obtain ⟨l_list, i_list, bd_9, hk⟩ := h
  obtain rfl := i_list.eqn
  have e : (p_impl_areWithin l_list vmost) = _ := rfl
  have e := e.trans (p_impl_areWithin_eq l_list vmost)
  have g0 := Grow.refl H
  refine impl_areWithin_L1 _ _ _ _ (fun (μ : Nat) (t4 : Bool) (t9 : Int) (H_1 : AHeap) => H = H_1 ∧ (0 : Int) ≤ t9 ∧ t9 ≤ (l_list.length : Int) ∧ (l_list.length : Int) - t9 ≤ (μ : Int) ∧ p_impl_areWithin l_list vmost = p_impl_areWithin_l1 l_list vmost (μ + 1) t4 t9) (Int.toNat ((l_list.length : Int) - (0 : Int))) _ _ _ _ _ _ _ _ _ _ _ _ _ H ?_ ?_
  · exact ⟨rfl, (by first | omega | (simp; done) | (simp; omega)), (by first | omega | (simp; done) | (simp; omega)), (by omega), e⟩
  · intro μ t4 t9 g6 g10 g11 g12 g13 g14 g15 g16 g17 g18 g19 H_1 hI
    obtain ⟨rfl, v_1, v_2, hμ, e⟩ := hI
    rw [impl_areWithin_r1]
    have e := e.trans (p_impl_areWithin_l1_s l_list vmost μ t4 t9)
    have l_3 := g0.1
    refine Br.intro (fun c_4 => ?_) (fun c_4 => ?_)
    · have e := e.trans (cond_t c_4)
      have c_4' := of_decide_eq_true c_4
      obtain ⟨b_5, f_6, q_7⟩ := (i_list).pos (by omega)
      refine ⟨by omega, by omega, b_5, f_6, q_7, ?_⟩
      refine ⟨((l_list).getD (t9 : Int).toNat 0), (i_list).rd g0 q_7 (by omega) _, ?_⟩
      refine T_impl_within_i ?_
      refine Br.intro (fun c_8 => ?_) (fun c_8 => ?_)
      · have e := e.trans (cond_t c_8)
        have c_8n := nf_of_t c_8
        rw [impl_areWithin_x1_ret]
        rw [e] at hk
        exact hk
      · have e := e.trans (cond_f c_8)
        have c_8n := nt_of_f c_8
        have c_8n' := impl_within_t c_8n
        rw [show IntKind.wrap .i64 (t9 + 1) = (t9 + 1) from wrap64 (by omega) (by omega)]
        refine impl_areWithin_n1 (μ - 1) (by omega) ⟨rfl, (by first | omega | (simp only [List.length_append, List.length_cons, List.length_nil, List.length_set]; done) | (simp only [List.length_append, List.length_cons, List.length_nil, List.length_set]; omega)), (by first | omega | (simp only [List.length_append, List.length_cons, List.length_nil, List.length_set]; done) | (simp only [List.length_append, List.length_cons, List.length_nil, List.length_set]; omega)), (by omega), (by rw [show μ - 1 + 1 = μ from by omega]; exact e)⟩
    · have e := e.trans (cond_f c_4)
      have c_4' := of_decide_eq_false c_4
      rw [impl_areWithin_x1_0]
      rw [e] at hk
      exact hk
theorem impl_areWithin_ok : FnOk Try.prog 82 S_impl_areWithin := by
  refine FnOk.body mix_ok E_impl_areWithin_ok Try.func82 rfl (by kernel_rfl) (by kernel_rfl) ?_ ?_ ?_ ?_
  · intro args H K K' h hk
    simp only [S_impl_areWithin] at *
    unfold F_impl_areWithin at *
    split at hk
    · obtain ⟨l_list, i_list, bd_9, k⟩ := hk
      exact ⟨l_list, i_list, bd_9, h _ _ k⟩
    · exact hk.elim
  · intro _ args H K hk
    simp only [S_impl_areWithin] at *
    unfold F_impl_areWithin at *
    split at hk
    · obtain ⟨l_list, i_list, bd_9, k⟩ := hk
      exact ⟨_, k, fun K' k' => ⟨l_list, i_list, bd_9, k'⟩⟩
    · exact hk.elim
  · intro args H K hk
    simp only [S_impl_areWithin] at *
    unfold F_impl_areWithin at *
    split at hk
    · obtain ⟨l_list, i_list, bd_9, k⟩ := hk
      exact ⟨_, _, k⟩
    · exact hk.elim
  · have mm := @impl_areWithin_main
    revert mm
    generalize bodyK Try.prog E_impl_areWithin Try.f82 = Q
    intro mm args H K hk
    simp only [S_impl_areWithin] at *
    unfold F_impl_areWithin at *
    split at hk
    · exact mm _ _ _ _ H K hk
    · exact hk.elim
def p_impl_AreIntegers (l_list : List Int) : Bool := (bif (p_impl_within (l_list.length : Int) (1 : Int) (128 : Int)) then (p_impl_areWithin l_list (1000000 : Int)) else false)
theorem p_impl_AreIntegers_eq (l_list : List Int) : p_impl_AreIntegers l_list = (bif (p_impl_within (l_list.length : Int) (1 : Int) (128 : Int)) then (p_impl_areWithin l_list (1000000 : Int)) else false) := rfl
def T_impl_AreIntegers (list_a : Option Addr) (list_n : Nat) (list_e : Nat) (H : AHeap) (K : Bool → AHeap → Prop) : Prop := ∃ (l_list : List Int), IsL fI H list_a list_n l_list ∧ l_list.length < 1073741824 ∧ K (p_impl_AreIntegers l_list) H
theorem T_impl_AreIntegers_i {list_a : Option Addr} {list_n : Nat} {list_e : Nat} {H : AHeap} {K : Bool → AHeap → Prop} (h : ∃ (l_list : List Int), IsL fI H list_a list_n l_list ∧ l_list.length < 1073741824 ∧ K (p_impl_AreIntegers l_list) H) : T_impl_AreIntegers list_a list_n list_e H K := h

/-! impl_AreIntegers: function 66 -/
def E_impl_AreIntegers : Env := envOf [(53, S_impl_within), (82, S_impl_areWithin)]
def F_impl_AreIntegers : List Value → AHeap → (Value → AHeap → Prop) → Prop
  | [.slice list_a list_n list_e], H, K => T_impl_AreIntegers list_a list_n list_e H fun (r1 : Bool) (H' : AHeap) => K (.bool r1) H'
  | _, _, _ => False
def S_impl_AreIntegers : FSpec := ⟨F_impl_AreIntegers, true⟩
theorem impl_AreIntegers_vc (list_a : Option Addr) (list_n : Nat) (list_e : Nat) (H : AHeap) (K : Value → AHeap → Prop) : bodyK Try.prog E_impl_AreIntegers Try.f66 [.slice list_a list_n list_e] H K =
  (T_impl_within (list_n : Int) 1 128 H fun (r1 : Bool) (H1 : AHeap) => Br r1 (T_impl_areWithin list_a list_n list_e 1000000 H1 fun (r2 : Bool) (H2 : AHeap) => K (.bool r2) H2) (K (.bool false) H1)) := by kernel_rfl
theorem E_impl_AreIntegers_ok : ∀ g, FnOk Try.prog g (E_impl_AreIntegers g) := FnOk.envOf (by
  intro x hx
  simp only [List.mem_cons, List.not_mem_nil, or_false] at hx
  rcases hx with rfl | rfl
  · exact impl_within_ok
  · exact impl_areWithin_ok)
set_option maxHeartbeats 1000000 in
theorem impl_AreIntegers_main (list_a : Option Addr) (list_n : Nat) (list_e : Nat) (H : AHeap) (K : Value → AHeap → Prop) (h : T_impl_AreIntegers list_a list_n list_e H fun (r1 : Bool) (H' : AHeap) => K (.bool r1) H') : bodyK Try.prog E_impl_AreIntegers Try.f66 [.slice list_a list_n list_e] H K := by
  rw [impl_AreIntegers_vc]
  obtain ⟨l_list, i_list, bd_2, hk⟩ := h
  obtain rfl := i_list.eqn
  have e : (p_impl_AreIntegers l_list) = _ := rfl
  have e := e.trans (p_impl_AreIntegers_eq l_list)
  have g0 := Grow.refl H
  refine T_impl_within_i ?_
  refine Br.intro (fun c_1 => ?_) (fun c_1 => ?_)
  · have e := e.trans (cond_t c_1)
    have c_1' := impl_within_t c_1
    refine T_impl_areWithin_i ⟨_, (i_list.grow g0), (by first | omega | (simp only [List.length_set, List.length_replicate, List.length_append, List.length_cons, List.length_nil]; done) | (simp only [List.length_set, List.length_replicate, List.length_append, List.length_cons, List.length_nil]; omega)), ?_⟩
    rw [e] at hk
    exact hk
  · have e := e.trans (cond_f c_1)
    rw [e] at hk
    exact hk
theorem impl_AreIntegers_ok : FnOk Try.prog 66 S_impl_AreIntegers := by
  refine FnOk.body mix_ok E_impl_AreIntegers_ok Try.func66 rfl (by kernel_rfl) (by kernel_rfl) ?_ ?_ ?_ ?_
  · intro args H K K' h hk
    simp only [S_impl_AreIntegers] at *
    unfold F_impl_AreIntegers at *
    split at hk
    · obtain ⟨l_list, i_list, bd_2, k⟩ := hk
      exact ⟨l_list, i_list, bd_2, h _ _ k⟩
    · exact hk.elim
  · intro _ args H K hk
    simp only [S_impl_AreIntegers] at *
    unfold F_impl_AreIntegers at *
    split at hk
    · obtain ⟨l_list, i_list, bd_2, k⟩ := hk
      exact ⟨_, k, fun K' k' => ⟨l_list, i_list, bd_2, k'⟩⟩
    · exact hk.elim
  · intro args H K hk
    simp only [S_impl_AreIntegers] at *
    unfold F_impl_AreIntegers at *
    split at hk
    · obtain ⟨l_list, i_list, bd_2, k⟩ := hk
      exact ⟨_, _, k⟩
    · exact hk.elim
  · have mm := @impl_AreIntegers_main
    revert mm
    generalize bodyK Try.prog E_impl_AreIntegers Try.f66 = Q
    intro mm args H K hk
    simp only [S_impl_AreIntegers] at *
    unfold F_impl_AreIntegers at *
    split at hk
    · exact mm _ _ _ H K hk
    · exact hk.elim
def p_impl_zigZag (n : Int) : Int := (bif decide ((0 : Int) ≤ n) then IntKind.wrap .i64 (2 * n) else IntKind.wrap .i64 ((IntKind.wrap .i64 ((-2) * n)) - 1))
theorem p_impl_zigZag_eq (n : Int) : p_impl_zigZag n = (bif decide ((0 : Int) ≤ n) then IntKind.wrap .i64 (2 * n) else IntKind.wrap .i64 ((IntKind.wrap .i64 ((-2) * n)) - 1)) := rfl
def T_impl_zigZag (n : Int) (H : AHeap) (K : Int → AHeap → Prop) : Prop := K (p_impl_zigZag n) H

theorem T_impl_zigZag_i {n : Int} {H : AHeap} {K : Int → AHeap → Prop} (h : K (p_impl_zigZag n) H) : T_impl_zigZag n H K := h
/-! impl_zigZag: function 56 -/
def E_impl_zigZag : Env := envOf []
def F_impl_zigZag : List Value → AHeap → (Value → AHeap → Prop) → Prop
  | [.int .i64 n], H, K => T_impl_zigZag n H fun (r1 : Int) (H' : AHeap) => K (.int .i64 r1) H'
  | _, _, _ => False
def S_impl_zigZag : FSpec := ⟨F_impl_zigZag, true⟩
theorem impl_zigZag_vc (n : Int) (H : AHeap) (K : Value → AHeap → Prop) : bodyK Try.prog E_impl_zigZag Try.f56 [.int .i64 n] H K =
  (Br (decide ((0 : Int) ≤ n)) (K (.int .i64 (IntKind.wrap .i64 (2 * n))) H) (K (.int .i64 (IntKind.wrap .i64 ((IntKind.wrap .i64 ((-2) * n)) - 1))) H)) := by kernel_rfl
theorem E_impl_zigZag_ok : ∀ g, FnOk Try.prog g (E_impl_zigZag g) := FnOk.envOf (by
  intro x hx; cases hx)
set_option maxHeartbeats 1000000 in
theorem impl_zigZag_main (n : Int) (H : AHeap) (K : Value → AHeap → Prop) (h : T_impl_zigZag n H fun (r1 : Int) (H' : AHeap) => K (.int .i64 r1) H') : bodyK Try.prog E_impl_zigZag Try.f56 [.int .i64 n] H K := by
  rw [impl_zigZag_vc]
  unfold T_impl_zigZag p_impl_zigZag at h
  repeat' (first | exact h | (exfalso; simp_all; done) | (refine ⟨by decide, ?_⟩) | (refine Br.intro (fun hb => ?_) (fun hb => ?_) <;> (try simp only [hb, cond_true, cond_false, Bool.not_true, Bool.not_false] at h)))
theorem impl_zigZag_ok : FnOk Try.prog 56 S_impl_zigZag := by
  refine FnOk.body mix_ok E_impl_zigZag_ok Try.func56 rfl (by kernel_rfl) (by kernel_rfl) ?_ ?_ ?_ ?_
  · intro args H K K' h hk
    simp only [S_impl_zigZag] at *
    unfold F_impl_zigZag at *
    split at hk
    · have k := hk
      exact h _ _ k
    · exact hk.elim
  · intro _ args H K hk
    simp only [S_impl_zigZag] at *
    unfold F_impl_zigZag at *
    split at hk
    · have k := hk
      exact ⟨_, k, fun K' k' => k'⟩
    · exact hk.elim
  · intro args H K hk
    simp only [S_impl_zigZag] at *
    unfold F_impl_zigZag at *
    split at hk
    · have k := hk
      exact ⟨_, _, k⟩
    · exact hk.elim
  · have mm := @impl_zigZag_main
    revert mm
    generalize bodyK Try.prog E_impl_zigZag Try.f56 = Q
    intro mm args H K hk
    simp only [S_impl_zigZag] at *
    unfold F_impl_zigZag at *
    split at hk
    · exact mm _ H K hk
    · exact hk.elim
def p_impl_riceLong_l1 (l_list : List Int) (k : Int) : Nat → Int → Int → Int
  | 0, _, _ => 0
  | μ + 1, sum, t10 => (bif decide ((t10 : Int) < (l_list.length : Int)) then (p_impl_riceLong_l1 l_list k μ (IntKind.wrap .i64 (sum + (IntKind.wrap .i64 ((IntKind.wrap .i64 ((Int.fdiv ((p_impl_zigZag (((l_list).getD (t10 : Int).toNat 0)))) (2 ^ (min (k : Int).toNat (IntKind.bits .i64)))) + 1)) + k)))) (t10 + 1)) else sum)
theorem p_impl_riceLong_l1_s (l_list : List Int) (k : Int) (μ : Nat) (sum : Int) (t10 : Int) : p_impl_riceLong_l1 l_list k (μ + 1) sum t10 = (bif decide ((t10 : Int) < (l_list.length : Int)) then (p_impl_riceLong_l1 l_list k μ (IntKind.wrap .i64 (sum + (IntKind.wrap .i64 ((IntKind.wrap .i64 ((Int.fdiv ((p_impl_zigZag (((l_list).getD (t10 : Int).toNat 0)))) (2 ^ (min (k : Int).toNat (IntKind.bits .i64)))) + 1)) + k)))) (t10 + 1)) else sum) := rfl
def p_impl_riceLong (l_list : List Int) (k : Int) : Int := (p_impl_riceLong_l1 l_list k (Int.toNat ((l_list.length : Int) - (0 : Int)) + 1) (0 : Int) (0 : Int))
theorem p_impl_riceLong_eq (l_list : List Int) (k : Int) : p_impl_riceLong l_list k = (p_impl_riceLong_l1 l_list k (Int.toNat ((l_list.length : Int) - (0 : Int)) + 1) (0 : Int) (0 : Int)) := rfl
def T_impl_riceLong (list_a : Option Addr) (list_n : Nat) (list_e : Nat) (k : Int) (H : AHeap) (K : Int → AHeap → Prop) : Prop := ∃ (l_list : List Int), IsL fI H list_a list_n l_list ∧ l_list.length < 1073741824 ∧ 0 ≤ k ∧ K (p_impl_riceLong l_list k) H
theorem T_impl_riceLong_i {list_a : Option Addr} {list_n : Nat} {list_e : Nat} {k : Int} {H : AHeap} {K : Int → AHeap → Prop} (h : ∃ (l_list : List Int), IsL fI H list_a list_n l_list ∧ l_list.length < 1073741824 ∧ 0 ≤ k ∧ K (p_impl_riceLong l_list k) H) : T_impl_riceLong list_a list_n list_e k H K := h

/-! impl_riceLong: function 67 -/
def E_impl_riceLong : Env := envOf [(56, S_impl_zigZag)]
def F_impl_riceLong : List Value → AHeap → (Value → AHeap → Prop) → Prop
  | [.slice list_a list_n list_e, .int .i64 k], H, K => T_impl_riceLong list_a list_n list_e k H fun (r1 : Int) (H' : AHeap) => K (.int .i64 r1) H'
  | _, _, _ => False
def S_impl_riceLong : FSpec := ⟨F_impl_riceLong, true⟩
theorem impl_riceLong_vc (list_a : Option Addr) (list_n : Nat) (list_e : Nat) (k : Int) (H : AHeap) (K : Value → AHeap → Prop) : bodyK Try.prog E_impl_riceLong Try.f67 [.slice list_a list_n list_e, .int .i64 k] H K =
  (loopK (exK Try.prog E_impl_riceLong (cl (cl (cr (cl (cr (cr (bodyC Try.f67)))))))) [.slice list_a list_n list_e, .int .i64 k, undef, undef, .int .i64 0, .int .i64 0, undef, undef, .slice list_a list_n list_e, .int .i64 (list_n : Int), .int .i64 0, undef, undef, undef, undef, undef, undef, undef, undef, undef, undef, undef, undef, undef, undef] H (blockQ 0 (seqQ (exK Try.prog E_impl_riceLong (cr (cr (cr (bodyC Try.f67))))) (retK Try.prog Try.f67 K)))) := by kernel_rfl
theorem impl_riceLong_r1 (k : Int) (list_a : Option Addr) (list_e : Nat) (list_n : Nat) (sum : Int) (t10 : Int) (g7 g11 g12 g13 g14 g15 g16 g17 g18 g19 g20 g21 g22 g23 : Value) (H : AHeap) (R : Post) : exK Try.prog E_impl_riceLong (cl (cl (cr (cl (cr (cr (bodyC Try.f67))))))) [.slice list_a list_n list_e, .int .i64 k, undef, undef, .int .i64 0, .int .i64 sum, undef, g7, .slice list_a list_n list_e, .int .i64 (list_n : Int), .int .i64 t10, g11, g12, g13, g14, g15, g16, g17, g18, g19, g20, g21, g22, g23, undef] H R =
  (Br (decide ((t10 : Int) < (list_n : Int))) ((0 : Int) ≤ t10 ∧ t10 < (list_n : Int) ∧ ∃ b1 f1, (list_a : Option Addr) = some ⟨b1, f1, none⟩ ∧ ∃ x1 : Int,  rdC H b1 (f1 + (t10 : Int).toNat * 1) = some (.int .i64 x1) ∧ T_impl_zigZag x1 H fun (r1 : Int) (H1 : AHeap) => (0 : Int) ≤ k ∧ R .normal [.slice list_a list_n list_e, .int .i64 k, undef, undef, .int .i64 0, .int .i64 (IntKind.wrap .i64 (sum + (IntKind.wrap .i64 ((IntKind.wrap .i64 ((Int.fdiv r1 (2 ^ (min (k : Int).toNat (IntKind.bits .i64)))) + 1)) + k)))), undef, .int .i64 x1, .slice list_a list_n list_e, .int .i64 (list_n : Int), .int .i64 (IntKind.wrap .i64 (t10 + 1)), .bool (decide ((t10 : Int) < (list_n : Int))), .pointer (some ⟨b1, f1 + (t10 : Int).toNat * 1, none⟩), .int .i64 x1, .int .i64 sum, .int .i64 x1, .int .i64 r1, .int .i64 k, .int .i64 (Int.fdiv r1 (2 ^ (min (k : Int).toNat (IntKind.bits .i64)))), .int .i64 (IntKind.wrap .i64 ((Int.fdiv r1 (2 ^ (min (k : Int).toNat (IntKind.bits .i64)))) + 1)), .int .i64 k, .int .i64 (IntKind.wrap .i64 ((IntKind.wrap .i64 ((Int.fdiv r1 (2 ^ (min (k : Int).toNat (IntKind.bits .i64)))) + 1)) + k)), .int .i64 (IntKind.wrap .i64 (sum + (IntKind.wrap .i64 ((IntKind.wrap .i64 ((Int.fdiv r1 (2 ^ (min (k : Int).toNat (IntKind.bits .i64)))) + 1)) + k)))), .int .i64 (IntKind.wrap .i64 (t10 + 1)), undef] H1) (R (.exit 0) [.slice list_a list_n list_e, .int .i64 k, undef, undef, .int .i64 0, .int .i64 sum, undef, g7, .slice list_a list_n list_e, .int .i64 (list_n : Int), .int .i64 t10, .bool (decide ((t10 : Int) < (list_n : Int))), g12, g13, g14, g15, g16, g17, g18, g19, g20, g21, g22, g23, undef] H)) := by kernel_rfl
def impl_riceLong_I1 (k : Int) (list_a : Option Addr) (list_e : Nat) (list_n : Nat) (Inv : Nat → Int → Int → AHeap → Prop) : Nat → List Value → AHeap → Prop := fun μ tm H => ∃ (sum : Int), ∃ (t10 : Int), ∃ g7 g11 g12 g13 g14 g15 g16 g17 g18 g19 g20 g21 g22 g23, tm = [.slice list_a list_n list_e, .int .i64 k, undef, undef, .int .i64 0, .int .i64 sum, undef, g7, .slice list_a list_n list_e, .int .i64 (list_n : Int), .int .i64 t10, g11, g12, g13, g14, g15, g16, g17, g18, g19, g20, g21, g22, g23, undef] ∧ Inv μ sum t10 H
theorem impl_riceLong_L1 (k : Int) (list_a : Option Addr) (list_e : Nat) (list_n : Nat) {Q : Post} (Inv : Nat → Int → Int → AHeap → Prop) (ν : Nat) (sum : Int) (t10 : Int) (g7 g11 g12 g13 g14 g15 g16 g17 g18 g19 g20 g21 g22 g23 : Value) (H : AHeap) (h0 : Inv ν sum t10 H)
    (hs : ∀ (μ : Nat) (sum : Int) (t10 : Int) (g7 g11 g12 g13 g14 g15 g16 g17 g18 g19 g20 g21 g22 g23 : Value) (H : AHeap), Inv μ sum t10 H → exK Try.prog E_impl_riceLong (cl (cl (cr (cl (cr (cr (bodyC Try.f67))))))) [.slice list_a list_n list_e, .int .i64 k, undef, undef, .int .i64 0, .int .i64 sum, undef, g7, .slice list_a list_n list_e, .int .i64 (list_n : Int), .int .i64 t10, g11, g12, g13, g14, g15, g16, g17, g18, g19, g20, g21, g22, g23, undef] H (loopQ (impl_riceLong_I1 k list_a list_e list_n Inv) μ Q)) : loopK (exK Try.prog E_impl_riceLong (cl (cl (cr (cl (cr (cr (bodyC Try.f67)))))))) [.slice list_a list_n list_e, .int .i64 k, undef, undef, .int .i64 0, .int .i64 sum, undef, g7, .slice list_a list_n list_e, .int .i64 (list_n : Int), .int .i64 t10, g11, g12, g13, g14, g15, g16, g17, g18, g19, g20, g21, g22, g23, undef] H Q :=
  ⟨impl_riceLong_I1 k list_a list_e list_n Inv, ν, ⟨sum, t10, g7, g11, g12, g13, g14, g15, g16, g17, g18, g19, g20, g21, g22, g23, rfl, h0⟩, fun μ tm H h => by obtain ⟨sum, t10, g7, g11, g12, g13, g14, g15, g16, g17, g18, g19, g20, g21, g22, g23, rfl, hI⟩ := h; exact hs μ sum t10 g7 g11 g12 g13 g14 g15 g16 g17 g18 g19 g20 g21 g22 g23 H hI⟩
theorem impl_riceLong_n1 {k : Int} {list_a : Option Addr} {list_e : Nat} {list_n : Nat} {Q : Post} {Inv : Nat → Int → Int → AHeap → Prop} {μ : Nat} (μ' : Nat) {sum : Int} {t10 : Int} {g7 g11 g12 g13 g14 g15 g16 g17 g18 g19 g20 g21 g22 g23 : Value} {H : AHeap} (hm : μ' < μ) (hI : Inv μ' sum t10 H) : loopQ (impl_riceLong_I1 k list_a list_e list_n Inv) μ Q .normal [.slice list_a list_n list_e, .int .i64 k, undef, undef, .int .i64 0, .int .i64 sum, undef, g7, .slice list_a list_n list_e, .int .i64 (list_n : Int), .int .i64 t10, g11, g12, g13, g14, g15, g16, g17, g18, g19, g20, g21, g22, g23, undef] H := ⟨μ', hm, sum, t10, g7, g11, g12, g13, g14, g15, g16, g17, g18, g19, g20, g21, g22, g23, rfl, hI⟩
theorem impl_riceLong_x1_0 (k : Int) (list_a : Option Addr) (list_e : Nat) (list_n : Nat) (sum : Int) (t10 : Int) (g7 g11 g12 g13 g14 g15 g16 g17 g18 g19 g20 g21 g22 g23 : Value) (H : AHeap) (K : Value → AHeap → Prop)  {I : Nat → List Value → AHeap → Prop} {μ : Nat} : loopQ I μ (blockQ 0 (seqQ (exK Try.prog E_impl_riceLong (cr (cr (cr (bodyC Try.f67))))) (retK Try.prog Try.f67 K))) (.exit 0) [.slice list_a list_n list_e, .int .i64 k, undef, undef, .int .i64 0, .int .i64 sum, undef, g7, .slice list_a list_n list_e, .int .i64 (list_n : Int), .int .i64 t10, g11, g12, g13, g14, g15, g16, g17, g18, g19, g20, g21, g22, g23, undef] H =
  (K (.int .i64 sum) H) := by kernel_rfl
theorem E_impl_riceLong_ok : ∀ g, FnOk Try.prog g (E_impl_riceLong g) := FnOk.envOf (by
  intro x hx
  simp only [List.mem_cons, List.not_mem_nil, or_false] at hx
  subst hx; exact impl_zigZag_ok)
set_option maxHeartbeats 1000000 in
theorem impl_riceLong_main (list_a : Option Addr) (list_n : Nat) (list_e : Nat) (k : Int) (H : AHeap) (K : Value → AHeap → Prop) (h : T_impl_riceLong list_a list_n list_e k H fun (r1 : Int) (H' : AHeap) => K (.int .i64 r1) H') : bodyK Try.prog E_impl_riceLong Try.f67 [.slice list_a list_n list_e, .int .i64 k] H K := by
  rw [impl_riceLong_vc]
  obtain ⟨l_list, i_list, bd_8, pr0, hk⟩ := h
  obtain rfl := i_list.eqn
  have e : (p_impl_riceLong l_list k) = _ := rfl
  have e := e.trans (p_impl_riceLong_eq l_list k)
  have g0 := Grow.refl H
  refine impl_riceLong_L1 _ _ _ _ (fun (μ : Nat) (sum : Int) (t10 : Int) (H_1 : AHeap) => H = H_1 ∧ (0 : Int) ≤ t10 ∧ t10 ≤ (l_list.length : Int) ∧ (l_list.length : Int) - t10 ≤ (μ : Int) ∧ p_impl_riceLong l_list k = p_impl_riceLong_l1 l_list k (μ + 1) sum t10) (Int.toNat ((l_list.length : Int) - (0 : Int))) _ _ _ _ _ _ _ _ _ _ _ _ _ _ _ _ H ?_ ?_
  · exact ⟨rfl, (by first | omega | (simp; done) | (simp; omega)), (by first | omega | (simp; done) | (simp; omega)), (by omega), e⟩
  · intro μ sum t10 g7 g11 g12 g13 g14 g15 g16 g17 g18 g19 g20 g21 g22 g23 H_1 hI
    obtain ⟨rfl, v_1, v_2, hμ, e⟩ := hI
    rw [impl_riceLong_r1]
    have e := e.trans (p_impl_riceLong_l1_s l_list k μ sum t10)
    have l_3 := g0.1
    refine Br.intro (fun c_4 => ?_) (fun c_4 => ?_)
    · have e := e.trans (cond_t c_4)
      have c_4' := of_decide_eq_true c_4
      obtain ⟨b_5, f_6, q_7⟩ := (i_list).pos (by omega)
      refine ⟨by omega, by omega, b_5, f_6, q_7, ?_⟩
      refine ⟨((l_list).getD (t10 : Int).toNat 0), (i_list).rd g0 q_7 (by omega) _, ?_⟩
      refine T_impl_zigZag_i ?_
      refine ⟨(by first | omega | decide | (simp; done) | (simp; omega)), ?_⟩
      rw [show IntKind.wrap .i64 (t10 + 1) = (t10 + 1) from wrap64 (by omega) (by omega)]
      refine impl_riceLong_n1 (μ - 1) (by omega) ⟨rfl, (by first | omega | (simp only [List.length_append, List.length_cons, List.length_nil, List.length_set]; done) | (simp only [List.length_append, List.length_cons, List.length_nil, List.length_set]; omega)), (by first | omega | (simp only [List.length_append, List.length_cons, List.length_nil, List.length_set]; done) | (simp only [List.length_append, List.length_cons, List.length_nil, List.length_set]; omega)), (by omega), (by rw [show μ - 1 + 1 = μ from by omega]; exact e)⟩
    · have e := e.trans (cond_f c_4)
      have c_4' := of_decide_eq_false c_4
      rw [impl_riceLong_x1_0]
      rw [e] at hk
      exact hk
theorem impl_riceLong_ok : FnOk Try.prog 67 S_impl_riceLong := by
  refine FnOk.body mix_ok E_impl_riceLong_ok Try.func67 rfl (by kernel_rfl) (by kernel_rfl) ?_ ?_ ?_ ?_
  · intro args H K K' h hk
    simp only [S_impl_riceLong] at *
    unfold F_impl_riceLong at *
    split at hk
    · obtain ⟨l_list, i_list, bd_8, pr0, k⟩ := hk
      exact ⟨l_list, i_list, bd_8, pr0, h _ _ k⟩
    · exact hk.elim
  · intro _ args H K hk
    simp only [S_impl_riceLong] at *
    unfold F_impl_riceLong at *
    split at hk
    · obtain ⟨l_list, i_list, bd_8, pr0, k⟩ := hk
      exact ⟨_, k, fun K' k' => ⟨l_list, i_list, bd_8, pr0, k'⟩⟩
    · exact hk.elim
  · intro args H K hk
    simp only [S_impl_riceLong] at *
    unfold F_impl_riceLong at *
    split at hk
    · obtain ⟨l_list, i_list, bd_8, pr0, k⟩ := hk
      exact ⟨_, _, k⟩
    · exact hk.elim
  · have mm := @impl_riceLong_main
    revert mm
    generalize bodyK Try.prog E_impl_riceLong Try.f67 = Q
    intro mm args H K hk
    simp only [S_impl_riceLong] at *
    unfold F_impl_riceLong at *
    split at hk
    · exact mm _ _ _ _ H K hk
    · exact hk.elim
def p_impl_BestRice_l1 (l_list : List Int) : Nat → Int → Int → Int × Int × Bool
  | 0, _, _ => (0, 0, false)
  | μ + 1, best, k => (bif decide ((k : Int) ≤ 20) then (bif decide (((p_impl_riceLong l_list k) : Int) < (p_impl_riceLong l_list best)) then (p_impl_BestRice_l1 l_list μ k (k + 1)) else (p_impl_BestRice_l1 l_list μ best (k + 1))) else (best, (p_impl_riceLong l_list best), true))
theorem p_impl_BestRice_l1_s (l_list : List Int) (μ : Nat) (best : Int) (k : Int) : p_impl_BestRice_l1 l_list (μ + 1) best k = (bif decide ((k : Int) ≤ 20) then (bif decide (((p_impl_riceLong l_list k) : Int) < (p_impl_riceLong l_list best)) then (p_impl_BestRice_l1 l_list μ k (k + 1)) else (p_impl_BestRice_l1 l_list μ best (k + 1))) else (best, (p_impl_riceLong l_list best), true)) := rfl
def p_impl_BestRice (l_list : List Int) : Int × Int × Bool := (bif !(p_impl_AreIntegers l_list) then ((0 : Int), (0 : Int), false) else (p_impl_BestRice_l1 l_list (Int.toNat (20 - (1 : Int) + 1) + 1) (0 : Int) (1 : Int)))
theorem p_impl_BestRice_eq (l_list : List Int) : p_impl_BestRice l_list = (bif !(p_impl_AreIntegers l_list) then ((0 : Int), (0 : Int), false) else (p_impl_BestRice_l1 l_list (Int.toNat (20 - (1 : Int) + 1) + 1) (0 : Int) (1 : Int))) := rfl
def T_impl_BestRice (list_a : Option Addr) (list_n : Nat) (list_e : Nat) (H : AHeap) (K : Int → Int → Bool → AHeap → Prop) : Prop := ∃ (l_list : List Int), IsL fI H list_a list_n l_list ∧ l_list.length < 1073741824 ∧ K ((p_impl_BestRice l_list).1) ((p_impl_BestRice l_list).2.1) ((p_impl_BestRice l_list).2.2) H
theorem T_impl_BestRice_i {list_a : Option Addr} {list_n : Nat} {list_e : Nat} {H : AHeap} {K : Int → Int → Bool → AHeap → Prop} (h : ∃ (l_list : List Int), IsL fI H list_a list_n l_list ∧ l_list.length < 1073741824 ∧ K ((p_impl_BestRice l_list).1) ((p_impl_BestRice l_list).2.1) ((p_impl_BestRice l_list).2.2) H) : T_impl_BestRice list_a list_n list_e H K := h

/-! impl_BestRice: function 39 -/
def E_impl_BestRice : Env := envOf [(66, S_impl_AreIntegers), (67, S_impl_riceLong)]
def F_impl_BestRice : List Value → AHeap → (Value → AHeap → Prop) → Prop
  | [.slice list_a list_n list_e], H, K => T_impl_BestRice list_a list_n list_e H fun (r1 : Int) (r2 : Int) (r3 : Bool) (H' : AHeap) => K (.tuple #[.int .i64 r1, .int .i64 r2, .bool r3]) H'
  | _, _, _ => False
def S_impl_BestRice : FSpec := ⟨F_impl_BestRice, true⟩
theorem impl_BestRice_vc (list_a : Option Addr) (list_n : Nat) (list_e : Nat) (H : AHeap) (K : Value → AHeap → Prop) : bodyK Try.prog E_impl_BestRice Try.f39 [.slice list_a list_n list_e] H K =
  (T_impl_AreIntegers list_a list_n list_e H fun (r1 : Bool) (H1 : AHeap) => Br (!r1) (K (.tuple #[.int .i64 0, .int .i64 0, .bool false]) H1) (loopK (exK Try.prog E_impl_BestRice (cl (cl (cr (cl (cr (cr (cr (bodyC Try.f39))))))))) [.slice list_a list_n list_e, undef, .int .i64 0, .int .i64 0, .bool false, .int .i64 0, .int .i64 1, .slice list_a list_n list_e, .bool r1, .bool (!r1), undef, undef, undef, undef, undef, undef, undef, undef, undef, undef, undef, undef, undef, undef, undef, undef] H1 (blockQ 0 (seqQ (exK Try.prog E_impl_BestRice (cr (cr (cr (cr (bodyC Try.f39)))))) (retK Try.prog Try.f39 K))))) := by kernel_rfl
theorem impl_BestRice_r1 (list_a : Option Addr) (list_e : Nat) (list_n : Nat) (r1 : Bool) (best : Int) (k : Int) (g10 g11 g12 g13 g14 g15 g16 g17 g18 g19 g20 g21 : Value) (H : AHeap) (R : Post) : exK Try.prog E_impl_BestRice (cl (cl (cr (cl (cr (cr (cr (bodyC Try.f39)))))))) [.slice list_a list_n list_e, undef, .int .i64 0, .int .i64 0, .bool false, .int .i64 best, .int .i64 k, .slice list_a list_n list_e, .bool r1, .bool (!r1), g10, g11, g12, g13, g14, g15, g16, g17, g18, g19, g20, g21, undef, undef, undef, undef] H R =
  (Br (decide ((k : Int) ≤ 20)) (T_impl_riceLong list_a list_n list_e k H fun (r2 : Int) (H2 : AHeap) => T_impl_riceLong list_a list_n list_e best H2 fun (r3 : Int) (H3 : AHeap) => Br (decide ((r2 : Int) < r3)) (R .normal [.slice list_a list_n list_e, undef, .int .i64 0, .int .i64 0, .bool false, .int .i64 k, .int .i64 (IntKind.wrap .i64 (k + 1)), .slice list_a list_n list_e, .bool r1, .bool (!r1), .int .i64 k, .bool (decide ((k : Int) ≤ 20)), .int .i64 k, .int .i64 (IntKind.wrap .i64 (k + 1)), .slice list_a list_n list_e, .int .i64 k, .int .i64 r2, .slice list_a list_n list_e, .int .i64 best, .int .i64 r3, .bool (decide ((r2 : Int) < r3)), .int .i64 k, undef, undef, undef, undef] H3) (R .normal [.slice list_a list_n list_e, undef, .int .i64 0, .int .i64 0, .bool false, .int .i64 best, .int .i64 (IntKind.wrap .i64 (k + 1)), .slice list_a list_n list_e, .bool r1, .bool (!r1), .int .i64 k, .bool (decide ((k : Int) ≤ 20)), .int .i64 k, .int .i64 (IntKind.wrap .i64 (k + 1)), .slice list_a list_n list_e, .int .i64 k, .int .i64 r2, .slice list_a list_n list_e, .int .i64 best, .int .i64 r3, .bool (decide ((r2 : Int) < r3)), g21, undef, undef, undef, undef] H3)) (R (.exit 0) [.slice list_a list_n list_e, undef, .int .i64 0, .int .i64 0, .bool false, .int .i64 best, .int .i64 k, .slice list_a list_n list_e, .bool r1, .bool (!r1), .int .i64 k, .bool (decide ((k : Int) ≤ 20)), g12, g13, g14, g15, g16, g17, g18, g19, g20, g21, undef, undef, undef, undef] H)) := by kernel_rfl
def impl_BestRice_I1 (list_a : Option Addr) (list_e : Nat) (list_n : Nat) (r1 : Bool) (Inv : Nat → Int → Int → AHeap → Prop) : Nat → List Value → AHeap → Prop := fun μ tm H => ∃ (best : Int), ∃ (k : Int), ∃ g10 g11 g12 g13 g14 g15 g16 g17 g18 g19 g20 g21, tm = [.slice list_a list_n list_e, undef, .int .i64 0, .int .i64 0, .bool false, .int .i64 best, .int .i64 k, .slice list_a list_n list_e, .bool r1, .bool (!r1), g10, g11, g12, g13, g14, g15, g16, g17, g18, g19, g20, g21, undef, undef, undef, undef] ∧ Inv μ best k H
theorem impl_BestRice_L1 (list_a : Option Addr) (list_e : Nat) (list_n : Nat) (r1 : Bool) {Q : Post} (Inv : Nat → Int → Int → AHeap → Prop) (ν : Nat) (best : Int) (k : Int) (g10 g11 g12 g13 g14 g15 g16 g17 g18 g19 g20 g21 : Value) (H : AHeap) (h0 : Inv ν best k H)
    (hs : ∀ (μ : Nat) (best : Int) (k : Int) (g10 g11 g12 g13 g14 g15 g16 g17 g18 g19 g20 g21 : Value) (H : AHeap), Inv μ best k H → exK Try.prog E_impl_BestRice (cl (cl (cr (cl (cr (cr (cr (bodyC Try.f39)))))))) [.slice list_a list_n list_e, undef, .int .i64 0, .int .i64 0, .bool false, .int .i64 best, .int .i64 k, .slice list_a list_n list_e, .bool r1, .bool (!r1), g10, g11, g12, g13, g14, g15, g16, g17, g18, g19, g20, g21, undef, undef, undef, undef] H (loopQ (impl_BestRice_I1 list_a list_e list_n r1 Inv) μ Q)) : loopK (exK Try.prog E_impl_BestRice (cl (cl (cr (cl (cr (cr (cr (bodyC Try.f39))))))))) [.slice list_a list_n list_e, undef, .int .i64 0, .int .i64 0, .bool false, .int .i64 best, .int .i64 k, .slice list_a list_n list_e, .bool r1, .bool (!r1), g10, g11, g12, g13, g14, g15, g16, g17, g18, g19, g20, g21, undef, undef, undef, undef] H Q :=
  ⟨impl_BestRice_I1 list_a list_e list_n r1 Inv, ν, ⟨best, k, g10, g11, g12, g13, g14, g15, g16, g17, g18, g19, g20, g21, rfl, h0⟩, fun μ tm H h => by obtain ⟨best, k, g10, g11, g12, g13, g14, g15, g16, g17, g18, g19, g20, g21, rfl, hI⟩ := h; exact hs μ best k g10 g11 g12 g13 g14 g15 g16 g17 g18 g19 g20 g21 H hI⟩
theorem impl_BestRice_n1 {list_a : Option Addr} {list_e : Nat} {list_n : Nat} {r1 : Bool} {Q : Post} {Inv : Nat → Int → Int → AHeap → Prop} {μ : Nat} (μ' : Nat) {best : Int} {k : Int} {g10 g11 g12 g13 g14 g15 g16 g17 g18 g19 g20 g21 : Value} {H : AHeap} (hm : μ' < μ) (hI : Inv μ' best k H) : loopQ (impl_BestRice_I1 list_a list_e list_n r1 Inv) μ Q .normal [.slice list_a list_n list_e, undef, .int .i64 0, .int .i64 0, .bool false, .int .i64 best, .int .i64 k, .slice list_a list_n list_e, .bool r1, .bool (!r1), g10, g11, g12, g13, g14, g15, g16, g17, g18, g19, g20, g21, undef, undef, undef, undef] H := ⟨μ', hm, best, k, g10, g11, g12, g13, g14, g15, g16, g17, g18, g19, g20, g21, rfl, hI⟩
theorem impl_BestRice_x1_0 (list_a : Option Addr) (list_e : Nat) (list_n : Nat) (r1 : Bool) (best : Int) (k : Int) (g10 g11 g12 g13 g14 g15 g16 g17 g18 g19 g20 g21 : Value) (H : AHeap) (K : Value → AHeap → Prop)  {I : Nat → List Value → AHeap → Prop} {μ : Nat} : loopQ I μ (blockQ 0 (seqQ (exK Try.prog E_impl_BestRice (cr (cr (cr (cr (bodyC Try.f39)))))) (retK Try.prog Try.f39 K))) (.exit 0) [.slice list_a list_n list_e, undef, .int .i64 0, .int .i64 0, .bool false, .int .i64 best, .int .i64 k, .slice list_a list_n list_e, .bool r1, .bool (!r1), g10, g11, g12, g13, g14, g15, g16, g17, g18, g19, g20, g21, undef, undef, undef, undef] H =
  (T_impl_riceLong list_a list_n list_e best H fun (r4 : Int) (H4 : AHeap) => K (.tuple #[.int .i64 best, .int .i64 r4, .bool true]) H4) := by kernel_rfl
theorem E_impl_BestRice_ok : ∀ g, FnOk Try.prog g (E_impl_BestRice g) := FnOk.envOf (by
  intro x hx
  simp only [List.mem_cons, List.not_mem_nil, or_false] at hx
  rcases hx with rfl | rfl
  · exact impl_AreIntegers_ok
  · exact impl_riceLong_ok)
set_option maxHeartbeats 1000000 in
theorem impl_BestRice_main (list_a : Option Addr) (list_n : Nat) (list_e : Nat) (H : AHeap) (K : Value → AHeap → Prop) (h : T_impl_BestRice list_a list_n list_e H fun (r1 : Int) (r2 : Int) (r3 : Bool) (H' : AHeap) => K (.tuple #[.int .i64 r1, .int .i64 r2, .bool r3]) H') : bodyK Try.prog E_impl_BestRice Try.f39 [.slice list_a list_n list_e] H K := by
  rw [impl_BestRice_vc]
  obtain ⟨l_list, i_list, bd_8, hk⟩ := h
  obtain rfl := i_list.eqn
  have e : (p_impl_BestRice l_list) = _ := rfl
  have e := e.trans (p_impl_BestRice_eq l_list)
  have g0 := Grow.refl H
  refine T_impl_AreIntegers_i ⟨_, (i_list.grow g0), (by first | omega | (simp only [List.length_set, List.length_replicate, List.length_append, List.length_cons, List.length_nil]; done) | (simp only [List.length_set, List.length_replicate, List.length_append, List.length_cons, List.length_nil]; omega)), ?_⟩
  refine Br.intro (fun c_1 => ?_) (fun c_1 => ?_)
  · have e := e.trans (cond_t c_1)
    have c_1n := nf_of_t c_1
    rw [e] at hk
    exact hk
  · have e := e.trans (cond_f c_1)
    have c_1n := nt_of_f c_1
    refine impl_BestRice_L1 _ _ _ _ (fun (μ : Nat) (best : Int) (k : Int) (H_1 : AHeap) => H = H_1 ∧ (1 : Int) ≤ k ∧ ((k ≤ 20 + 1 ∨ k ≤ (1 : Int))) ∧ 0 ≤ best ∧ 20 - k + 1 ≤ (μ : Int) ∧ p_impl_BestRice l_list = p_impl_BestRice_l1 l_list (μ + 1) best k) (Int.toNat (20 - (1 : Int) + 1)) _ _ _ _ _ _ _ _ _ _ _ _ _ _ H ?_ ?_
    · exact ⟨rfl, (by first | omega | (simp; done) | (simp; omega)), (by first | omega | (simp; done) | (simp; omega)), (by first | omega | (simp; done) | (simp; omega)), (by omega), e⟩
    · intro μ best k g10 g11 g12 g13 g14 g15 g16 g17 g18 g19 g20 g21 H_1 hI
      obtain ⟨rfl, v_2, v_3, v_4, hμ, e⟩ := hI
      rw [impl_BestRice_r1]
      have e := e.trans (p_impl_BestRice_l1_s l_list μ best k)
      have l_5 := g0.1
      refine Br.intro (fun c_6 => ?_) (fun c_6 => ?_)
      · have e := e.trans (cond_t c_6)
        have c_6' := of_decide_eq_true c_6
        refine T_impl_riceLong_i ⟨_, (i_list.grow g0), (by first | omega | (simp only [List.length_set, List.length_replicate, List.length_append, List.length_cons, List.length_nil]; done) | (simp only [List.length_set, List.length_replicate, List.length_append, List.length_cons, List.length_nil]; omega)), (by first | assumption | omega | (simp; omega)), ?_⟩
        refine T_impl_riceLong_i ⟨_, (i_list.grow g0), (by first | omega | (simp only [List.length_set, List.length_replicate, List.length_append, List.length_cons, List.length_nil]; done) | (simp only [List.length_set, List.length_replicate, List.length_append, List.length_cons, List.length_nil]; omega)), (by first | assumption | omega | (simp; omega)), ?_⟩
        refine Br.intro (fun c_7 => ?_) (fun c_7 => ?_)
        · have e := e.trans (cond_t c_7)
          have c_7' := of_decide_eq_true c_7
          rw [show IntKind.wrap .i64 (k + 1) = (k + 1) from wrap64 (by omega) (by omega)]
          refine impl_BestRice_n1 (μ - 1) (by omega) ⟨rfl, (by first | omega | (simp only [List.length_append, List.length_cons, List.length_nil, List.length_set]; done) | (simp only [List.length_append, List.length_cons, List.length_nil, List.length_set]; omega)), (by first | omega | (simp only [List.length_append, List.length_cons, List.length_nil, List.length_set]; done) | (simp only [List.length_append, List.length_cons, List.length_nil, List.length_set]; omega)), (by first | omega | (simp only [List.length_append, List.length_cons, List.length_nil, List.length_set]; done) | (simp only [List.length_append, List.length_cons, List.length_nil, List.length_set]; omega)), (by omega), (by rw [show μ - 1 + 1 = μ from by omega]; exact e)⟩
        · have e := e.trans (cond_f c_7)
          have c_7' := of_decide_eq_false c_7
          rw [show IntKind.wrap .i64 (k + 1) = (k + 1) from wrap64 (by omega) (by omega)]
          refine impl_BestRice_n1 (μ - 1) (by omega) ⟨rfl, (by first | omega | (simp only [List.length_append, List.length_cons, List.length_nil, List.length_set]; done) | (simp only [List.length_append, List.length_cons, List.length_nil, List.length_set]; omega)), (by first | omega | (simp only [List.length_append, List.length_cons, List.length_nil, List.length_set]; done) | (simp only [List.length_append, List.length_cons, List.length_nil, List.length_set]; omega)), (by first | omega | (simp only [List.length_append, List.length_cons, List.length_nil, List.length_set]; done) | (simp only [List.length_append, List.length_cons, List.length_nil, List.length_set]; omega)), (by omega), (by rw [show μ - 1 + 1 = μ from by omega]; exact e)⟩
      · have e := e.trans (cond_f c_6)
        have c_6' := of_decide_eq_false c_6
        rw [impl_BestRice_x1_0]
        refine T_impl_riceLong_i ⟨_, (i_list.grow g0), (by first | omega | (simp only [List.length_set, List.length_replicate, List.length_append, List.length_cons, List.length_nil]; done) | (simp only [List.length_set, List.length_replicate, List.length_append, List.length_cons, List.length_nil]; omega)), (by first | assumption | omega | (simp; omega)), ?_⟩
        rw [e] at hk
        exact hk
theorem impl_BestRice_ok : FnOk Try.prog 39 S_impl_BestRice := by
  refine FnOk.body mix_ok E_impl_BestRice_ok Try.func39 rfl (by kernel_rfl) (by kernel_rfl) ?_ ?_ ?_ ?_
  · intro args H K K' h hk
    simp only [S_impl_BestRice] at *
    unfold F_impl_BestRice at *
    split at hk
    · obtain ⟨l_list, i_list, bd_8, k⟩ := hk
      exact ⟨l_list, i_list, bd_8, h _ _ k⟩
    · exact hk.elim
  · intro _ args H K hk
    simp only [S_impl_BestRice] at *
    unfold F_impl_BestRice at *
    split at hk
    · obtain ⟨l_list, i_list, bd_8, k⟩ := hk
      exact ⟨_, k, fun K' k' => ⟨l_list, i_list, bd_8, k'⟩⟩
    · exact hk.elim
  · intro args H K hk
    simp only [S_impl_BestRice] at *
    unfold F_impl_BestRice at *
    split at hk
    · obtain ⟨l_list, i_list, bd_8, k⟩ := hk
      exact ⟨_, _, k⟩
    · exact hk.elim
  · have mm := @impl_BestRice_main
    revert mm
    generalize bodyK Try.prog E_impl_BestRice Try.f39 = Q
    intro mm args H K hk
    simp only [S_impl_BestRice] at *
    unfold F_impl_BestRice at *
    split at hk
    · exact mm _ _ _ H K hk
    · exact hk.elim
def p_laws_eqInt64S_l1 (l_a : List Int) (l_b : List Int) : Nat → Bool → Int → Bool
  | 0, _, _ => false
  | μ + 1, t4, i => (bif decide ((i : Int) < (l_a.length : Int)) then (bif (((l_a).getD (i : Int).toNat 0) : Int) != ((l_b).getD (i : Int).toNat 0) then false else (p_laws_eqInt64S_l1 l_a l_b μ t4 (i + 1))) else true)
theorem p_laws_eqInt64S_l1_s (l_a : List Int) (l_b : List Int) (μ : Nat) (t4 : Bool) (i : Int) : p_laws_eqInt64S_l1 l_a l_b (μ + 1) t4 i = (bif decide ((i : Int) < (l_a.length : Int)) then (bif (((l_a).getD (i : Int).toNat 0) : Int) != ((l_b).getD (i : Int).toNat 0) then false else (p_laws_eqInt64S_l1 l_a l_b μ t4 (i + 1))) else true) := rfl
def p_laws_eqInt64S (l_a : List Int) (l_b : List Int) : Bool := (bif ((l_a.length : Int) : Int) != (l_b.length : Int) then false else (p_laws_eqInt64S_l1 l_a l_b (Int.toNat ((l_a.length : Int) - (0 : Int)) + 1) false (0 : Int)))
theorem p_laws_eqInt64S_eq (l_a : List Int) (l_b : List Int) : p_laws_eqInt64S l_a l_b = (bif ((l_a.length : Int) : Int) != (l_b.length : Int) then false else (p_laws_eqInt64S_l1 l_a l_b (Int.toNat ((l_a.length : Int) - (0 : Int)) + 1) false (0 : Int))) := rfl
def T_laws_eqInt64S (a_a : Option Addr) (a_n : Nat) (a_e : Nat) (b_a : Option Addr) (b_n : Nat) (b_e : Nat) (H : AHeap) (K : Bool → AHeap → Prop) : Prop := ∃ (l_a : List Int), ∃ (l_b : List Int), IsL fI H a_a a_n l_a ∧ IsL fI H b_a b_n l_b ∧ l_a.length < 1073741824 ∧ l_b.length < 1073741824 ∧ K (p_laws_eqInt64S l_a l_b) H
theorem T_laws_eqInt64S_i {a_a : Option Addr} {a_n : Nat} {a_e : Nat} {b_a : Option Addr} {b_n : Nat} {b_e : Nat} {H : AHeap} {K : Bool → AHeap → Prop} (h : ∃ (l_a : List Int), ∃ (l_b : List Int), IsL fI H a_a a_n l_a ∧ IsL fI H b_a b_n l_b ∧ l_a.length < 1073741824 ∧ l_b.length < 1073741824 ∧ K (p_laws_eqInt64S l_a l_b) H) : T_laws_eqInt64S a_a a_n a_e b_a b_n b_e H K := h
theorem laws_eqInt64S_go (l : List Int) : ∀ (μ : Nat) (t : Bool) (i : Nat), l.length - i < μ → p_laws_eqInt64S_l1 l l μ t (i : Int) = true := by
  intro μ
  induction μ with
  | zero => intro t i h; omega
  | succ μ ih =>
    intro t i hm
    rw [p_laws_eqInt64S_l1_s]
    by_cases h : i < l.length
    · rw [decide_eq_true (show (i : Int) < (l.length : Int) by omega), cond_true]
      simp only [bne_self_eq_false, cond_false]
      exact ih t (i + 1) (by omega)
    · rw [decide_eq_false (show ¬ (i : Int) < (l.length : Int) by omega), cond_false]
theorem laws_eqInt64S_self (l : List Int) : p_laws_eqInt64S l l = true := by
  rw [p_laws_eqInt64S_eq]
  have h0 : ((l.length : Int) != (l.length : Int)) = false := by simp
  rw [h0, cond_false]
  exact laws_eqInt64S_go l _ false 0 (by omega)
/-! laws_eqInt64S: function 35 -/
def E_laws_eqInt64S : Env := envOf []
def F_laws_eqInt64S : List Value → AHeap → (Value → AHeap → Prop) → Prop
  | [.slice a_a a_n a_e, .slice b_a b_n b_e], H, K => T_laws_eqInt64S a_a a_n a_e b_a b_n b_e H fun (r1 : Bool) (H' : AHeap) => K (.bool r1) H'
  | _, _, _ => False
def S_laws_eqInt64S : FSpec := ⟨F_laws_eqInt64S, true⟩
theorem laws_eqInt64S_vc (a_a : Option Addr) (a_n : Nat) (a_e : Nat) (b_a : Option Addr) (b_n : Nat) (b_e : Nat) (H : AHeap) (K : Value → AHeap → Prop) : bodyK Try.prog E_laws_eqInt64S Try.f35 [.slice a_a a_n a_e, .slice b_a b_n b_e] H K =
  (Br (((a_n : Int) : Int) != (b_n : Int)) (K (.bool false) H) (loopK (exK Try.prog E_laws_eqInt64S (cl (cl (cr (cl (cr (cr (bodyC Try.f35)))))))) [.slice a_a a_n a_e, .slice b_a b_n b_e, undef, undef, .bool false, .int .i64 0, .slice a_a a_n a_e, .int .i64 (a_n : Int), .slice b_a b_n b_e, .int .i64 (b_n : Int), .bool (((a_n : Int) : Int) != (b_n : Int)), undef, undef, undef, undef, undef, undef, undef, undef, undef, undef, undef, undef, undef, undef, undef] H (blockQ 0 (seqQ (exK Try.prog E_laws_eqInt64S (cr (cr (cr (bodyC Try.f35))))) (retK Try.prog Try.f35 K))))) := by kernel_rfl
theorem laws_eqInt64S_r1 (a_a : Option Addr) (a_e : Nat) (a_n : Nat) (b_a : Option Addr) (b_e : Nat) (b_n : Nat) (t4 : Bool) (i : Int) (g11 g12 g13 g14 g15 g16 g17 g18 g19 g20 g21 g22 g23 g24 g25 : Value) (H : AHeap) (R : Post) : exK Try.prog E_laws_eqInt64S (cl (cl (cr (cl (cr (cr (bodyC Try.f35))))))) [.slice a_a a_n a_e, .slice b_a b_n b_e, undef, undef, .bool t4, .int .i64 i, .slice a_a a_n a_e, .int .i64 (a_n : Int), .slice b_a b_n b_e, .int .i64 (b_n : Int), .bool (((a_n : Int) : Int) != (b_n : Int)), g11, g12, g13, g14, g15, g16, g17, g18, g19, g20, g21, g22, g23, g24, g25] H R =
  (Br (decide ((i : Int) < (a_n : Int))) ((0 : Int) ≤ i ∧ i < (a_n : Int) ∧ ∃ b1 f1, (a_a : Option Addr) = some ⟨b1, f1, none⟩ ∧ ∃ x1 : Int,  rdC H b1 (f1 + (i : Int).toNat * 1) = some (.int .i64 x1) ∧ (0 : Int) ≤ i ∧ i < (b_n : Int) ∧ ∃ b2 f2, (b_a : Option Addr) = some ⟨b2, f2, none⟩ ∧ ∃ x2 : Int,  rdC H b2 (f2 + (i : Int).toNat * 1) = some (.int .i64 x2) ∧ Br ((x1 : Int) != x2) (R .ret [.slice a_a a_n a_e, .slice b_a b_n b_e, undef, undef, .bool false, .int .i64 i, .slice a_a a_n a_e, .int .i64 (a_n : Int), .slice b_a b_n b_e, .int .i64 (b_n : Int), .bool (((a_n : Int) : Int) != (b_n : Int)), .int .i64 i, .slice a_a a_n a_e, .int .i64 (a_n : Int), .bool (decide ((i : Int) < (a_n : Int))), g15, g16, .slice a_a a_n a_e, .int .i64 i, .pointer (some ⟨b1, f1 + (i : Int).toNat * 1, none⟩), .int .i64 x1, .slice b_a b_n b_e, .int .i64 i, .pointer (some ⟨b2, f2 + (i : Int).toNat * 1, none⟩), .int .i64 x2, .bool ((x1 : Int) != x2)] H) (R .normal [.slice a_a a_n a_e, .slice b_a b_n b_e, undef, undef, .bool t4, .int .i64 (IntKind.wrap .i64 (i + 1)), .slice a_a a_n a_e, .int .i64 (a_n : Int), .slice b_a b_n b_e, .int .i64 (b_n : Int), .bool (((a_n : Int) : Int) != (b_n : Int)), .int .i64 i, .slice a_a a_n a_e, .int .i64 (a_n : Int), .bool (decide ((i : Int) < (a_n : Int))), .int .i64 i, .int .i64 (IntKind.wrap .i64 (i + 1)), .slice a_a a_n a_e, .int .i64 i, .pointer (some ⟨b1, f1 + (i : Int).toNat * 1, none⟩), .int .i64 x1, .slice b_a b_n b_e, .int .i64 i, .pointer (some ⟨b2, f2 + (i : Int).toNat * 1, none⟩), .int .i64 x2, .bool ((x1 : Int) != x2)] H)) (R (.exit 0) [.slice a_a a_n a_e, .slice b_a b_n b_e, undef, undef, .bool t4, .int .i64 i, .slice a_a a_n a_e, .int .i64 (a_n : Int), .slice b_a b_n b_e, .int .i64 (b_n : Int), .bool (((a_n : Int) : Int) != (b_n : Int)), .int .i64 i, .slice a_a a_n a_e, .int .i64 (a_n : Int), .bool (decide ((i : Int) < (a_n : Int))), g15, g16, g17, g18, g19, g20, g21, g22, g23, g24, g25] H)) := by kernel_rfl
def laws_eqInt64S_I1 (a_a : Option Addr) (a_e : Nat) (a_n : Nat) (b_a : Option Addr) (b_e : Nat) (b_n : Nat) (Inv : Nat → Bool → Int → AHeap → Prop) : Nat → List Value → AHeap → Prop := fun μ tm H => ∃ (t4 : Bool), ∃ (i : Int), ∃ g11 g12 g13 g14 g15 g16 g17 g18 g19 g20 g21 g22 g23 g24 g25, tm = [.slice a_a a_n a_e, .slice b_a b_n b_e, undef, undef, .bool t4, .int .i64 i, .slice a_a a_n a_e, .int .i64 (a_n : Int), .slice b_a b_n b_e, .int .i64 (b_n : Int), .bool (((a_n : Int) : Int) != (b_n : Int)), g11, g12, g13, g14, g15, g16, g17, g18, g19, g20, g21, g22, g23, g24, g25] ∧ Inv μ t4 i H
theorem laws_eqInt64S_L1 (a_a : Option Addr) (a_e : Nat) (a_n : Nat) (b_a : Option Addr) (b_e : Nat) (b_n : Nat) {Q : Post} (Inv : Nat → Bool → Int → AHeap → Prop) (ν : Nat) (t4 : Bool) (i : Int) (g11 g12 g13 g14 g15 g16 g17 g18 g19 g20 g21 g22 g23 g24 g25 : Value) (H : AHeap) (h0 : Inv ν t4 i H)
    (hs : ∀ (μ : Nat) (t4 : Bool) (i : Int) (g11 g12 g13 g14 g15 g16 g17 g18 g19 g20 g21 g22 g23 g24 g25 : Value) (H : AHeap), Inv μ t4 i H → exK Try.prog E_laws_eqInt64S (cl (cl (cr (cl (cr (cr (bodyC Try.f35))))))) [.slice a_a a_n a_e, .slice b_a b_n b_e, undef, undef, .bool t4, .int .i64 i, .slice a_a a_n a_e, .int .i64 (a_n : Int), .slice b_a b_n b_e, .int .i64 (b_n : Int), .bool (((a_n : Int) : Int) != (b_n : Int)), g11, g12, g13, g14, g15, g16, g17, g18, g19, g20, g21, g22, g23, g24, g25] H (loopQ (laws_eqInt64S_I1 a_a a_e a_n b_a b_e b_n Inv) μ Q)) : loopK (exK Try.prog E_laws_eqInt64S (cl (cl (cr (cl (cr (cr (bodyC Try.f35)))))))) [.slice a_a a_n a_e, .slice b_a b_n b_e, undef, undef, .bool t4, .int .i64 i, .slice a_a a_n a_e, .int .i64 (a_n : Int), .slice b_a b_n b_e, .int .i64 (b_n : Int), .bool (((a_n : Int) : Int) != (b_n : Int)), g11, g12, g13, g14, g15, g16, g17, g18, g19, g20, g21, g22, g23, g24, g25] H Q :=
  ⟨laws_eqInt64S_I1 a_a a_e a_n b_a b_e b_n Inv, ν, ⟨t4, i, g11, g12, g13, g14, g15, g16, g17, g18, g19, g20, g21, g22, g23, g24, g25, rfl, h0⟩, fun μ tm H h => by obtain ⟨t4, i, g11, g12, g13, g14, g15, g16, g17, g18, g19, g20, g21, g22, g23, g24, g25, rfl, hI⟩ := h; exact hs μ t4 i g11 g12 g13 g14 g15 g16 g17 g18 g19 g20 g21 g22 g23 g24 g25 H hI⟩
theorem laws_eqInt64S_n1 {a_a : Option Addr} {a_e : Nat} {a_n : Nat} {b_a : Option Addr} {b_e : Nat} {b_n : Nat} {Q : Post} {Inv : Nat → Bool → Int → AHeap → Prop} {μ : Nat} (μ' : Nat) {t4 : Bool} {i : Int} {g11 g12 g13 g14 g15 g16 g17 g18 g19 g20 g21 g22 g23 g24 g25 : Value} {H : AHeap} (hm : μ' < μ) (hI : Inv μ' t4 i H) : loopQ (laws_eqInt64S_I1 a_a a_e a_n b_a b_e b_n Inv) μ Q .normal [.slice a_a a_n a_e, .slice b_a b_n b_e, undef, undef, .bool t4, .int .i64 i, .slice a_a a_n a_e, .int .i64 (a_n : Int), .slice b_a b_n b_e, .int .i64 (b_n : Int), .bool (((a_n : Int) : Int) != (b_n : Int)), g11, g12, g13, g14, g15, g16, g17, g18, g19, g20, g21, g22, g23, g24, g25] H := ⟨μ', hm, t4, i, g11, g12, g13, g14, g15, g16, g17, g18, g19, g20, g21, g22, g23, g24, g25, rfl, hI⟩
theorem laws_eqInt64S_x1_0 (a_a : Option Addr) (a_e : Nat) (a_n : Nat) (b_a : Option Addr) (b_e : Nat) (b_n : Nat) (t4 : Bool) (i : Int) (g11 g12 g13 g14 g15 g16 g17 g18 g19 g20 g21 g22 g23 g24 g25 : Value) (H : AHeap) (K : Value → AHeap → Prop)  {I : Nat → List Value → AHeap → Prop} {μ : Nat} : loopQ I μ (blockQ 0 (seqQ (exK Try.prog E_laws_eqInt64S (cr (cr (cr (bodyC Try.f35))))) (retK Try.prog Try.f35 K))) (.exit 0) [.slice a_a a_n a_e, .slice b_a b_n b_e, undef, undef, .bool t4, .int .i64 i, .slice a_a a_n a_e, .int .i64 (a_n : Int), .slice b_a b_n b_e, .int .i64 (b_n : Int), .bool (((a_n : Int) : Int) != (b_n : Int)), g11, g12, g13, g14, g15, g16, g17, g18, g19, g20, g21, g22, g23, g24, g25] H =
  (K (.bool true) H) := by kernel_rfl
theorem laws_eqInt64S_x1_ret (a_a : Option Addr) (a_e : Nat) (a_n : Nat) (b_a : Option Addr) (b_e : Nat) (b_n : Nat) (t4 : Bool) (i : Int) (g11 g12 g13 g14 g15 g16 g17 g18 g19 g20 g21 g22 g23 g24 g25 : Value) (H : AHeap) (K : Value → AHeap → Prop)  {I : Nat → List Value → AHeap → Prop} {μ : Nat} : loopQ I μ (blockQ 0 (seqQ (exK Try.prog E_laws_eqInt64S (cr (cr (cr (bodyC Try.f35))))) (retK Try.prog Try.f35 K))) .ret [.slice a_a a_n a_e, .slice b_a b_n b_e, undef, undef, .bool t4, .int .i64 i, .slice a_a a_n a_e, .int .i64 (a_n : Int), .slice b_a b_n b_e, .int .i64 (b_n : Int), .bool (((a_n : Int) : Int) != (b_n : Int)), g11, g12, g13, g14, g15, g16, g17, g18, g19, g20, g21, g22, g23, g24, g25] H =
  (K (.bool t4) H) := by kernel_rfl
theorem E_laws_eqInt64S_ok : ∀ g, FnOk Try.prog g (E_laws_eqInt64S g) := FnOk.envOf (by
  intro x hx; cases hx)
set_option maxHeartbeats 1000000 in
theorem laws_eqInt64S_main (a_a : Option Addr) (a_n : Nat) (a_e : Nat) (b_a : Option Addr) (b_n : Nat) (b_e : Nat) (H : AHeap) (K : Value → AHeap → Prop) (h : T_laws_eqInt64S a_a a_n a_e b_a b_n b_e H fun (r1 : Bool) (H' : AHeap) => K (.bool r1) H') : bodyK Try.prog E_laws_eqInt64S Try.f35 [.slice a_a a_n a_e, .slice b_a b_n b_e] H K := by
  rw [laws_eqInt64S_vc]
  obtain ⟨l_a, l_b, i_a, i_b, bd_13, bd_14, hk⟩ := h
  obtain rfl := i_a.eqn
  obtain rfl := i_b.eqn
  have e : (p_laws_eqInt64S l_a l_b) = _ := rfl
  have e := e.trans (p_laws_eqInt64S_eq l_a l_b)
  have g0 := Grow.refl H
  refine Br.intro (fun c_1 => ?_) (fun c_1 => ?_)
  · have e := e.trans (cond_t c_1)
    have c_1' := ine_t c_1
    rw [e] at hk
    exact hk
  · have e := e.trans (cond_f c_1)
    have c_1' := ine_f c_1
    refine laws_eqInt64S_L1 _ _ _ _ _ _ (fun (μ : Nat) (t4 : Bool) (i : Int) (H_1 : AHeap) => H = H_1 ∧ (0 : Int) ≤ i ∧ i ≤ (l_a.length : Int) ∧ (l_a.length : Int) - i ≤ (μ : Int) ∧ p_laws_eqInt64S l_a l_b = p_laws_eqInt64S_l1 l_a l_b (μ + 1) t4 i) (Int.toNat ((l_a.length : Int) - (0 : Int))) _ _ _ _ _ _ _ _ _ _ _ _ _ _ _ _ _ H ?_ ?_
    · exact ⟨rfl, (by first | omega | (simp; done) | (simp; omega)), (by first | omega | (simp; done) | (simp; omega)), (by omega), e⟩
    · intro μ t4 i g11 g12 g13 g14 g15 g16 g17 g18 g19 g20 g21 g22 g23 g24 g25 H_1 hI
      obtain ⟨rfl, v_2, v_3, hμ, e⟩ := hI
      rw [laws_eqInt64S_r1]
      have e := e.trans (p_laws_eqInt64S_l1_s l_a l_b μ t4 i)
      have l_4 := g0.1
      refine Br.intro (fun c_5 => ?_) (fun c_5 => ?_)
      · have e := e.trans (cond_t c_5)
        have c_5' := of_decide_eq_true c_5
        obtain ⟨b_6, f_7, q_8⟩ := (i_a).pos (by omega)
        refine ⟨by omega, by omega, b_6, f_7, q_8, ?_⟩
        refine ⟨((l_a).getD (i : Int).toNat 0), (i_a).rd g0 q_8 (by omega) _, ?_⟩
        obtain ⟨b_9, f_10, q_11⟩ := (i_b).pos (by omega)
        refine ⟨by omega, by omega, b_9, f_10, q_11, ?_⟩
        refine ⟨((l_b).getD (i : Int).toNat 0), (i_b).rd g0 q_11 (by omega) _, ?_⟩
        refine Br.intro (fun c_12 => ?_) (fun c_12 => ?_)
        · have e := e.trans (cond_t c_12)
          have c_12' := ine_t c_12
          rw [laws_eqInt64S_x1_ret]
          rw [e] at hk
          exact hk
        · have e := e.trans (cond_f c_12)
          have c_12' := ine_f c_12
          rw [show IntKind.wrap .i64 (i + 1) = (i + 1) from wrap64 (by omega) (by omega)]
          refine laws_eqInt64S_n1 (μ - 1) (by omega) ⟨rfl, (by first | omega | (simp only [List.length_append, List.length_cons, List.length_nil, List.length_set]; done) | (simp only [List.length_append, List.length_cons, List.length_nil, List.length_set]; omega)), (by first | omega | (simp only [List.length_append, List.length_cons, List.length_nil, List.length_set]; done) | (simp only [List.length_append, List.length_cons, List.length_nil, List.length_set]; omega)), (by omega), (by rw [show μ - 1 + 1 = μ from by omega]; exact e)⟩
      · have e := e.trans (cond_f c_5)
        have c_5' := of_decide_eq_false c_5
        rw [laws_eqInt64S_x1_0]
        rw [e] at hk
        exact hk
theorem laws_eqInt64S_ok : FnOk Try.prog 35 S_laws_eqInt64S := by
  refine FnOk.body mix_ok E_laws_eqInt64S_ok Try.func35 rfl (by kernel_rfl) (by kernel_rfl) ?_ ?_ ?_ ?_
  · intro args H K K' h hk
    simp only [S_laws_eqInt64S] at *
    unfold F_laws_eqInt64S at *
    split at hk
    · obtain ⟨l_a, l_b, i_a, i_b, bd_13, bd_14, k⟩ := hk
      exact ⟨l_a, l_b, i_a, i_b, bd_13, bd_14, h _ _ k⟩
    · exact hk.elim
  · intro _ args H K hk
    simp only [S_laws_eqInt64S] at *
    unfold F_laws_eqInt64S at *
    split at hk
    · obtain ⟨l_a, l_b, i_a, i_b, bd_13, bd_14, k⟩ := hk
      exact ⟨_, k, fun K' k' => ⟨l_a, l_b, i_a, i_b, bd_13, bd_14, k'⟩⟩
    · exact hk.elim
  · intro args H K hk
    simp only [S_laws_eqInt64S] at *
    unfold F_laws_eqInt64S at *
    split at hk
    · obtain ⟨l_a, l_b, i_a, i_b, bd_13, bd_14, k⟩ := hk
      exact ⟨_, _, k⟩
    · exact hk.elim
  · have mm := @laws_eqInt64S_main
    revert mm
    generalize bodyK Try.prog E_laws_eqInt64S Try.f35 = Q
    intro mm args H K hk
    simp only [S_laws_eqInt64S] at *
    unfold F_laws_eqInt64S at *
    split at hk
    · exact mm _ _ _ _ _ _ H K hk
    · exact hk.elim
def p_laws_FnExactBestRice (l_aList : List Int) : Bool := (bif decide ((1048576 : Int) < (l_aList.length : Int)) then true else (bif ((p_impl_BestRice l_aList).1 : Int) != (p_spec_BestRice l_aList).1 then false else (bif ((p_impl_BestRice l_aList).2.1 : Int) != (p_spec_BestRice l_aList).2.1 then false else (bif !(((p_impl_BestRice l_aList).2.2) == ((p_spec_BestRice l_aList).2.2)) then false else (bif !(p_laws_eqInt64S l_aList l_aList) then false else true)))))
theorem p_laws_FnExactBestRice_eq (l_aList : List Int) : p_laws_FnExactBestRice l_aList = (bif decide ((1048576 : Int) < (l_aList.length : Int)) then true else (bif ((p_impl_BestRice l_aList).1 : Int) != (p_spec_BestRice l_aList).1 then false else (bif ((p_impl_BestRice l_aList).2.1 : Int) != (p_spec_BestRice l_aList).2.1 then false else (bif !(((p_impl_BestRice l_aList).2.2) == ((p_spec_BestRice l_aList).2.2)) then false else (bif !(p_laws_eqInt64S l_aList l_aList) then false else true))))) := rfl
def T_laws_FnExactBestRice (aList_a : Option Addr) (aList_n : Nat) (aList_e : Nat) (H : AHeap) (K : Bool → AHeap → Prop) : Prop := ∃ l_aList : List Int, IsL fI H aList_a aList_n l_aList ∧ (∀ y ∈ l_aList, I64 y) ∧ ∀ H' : AHeap, K true H'
theorem within_go (l : List Int) (m : Int) : ∀ (μ : Nat) (t : Bool) (i : Int), p_impl_areWithin_l1 l m μ t i = p_spec_l02Bound_l1 l m μ t i := by
  intro μ
  induction μ with
  | zero => intro t i; rfl
  | succ μ ih => intro t i; rw [p_impl_areWithin_l1_s, p_spec_l02Bound_l1_s, ih]; rfl
theorem integers_same (l : List Int) : p_impl_AreIntegers l = p_spec_l02Integers l := by
  rw [p_impl_AreIntegers_eq, p_spec_l02Integers_eq, p_impl_areWithin_eq, p_spec_l02Bound_eq, within_go]
  unfold p_impl_within
  cases decide ((1 : Int) ≤ (l.length : Int)) <;> cases decide (((l.length : Int) : Int) ≤ 128) <;> rfl
theorem zig_eq (n : Int) : p_impl_zigZag n = p_spec_l06Zig n := by
  unfold p_spec_l06Zig p_impl_zigZag
  by_cases h : n < 0
  · rw [decide_eq_true h, decide_eq_false (show ¬ 0 ≤ n by omega)]; rfl
  · rw [decide_eq_false h, decide_eq_true (show 0 ≤ n by omega)]; rfl
theorem rice_go (l : List Int) (k : Int) (h0 : 0 ≤ k) (h1 : k < 18446744073709551616) : ∀ (μ : Nat) (s i : Int), p_impl_riceLong_l1 l k μ s i = p_spec_l06RiceLong_l1 l k μ s i := by
  intro μ
  induction μ with
  | zero => intro s i; rfl
  | succ μ ih => intro s i; rw [p_impl_riceLong_l1_s, p_spec_l06RiceLong_l1_s, ih, wrapu_id h0 h1, zig_eq]
theorem rice_same (l : List Int) (k : Int) (h0 : 0 ≤ k) (h1 : k < 18446744073709551616) : p_impl_riceLong l k = p_spec_l06RiceLong l k := by
  rw [p_impl_riceLong_eq, p_spec_l06RiceLong_eq, rice_go l k h0 h1]
theorem bestRice_go (l : List Int) : ∀ (μ : Nat) (b k : Int), 0 ≤ b → b ≤ 20 → 0 ≤ k → p_spec_BestRice_l1 l μ b (p_spec_l06RiceLong l b) k = p_impl_BestRice_l1 l μ b k := by
  intro μ
  induction μ with
  | zero => intro b k _ _ _; rfl
  | succ μ ih =>
    intro b k hb hb2 hk
    rw [p_spec_BestRice_l1_s, p_impl_BestRice_l1_s, rice_same l b hb (by omega)]
    by_cases h : k ≤ 20
    · rw [decide_eq_true h, cond_true, cond_true, rice_same l k hk (by omega), ih k (k + 1) hk h (by omega), ih b (k + 1) hb hb2 (by omega)]
    · rw [decide_eq_false h, cond_false, cond_false]
theorem bestRice_same (l : List Int) : p_impl_BestRice l = p_spec_BestRice l := by
  rw [p_impl_BestRice_eq, p_spec_BestRice_eq, integers_same, bestRice_go l _ 0 1 (by omega) (by omega) (by omega)]
theorem laws_FnExactBestRice_true (l : List Int) (hl : ∀ y ∈ l, I64 y) : p_laws_FnExactBestRice l = true := by
  rw [p_laws_FnExactBestRice_eq, bestRice_same, laws_eqInt64S_self]
  cases decide ((1048576 : Int) < (l.length : Int)) <;> simp
/-! laws_FnExactBestRice: function 11 -/
def E_laws_FnExactBestRice : Env := envOf [(33, S_laws_toInt64S), (38, S_spec_BestRice), (39, S_impl_BestRice), (35, S_laws_eqInt64S)]
def F_laws_FnExactBestRice : List Value → AHeap → (Value → AHeap → Prop) → Prop
  | [.slice aList_a aList_n aList_e], H, K => T_laws_FnExactBestRice aList_a aList_n aList_e H fun (r1 : Bool) (H' : AHeap) => K (.bool r1) H'
  | _, _, _ => False
def S_laws_FnExactBestRice : FSpec := ⟨F_laws_FnExactBestRice, false⟩
theorem laws_FnExactBestRice_vc (aList_a : Option Addr) (aList_n : Nat) (aList_e : Nat) (H : AHeap) (K : Value → AHeap → Prop) : bodyK Try.prog E_laws_FnExactBestRice Try.f11 [.slice aList_a aList_n aList_e] H K =
  (Br (decide ((1048576 : Int) < (aList_n : Int))) (K (.bool true) H) (T_laws_toInt64S aList_a aList_n aList_e H fun (a1 : Option Addr) (r1 : Nat) (r2 : Nat) (H1 : AHeap) => T_spec_BestRice a1 r1 r2 H1 fun (r3 : Int) (r4 : Int) (r5 : Bool) (H2 : AHeap) => T_laws_toInt64S aList_a aList_n aList_e H2 fun (a2 : Option Addr) (r6 : Nat) (r7 : Nat) (H3 : AHeap) => T_impl_BestRice a2 r6 r7 H3 fun (r8 : Int) (r9 : Int) (r10 : Bool) (H4 : AHeap) => Br ((r8 : Int) != r3) (K (.bool false) H4) (Br ((r9 : Int) != r4) (K (.bool false) H4) (Br (!(r10 == r5)) (K (.bool false) H4) (T_laws_toInt64S aList_a aList_n aList_e H4 fun (a3 : Option Addr) (r11 : Nat) (r12 : Nat) (H5 : AHeap) => T_laws_eqInt64S a2 r6 r7 a3 r11 r12 H5 fun (r13 : Bool) (H6 : AHeap) => Br (!r13) (K (.bool false) H6) (K (.bool true) H6)))))) := by kernel_rfl
theorem E_laws_FnExactBestRice_ok : ∀ g, FnOk Try.prog g (E_laws_FnExactBestRice g) := FnOk.envOf (by
  intro x hx
  simp only [List.mem_cons, List.not_mem_nil, or_false] at hx
  rcases hx with rfl | rfl | rfl | rfl
  · exact laws_toInt64S_ok
  · exact spec_BestRice_ok
  · exact impl_BestRice_ok
  · exact laws_eqInt64S_ok)
set_option maxHeartbeats 1000000 in
theorem laws_FnExactBestRice_main (aList_a : Option Addr) (aList_n : Nat) (aList_e : Nat) (H : AHeap) (K : Value → AHeap → Prop) (h : T_laws_FnExactBestRice aList_a aList_n aList_e H fun (r1 : Bool) (H' : AHeap) => K (.bool r1) H') : bodyK Try.prog E_laws_FnExactBestRice Try.f11 [.slice aList_a aList_n aList_e] H K := by
  rw [laws_FnExactBestRice_vc]
  obtain ⟨l_aList, h_0, h_1, hk⟩ := h
  have i_aList := h_0
  obtain rfl := i_aList.eqn
  have hl := laws_FnExactBestRice_true l_aList h_1
  have e : p_laws_FnExactBestRice l_aList = _ := rfl
  have e := e.trans (p_laws_FnExactBestRice_eq l_aList)
  have e := hl.symm.trans e
  have g0 := Grow.refl H
  refine Br.intro (fun c_1 => ?_) (fun c_1 => ?_)
  · have e := e.trans (cond_t c_1)
    have c_1' := of_decide_eq_true c_1
    first | exact hk _ | (exfalso; cases e; done) | (rw [← e]; exact hk _)
  · have e := e.trans (cond_f c_1)
    have c_1' := of_decide_eq_false c_1
    refine T_laws_toInt64S_i ⟨_, (i_aList.grow g0), (by first | omega | (simp only [List.length_set, List.length_replicate, List.length_append, List.length_cons, List.length_nil]; done) | (simp only [List.length_set, List.length_replicate, List.length_append, List.length_cons, List.length_nil]; omega)), fun a_2 n_3 e_4 H_1 g_6 r_5 => ?_⟩
    have g_7 := g0.trans g_6
    have l_8 := g_7.1
    have g_9 := Grow.refl H_1
    rw [laws_toInt64S_id l_aList] at r_5
    have r_5i := r_5.isL
    obtain rfl := r_5i.eqn
    refine T_spec_BestRice_i ⟨_, (r_5i.grow g_9), (by first | omega | (simp only [List.length_set, List.length_replicate, List.length_append, List.length_cons, List.length_nil]; done) | (simp only [List.length_set, List.length_replicate, List.length_append, List.length_cons, List.length_nil]; omega)), ?_⟩
    refine T_laws_toInt64S_i ⟨_, (i_aList.grow g_7), (by first | omega | (simp only [List.length_set, List.length_replicate, List.length_append, List.length_cons, List.length_nil]; done) | (simp only [List.length_set, List.length_replicate, List.length_append, List.length_cons, List.length_nil]; omega)), fun a_10 n_11 e_12 H_2 g_14 r_13 => ?_⟩
    have g_15 := g_7.trans g_14
    have l_16 := g_15.1
    have g_17 := g_9.trans g_14
    have l_18 := g_17.1
    have g_19 := Grow.refl H_2
    rw [laws_toInt64S_id l_aList] at r_13
    have r_13i := r_13.isL
    obtain rfl := r_13i.eqn
    refine T_impl_BestRice_i ⟨_, (r_13i.grow g_19), (by first | omega | (simp only [List.length_set, List.length_replicate, List.length_append, List.length_cons, List.length_nil]; done) | (simp only [List.length_set, List.length_replicate, List.length_append, List.length_cons, List.length_nil]; omega)), ?_⟩
    refine Br.intro (fun c_20 => ?_) (fun c_20 => ?_)
    · have e := e.trans (cond_t c_20)
      have c_20' := ine_t c_20
      first | exact hk _ | (exfalso; cases e; done) | (rw [← e]; exact hk _)
    · have e := e.trans (cond_f c_20)
      have c_20' := ine_f c_20
      refine Br.intro (fun c_21 => ?_) (fun c_21 => ?_)
      · have e := e.trans (cond_t c_21)
        have c_21' := ine_t c_21
        first | exact hk _ | (exfalso; cases e; done) | (rw [← e]; exact hk _)
      · have e := e.trans (cond_f c_21)
        have c_21' := ine_f c_21
        refine Br.intro (fun c_22 => ?_) (fun c_22 => ?_)
        · have e := e.trans (cond_t c_22)
          have c_22n := nf_of_t c_22
          first | exact hk _ | (exfalso; cases e; done) | (rw [← e]; exact hk _)
        · have e := e.trans (cond_f c_22)
          have c_22n := nt_of_f c_22
          refine T_laws_toInt64S_i ⟨_, (i_aList.grow g_15), (by first | omega | (simp only [List.length_set, List.length_replicate, List.length_append, List.length_cons, List.length_nil]; done) | (simp only [List.length_set, List.length_replicate, List.length_append, List.length_cons, List.length_nil]; omega)), fun a_23 n_24 e_25 H_3 g_27 r_26 => ?_⟩
          have g_28 := g_15.trans g_27
          have l_29 := g_28.1
          have g_30 := g_17.trans g_27
          have l_31 := g_30.1
          have g_32 := g_19.trans g_27
          have l_33 := g_32.1
          have g_34 := Grow.refl H_3
          rw [laws_toInt64S_id l_aList] at r_26
          have r_26i := r_26.isL
          obtain rfl := r_26i.eqn
          refine T_laws_eqInt64S_i ⟨_, _, (r_13i.grow g_32), (r_26i.grow g_34), (by first | omega | (simp only [List.length_set, List.length_replicate, List.length_append, List.length_cons, List.length_nil]; done) | (simp only [List.length_set, List.length_replicate, List.length_append, List.length_cons, List.length_nil]; omega)), (by first | omega | (simp only [List.length_set, List.length_replicate, List.length_append, List.length_cons, List.length_nil]; done) | (simp only [List.length_set, List.length_replicate, List.length_append, List.length_cons, List.length_nil]; omega)), ?_⟩
          refine Br.intro (fun c_35 => ?_) (fun c_35 => ?_)
          · have e := e.trans (cond_t c_35)
            have c_35n := nf_of_t c_35
            first | exact hk _ | (exfalso; cases e; done) | (rw [← e]; exact hk _)
          · have e := e.trans (cond_f c_35)
            have c_35n := nt_of_f c_35
            first | exact hk _ | (exfalso; cases e; done) | (rw [← e]; exact hk _)
theorem laws_FnExactBestRice_ok : FnOk Try.prog 11 S_laws_FnExactBestRice := by
  refine FnOk.body mix_ok E_laws_FnExactBestRice_ok Try.func11 rfl (by kernel_rfl) (by kernel_rfl) ?_ ?_ ?_ ?_
  · intro args H K K' h hk
    simp only [S_laws_FnExactBestRice] at *
    unfold F_laws_FnExactBestRice at *
    split at hk
    · obtain ⟨l_aList, h_0, h_1, k⟩ := hk
      exact ⟨l_aList, h_0, h_1, (fun H' => h _ _ (k H'))⟩
    · exact hk.elim
  · intro hq; cases hq
  · intro args H K hk
    simp only [S_laws_FnExactBestRice] at *
    unfold F_laws_FnExactBestRice at *
    split at hk
    · obtain ⟨l_aList, h_0, h_1, k⟩ := hk
      exact ⟨_, _, k []⟩
    · exact hk.elim
  · have mm := @laws_FnExactBestRice_main
    revert mm
    generalize bodyK Try.prog E_laws_FnExactBestRice Try.f11 = Q
    intro mm args H K hk
    simp only [S_laws_FnExactBestRice] at *
    unfold F_laws_FnExactBestRice at *
    split at hk
    · exact mm _ _ _ H K hk
    · exact hk.elim
end Go.Proofs.Ytfofkmlohmodeaa.Ai
