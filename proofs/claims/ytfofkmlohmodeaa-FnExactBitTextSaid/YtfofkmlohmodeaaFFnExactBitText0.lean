/- What functions of the program come to on the abstract machine, and that they do so; printed by a program of mine around proofs of mine. -/
import Derived.Test.YtfofkmlohmodeaaProg
import Derived.Test.YtfofkmlohmodeaaLibA
import Derived.Test.YtfofkmlohmodeaaOpen
import Derived.Test.YtfofkmlohmodeaaLibB
set_option linter.unusedVariables false
set_option linter.unusedSimpArgs false
set_option maxRecDepth 100000
namespace Go.Proofs.Ytfofkmlohmodeaa.Ai
open Go
attribute [local irreducible] bodyK
theorem mix_ok : Try.prog.follows .mixedOrders = true := by kernel_rfl
def p_laws_toBoolS_l1 (l_a : List Bool) : Nat → Int → (List Bool) → (List Bool)
  | 0, _, _ => []
  | μ + 1, i, y_10 => (bif decide ((i : Int) < (l_a.length : Int)) then (p_laws_toBoolS_l1 l_a μ (i + 1) (((y_10).set (i : Int).toNat ((((l_a).getD (i : Int).toNat false)))))) else y_10)
theorem p_laws_toBoolS_l1_s (l_a : List Bool) (μ : Nat) (i : Int) (y_10 : List Bool) : p_laws_toBoolS_l1 l_a (μ + 1) i y_10 = (bif decide ((i : Int) < (l_a.length : Int)) then (p_laws_toBoolS_l1 l_a μ (i + 1) (((y_10).set (i : Int).toNat ((((l_a).getD (i : Int).toNat false)))))) else y_10) := rfl
def p_laws_toBoolS (l_a : List Bool) : (List Bool) := (p_laws_toBoolS_l1 l_a (Int.toNat ((l_a.length : Int) - (0 : Int)) + 1) (0 : Int) (List.replicate (((l_a.length : Int)).toNat) false))
theorem p_laws_toBoolS_eq (l_a : List Bool) : p_laws_toBoolS l_a = (p_laws_toBoolS_l1 l_a (Int.toNat ((l_a.length : Int) - (0 : Int)) + 1) (0 : Int) (List.replicate (((l_a.length : Int)).toNat) false)) := rfl
def T_laws_toBoolS (a_a : Option Addr) (a_n : Nat) (a_e : Nat) (H : AHeap) (K : (Option Addr) → Nat → Nat → AHeap → Prop) : Prop := ∃ (l_a : List Bool), IsL fB H a_a a_n l_a ∧ l_a.length < 1073741824 ∧ ((∀ (r1_a : Option Addr) (r1_n r1_e : Nat), ∀ H' : AHeap, Grow H H' → OwnS fB H' H.length r1_a r1_n r1_e (p_laws_toBoolS l_a) → K r1_a r1_n r1_e H'))
theorem T_laws_toBoolS_i {a_a : Option Addr} {a_n : Nat} {a_e : Nat} {H : AHeap} {K : (Option Addr) → Nat → Nat → AHeap → Prop} (h : ∃ (l_a : List Bool), IsL fB H a_a a_n l_a ∧ l_a.length < 1073741824 ∧ ((∀ (r1_a : Option Addr) (r1_n r1_e : Nat), ∀ H' : AHeap, Grow H H' → OwnS fB H' H.length r1_a r1_n r1_e (p_laws_toBoolS l_a) → K r1_a r1_n r1_e H'))) : T_laws_toBoolS a_a a_n a_e H K := h
theorem laws_toBoolS_go (l : List Bool) : ∀ (μ : Nat) (i : Nat) (ys : List Bool), ys.length = l.length → i ≤ l.length → l.length - i < μ →
    p_laws_toBoolS_l1 l μ (i : Int) (l.take i ++ ys.drop i) = l := by
  intro μ
  induction μ with
  | zero => intro i ys _ _ h; omega
  | succ μ ih =>
    intro i ys hy hi hm
    rw [p_laws_toBoolS_l1_s]
    by_cases h : i < l.length
    · rw [decide_eq_true (show (i : Int) < (l.length : Int) by omega), cond_true]
      have hx : l[i]? = some (l.getD i false) := by rw [List.getD_eq_getElem?_getD, List.getElem?_eq_getElem h]; rfl
      rw [Int.toNat_natCast, set_front l ys i (by omega) hy.symm _ hx]
      exact ih (i + 1) ys hy (by omega) (by omega)
    · rw [decide_eq_false (show ¬ (i : Int) < (l.length : Int) by omega), cond_false]
      rw [List.take_of_length_le (by omega), List.drop_eq_nil_of_le (by omega), List.append_nil]
theorem laws_toBoolS_id (l : List Bool) : p_laws_toBoolS l = l := by
  rw [p_laws_toBoolS_eq]
  have := laws_toBoolS_go l (Int.toNat ((l.length : Int) - 0) + 1) 0 (List.replicate ((l.length : Int)).toNat false) (by simp) (by omega) (by omega)
  simpa using this
/-! laws_toBoolS: function 20 -/
def E_laws_toBoolS : Env := envOf []
def F_laws_toBoolS : List Value → AHeap → (Value → AHeap → Prop) → Prop
  | [.slice a_a a_n a_e], H, K => T_laws_toBoolS a_a a_n a_e H fun (r1_a : Option Addr) (r1_n : Nat) (r1_e : Nat) (H' : AHeap) => K (.slice r1_a r1_n r1_e) H'
  | _, _, _ => False
def S_laws_toBoolS : FSpec := ⟨F_laws_toBoolS, false⟩
theorem laws_toBoolS_vc (a_a : Option Addr) (a_n : Nat) (a_e : Nat) (H : AHeap) (K : Value → AHeap → Prop) : bodyK Try.prog E_laws_toBoolS Try.f20 [.slice a_a a_n a_e] H K =
  ((0 : Int) ≤ (a_n : Int) ∧ (a_n : Int) = (a_n : Int) ∧ (a_n : Int) < (most : Int) ∧ Al (zerosOf (.bool false) ((a_n : Int)).toNat) H fun b1 H1 => loopK (exK Try.prog E_laws_toBoolS (cl (cl (cr (cl (cr (cr (bodyC Try.f20)))))))) [.slice a_a a_n a_e, undef, .slice none 0 0, .slice (some ⟨b1, 0, none⟩) (((a_n : Int)).toNat) 1, .int .i64 0, .slice a_a a_n a_e, .int .i64 (a_n : Int), .slice (some ⟨b1, 0, none⟩) (((a_n : Int)).toNat) 1, undef, undef, undef, undef, undef, undef, undef, undef, undef, undef, undef, undef, undef, undef] H1 (blockQ 0 (seqQ (exK Try.prog E_laws_toBoolS (cr (cr (cr (bodyC Try.f20))))) (retK Try.prog Try.f20 K)))) := by kernel_rfl
theorem laws_toBoolS_r1 (a_a : Option Addr) (a_e : Nat) (a_n : Nat) (b1 : Nat) (i : Int) (g8 g9 g10 g11 g12 g13 g14 g15 g16 g17 g18 g19 g20 : Value) (H : AHeap) (R : Post) : exK Try.prog E_laws_toBoolS (cl (cl (cr (cl (cr (cr (bodyC Try.f20))))))) [.slice a_a a_n a_e, undef, .slice none 0 0, .slice (some ⟨b1, 0, none⟩) (((a_n : Int)).toNat) 1, .int .i64 i, .slice a_a a_n a_e, .int .i64 (a_n : Int), .slice (some ⟨b1, 0, none⟩) (((a_n : Int)).toNat) 1, g8, g9, g10, g11, g12, g13, g14, g15, g16, g17, g18, g19, g20, undef] H R =
  (Br (decide ((i : Int) < (a_n : Int))) ((0 : Int) ≤ i ∧ i < (a_n : Int) ∧ ∃ b2 f1, (a_a : Option Addr) = some ⟨b2, f1, none⟩ ∧ ∃ x1 : Bool,  rdC H b2 (f1 + (i : Int).toNat * 1) = some (.bool x1) ∧ (0 : Int) ≤ i ∧ i < (((a_n : Int)).toNat : Int) ∧ ∃ b3 f2, (some ⟨b1, 0, none⟩ : Option Addr) = some ⟨b3, f2, none⟩ ∧ isOwn H b3 ∧ (∃ l, rdN H b3 (f2 + (i : Int).toNat * 1) 1 = some l) ∧ Lt (setC H b3 (f2 + (i : Int).toNat * 1) (.bool x1)) fun H2 => R .normal [.slice a_a a_n a_e, undef, .slice none 0 0, .slice (some ⟨b1, 0, none⟩) (((a_n : Int)).toNat) 1, .int .i64 (IntKind.wrap .i64 (i + 1)), .slice a_a a_n a_e, .int .i64 (a_n : Int), .slice (some ⟨b1, 0, none⟩) (((a_n : Int)).toNat) 1, .int .i64 i, .slice a_a a_n a_e, .int .i64 (a_n : Int), .bool (decide ((i : Int) < (a_n : Int))), .int .i64 i, .int .i64 (IntKind.wrap .i64 (i + 1)), .slice (some ⟨b1, 0, none⟩) (((a_n : Int)).toNat) 1, .int .i64 i, .slice a_a a_n a_e, .int .i64 i, .pointer (some ⟨b2, f1 + (i : Int).toNat * 1, none⟩), .bool x1, .pointer (some ⟨b3, f2 + (i : Int).toNat * 1, none⟩), undef] H2) (R (.exit 0) [.slice a_a a_n a_e, undef, .slice none 0 0, .slice (some ⟨b1, 0, none⟩) (((a_n : Int)).toNat) 1, .int .i64 i, .slice a_a a_n a_e, .int .i64 (a_n : Int), .slice (some ⟨b1, 0, none⟩) (((a_n : Int)).toNat) 1, .int .i64 i, .slice a_a a_n a_e, .int .i64 (a_n : Int), .bool (decide ((i : Int) < (a_n : Int))), g12, g13, g14, g15, g16, g17, g18, g19, g20, undef] H)) := by kernel_rfl
def laws_toBoolS_I1 (a_a : Option Addr) (a_e : Nat) (a_n : Nat) (b1 : Nat) (Inv : Nat → Int → AHeap → Prop) : Nat → List Value → AHeap → Prop := fun μ tm H => ∃ (i : Int), ∃ g8 g9 g10 g11 g12 g13 g14 g15 g16 g17 g18 g19 g20, tm = [.slice a_a a_n a_e, undef, .slice none 0 0, .slice (some ⟨b1, 0, none⟩) (((a_n : Int)).toNat) 1, .int .i64 i, .slice a_a a_n a_e, .int .i64 (a_n : Int), .slice (some ⟨b1, 0, none⟩) (((a_n : Int)).toNat) 1, g8, g9, g10, g11, g12, g13, g14, g15, g16, g17, g18, g19, g20, undef] ∧ Inv μ i H
theorem laws_toBoolS_L1 (a_a : Option Addr) (a_e : Nat) (a_n : Nat) (b1 : Nat) {Q : Post} (Inv : Nat → Int → AHeap → Prop) (ν : Nat) (i : Int) (g8 g9 g10 g11 g12 g13 g14 g15 g16 g17 g18 g19 g20 : Value) (H : AHeap) (h0 : Inv ν i H)
    (hs : ∀ (μ : Nat) (i : Int) (g8 g9 g10 g11 g12 g13 g14 g15 g16 g17 g18 g19 g20 : Value) (H : AHeap), Inv μ i H → exK Try.prog E_laws_toBoolS (cl (cl (cr (cl (cr (cr (bodyC Try.f20))))))) [.slice a_a a_n a_e, undef, .slice none 0 0, .slice (some ⟨b1, 0, none⟩) (((a_n : Int)).toNat) 1, .int .i64 i, .slice a_a a_n a_e, .int .i64 (a_n : Int), .slice (some ⟨b1, 0, none⟩) (((a_n : Int)).toNat) 1, g8, g9, g10, g11, g12, g13, g14, g15, g16, g17, g18, g19, g20, undef] H (loopQ (laws_toBoolS_I1 a_a a_e a_n b1 Inv) μ Q)) : loopK (exK Try.prog E_laws_toBoolS (cl (cl (cr (cl (cr (cr (bodyC Try.f20)))))))) [.slice a_a a_n a_e, undef, .slice none 0 0, .slice (some ⟨b1, 0, none⟩) (((a_n : Int)).toNat) 1, .int .i64 i, .slice a_a a_n a_e, .int .i64 (a_n : Int), .slice (some ⟨b1, 0, none⟩) (((a_n : Int)).toNat) 1, g8, g9, g10, g11, g12, g13, g14, g15, g16, g17, g18, g19, g20, undef] H Q :=
  ⟨laws_toBoolS_I1 a_a a_e a_n b1 Inv, ν, ⟨i, g8, g9, g10, g11, g12, g13, g14, g15, g16, g17, g18, g19, g20, rfl, h0⟩, fun μ tm H h => by obtain ⟨i, g8, g9, g10, g11, g12, g13, g14, g15, g16, g17, g18, g19, g20, rfl, hI⟩ := h; exact hs μ i g8 g9 g10 g11 g12 g13 g14 g15 g16 g17 g18 g19 g20 H hI⟩
theorem laws_toBoolS_n1 {a_a : Option Addr} {a_e : Nat} {a_n : Nat} {b1 : Nat} {Q : Post} {Inv : Nat → Int → AHeap → Prop} {μ : Nat} (μ' : Nat) {i : Int} {g8 g9 g10 g11 g12 g13 g14 g15 g16 g17 g18 g19 g20 : Value} {H : AHeap} (hm : μ' < μ) (hI : Inv μ' i H) : loopQ (laws_toBoolS_I1 a_a a_e a_n b1 Inv) μ Q .normal [.slice a_a a_n a_e, undef, .slice none 0 0, .slice (some ⟨b1, 0, none⟩) (((a_n : Int)).toNat) 1, .int .i64 i, .slice a_a a_n a_e, .int .i64 (a_n : Int), .slice (some ⟨b1, 0, none⟩) (((a_n : Int)).toNat) 1, g8, g9, g10, g11, g12, g13, g14, g15, g16, g17, g18, g19, g20, undef] H := ⟨μ', hm, i, g8, g9, g10, g11, g12, g13, g14, g15, g16, g17, g18, g19, g20, rfl, hI⟩
theorem laws_toBoolS_x1_0 (a_a : Option Addr) (a_e : Nat) (a_n : Nat) (b1 : Nat) (i : Int) (g8 g9 g10 g11 g12 g13 g14 g15 g16 g17 g18 g19 g20 : Value) (H : AHeap) (K : Value → AHeap → Prop)  {I : Nat → List Value → AHeap → Prop} {μ : Nat} : loopQ I μ (blockQ 0 (seqQ (exK Try.prog E_laws_toBoolS (cr (cr (cr (bodyC Try.f20))))) (retK Try.prog Try.f20 K))) (.exit 0) [.slice a_a a_n a_e, undef, .slice none 0 0, .slice (some ⟨b1, 0, none⟩) (((a_n : Int)).toNat) 1, .int .i64 i, .slice a_a a_n a_e, .int .i64 (a_n : Int), .slice (some ⟨b1, 0, none⟩) (((a_n : Int)).toNat) 1, g8, g9, g10, g11, g12, g13, g14, g15, g16, g17, g18, g19, g20, undef] H =
  (K (.slice (some ⟨b1, 0, none⟩) (((a_n : Int)).toNat) 1) H) := by kernel_rfl
theorem E_laws_toBoolS_ok : ∀ g, FnOk Try.prog g (E_laws_toBoolS g) := FnOk.envOf (by
  intro x hx; cases hx)
set_option maxHeartbeats 1000000 in
theorem laws_toBoolS_main (a_a : Option Addr) (a_n : Nat) (a_e : Nat) (H : AHeap) (K : Value → AHeap → Prop) (h : T_laws_toBoolS a_a a_n a_e H fun (r1_a : Option Addr) (r1_n : Nat) (r1_e : Nat) (H' : AHeap) => K (.slice r1_a r1_n r1_e) H') : bodyK Try.prog E_laws_toBoolS Try.f20 [.slice a_a a_n a_e] H K := by
  rw [laws_toBoolS_vc]
  obtain ⟨l_a, i_a, bd_28, hk⟩ := h
  obtain rfl := i_a.eqn
  have e : (p_laws_toBoolS l_a) = _ := rfl
  have e := e.trans (p_laws_toBoolS_eq l_a)
  have g0 := Grow.refl H
  refine ⟨by omega, rfl, (by have := most_eq; omega), ?_⟩
  refine Al.intro (fun b_1 H_1 hb_2 hl_3 g_4 o_5 => ?_)
  rw [zeros_map fB false _ rfl] at o_5
  have g_7 := g0.trans g_4
  have l_8 := g_7.1
  have w_27 := o_5.lt
  refine laws_toBoolS_L1 _ _ _ _ (fun (μ : Nat) (i : Int) (H_2 : AHeap) => ∃ (y_10 : List Bool), Own H_2 b_1 (y_10.map fB) ∧ y_10.length = ((l_a.length : Int)).toNat ∧ Grow H H_2 ∧ (0 : Int) ≤ i ∧ i ≤ (l_a.length : Int) ∧ (l_a.length : Int) - i ≤ (μ : Int) ∧ p_laws_toBoolS l_a = p_laws_toBoolS_l1 l_a (μ + 1) i y_10) (Int.toNat ((l_a.length : Int) - (0 : Int))) _ _ _ _ _ _ _ _ _ _ _ _ _ _ H_1 ?_ ?_
  · exact ⟨_, o_5, (by first | rfl | (simp; done)), g_7, (by first | omega | (simp; done) | (simp; omega)), (by first | omega | (simp; done) | (simp; omega)), (by omega), e⟩
  · intro μ i g8 g9 g10 g11 g12 g13 g14 g15 g16 g17 g18 g19 g20 H_2 hI
    obtain ⟨y_10, o_9, y_11, g_12, v_13, v_14, hμ, e⟩ := hI
    rw [laws_toBoolS_r1]
    have e := e.trans (p_laws_toBoolS_l1_s l_a μ i y_10)
    have w_15 := o_9.lt
    have l_16 := g_12.1
    refine Br.intro (fun c_17 => ?_) (fun c_17 => ?_)
    · have e := e.trans (cond_t c_17)
      have c_17' := of_decide_eq_true c_17
      obtain ⟨b_18, f_19, q_20⟩ := (i_a).pos (by omega)
      refine ⟨by omega, by omega, b_18, f_19, q_20, ?_⟩
      refine ⟨((l_a).getD (i : Int).toNat false), (i_a).rd g_12 q_20 (by omega) _, ?_⟩
      refine ⟨by omega, (by omega), _, _, rfl, ?_⟩
      refine Lt.set o_9 (by simp only [List.length_map]; (first | omega | (simp only [List.length_set, List.length_replicate, List.length_append, List.length_cons, List.length_nil]; done) | (simp only [List.length_set, List.length_replicate, List.length_append, List.length_cons, List.length_nil]; omega))) (fun H_3 hl_21 o_23 k_22 => ?_)
      have o_23 := map_set o_23
      have g_24 := g_12.keep (b := b_1) (by omega) k_22
      have l_25 := g_24.1
      have w_26 := o_23.lt
      rw [show IntKind.wrap .i64 (i + 1) = (i + 1) from wrap64 (by omega) (by omega)]
      refine laws_toBoolS_n1 (μ - 1) (by omega) ⟨_, o_23, (by simp only [List.length_set]; first | rfl | assumption | omega), g_24, (by first | omega | (simp only [List.length_append, List.length_cons, List.length_nil, List.length_set]; done) | (simp only [List.length_append, List.length_cons, List.length_nil, List.length_set]; omega)), (by first | omega | (simp only [List.length_append, List.length_cons, List.length_nil, List.length_set]; done) | (simp only [List.length_append, List.length_cons, List.length_nil, List.length_set]; omega)), (by omega), (by rw [show μ - 1 + 1 = μ from by omega]; exact e)⟩
    · have e := e.trans (cond_f c_17)
      have c_17' := of_decide_eq_false c_17
      rw [laws_toBoolS_x1_0]
      rw [e] at hk
      exact hk _ _ _ H_2 g_12 (o_9.ownS (by first | (simp only [List.length_replicate]; done) | omega | (simp; omega)) (by omega))
theorem laws_toBoolS_ok : FnOk Try.prog 20 S_laws_toBoolS := by
  refine FnOk.body mix_ok E_laws_toBoolS_ok Try.func20 rfl (by kernel_rfl) (by kernel_rfl) ?_ ?_ ?_ ?_
  · intro args H K K' h hk
    simp only [S_laws_toBoolS] at *
    unfold F_laws_toBoolS at *
    split at hk
    · obtain ⟨l_a, i_a, bd_28, k⟩ := hk
      exact ⟨l_a, i_a, bd_28, (fun r1_a r1_n r1_e H' gg ow0 => h _ _ (k r1_a r1_n r1_e H' gg ow0))⟩
    · exact hk.elim
  · intro hq; cases hq
  · intro args H K hk
    simp only [S_laws_toBoolS] at *
    unfold F_laws_toBoolS at *
    split at hk
    · obtain ⟨l_a, i_a, bd_28, k⟩ := hk
      exact liveS fun a n e H1 g o => ⟨_, _, k a n e H1 g o⟩
    · exact hk.elim
  · have mm := @laws_toBoolS_main
    revert mm
    generalize bodyK Try.prog E_laws_toBoolS Try.f20 = Q
    intro mm args H K hk
    simp only [S_laws_toBoolS] at *
    unfold F_laws_toBoolS at *
    split at hk
    · exact mm _ _ _ H K hk
    · exact hk.elim
def p_spec_l06Text_l1 (l_bits : List Bool) : Nat → (List UInt8) → Int → ByteArray
  | 0, _, _ => ByteArray.empty
  | μ + 1, l_vout, i => (bif decide ((i : Int) < (l_bits.length : Int)) then (bif ((l_bits).getD (i : Int).toNat false) then (p_spec_l06Text_l1 l_bits μ ((l_vout ++ [(49 : UInt8)])) (i + 1)) else (p_spec_l06Text_l1 l_bits μ ((l_vout ++ [(48 : UInt8)])) (i + 1))) else ⟨(l_vout).toArray⟩)
theorem p_spec_l06Text_l1_s (l_bits : List Bool) (μ : Nat) (l_vout : List UInt8) (i : Int) : p_spec_l06Text_l1 l_bits (μ + 1) l_vout i = (bif decide ((i : Int) < (l_bits.length : Int)) then (bif ((l_bits).getD (i : Int).toNat false) then (p_spec_l06Text_l1 l_bits μ ((l_vout ++ [(49 : UInt8)])) (i + 1)) else (p_spec_l06Text_l1 l_bits μ ((l_vout ++ [(48 : UInt8)])) (i + 1))) else ⟨(l_vout).toArray⟩) := rfl
def p_spec_l06Text (l_bits : List Bool) : ByteArray := (p_spec_l06Text_l1 l_bits (Int.toNat ((l_bits.length : Int) - (0 : Int)) + 1) ([] : List UInt8) (0 : Int))
theorem p_spec_l06Text_eq (l_bits : List Bool) : p_spec_l06Text l_bits = (p_spec_l06Text_l1 l_bits (Int.toNat ((l_bits.length : Int) - (0 : Int)) + 1) ([] : List UInt8) (0 : Int)) := rfl
def T_spec_l06Text (bits_a : Option Addr) (bits_n : Nat) (bits_e : Nat) (H : AHeap) (K : ByteArray → AHeap → Prop) : Prop := ∃ (l_bits : List Bool), IsL fB H bits_a bits_n l_bits ∧ l_bits.length < 1073741824 ∧ ((∀ H' : AHeap, Grow H H' → K (p_spec_l06Text l_bits) H'))
theorem T_spec_l06Text_i {bits_a : Option Addr} {bits_n : Nat} {bits_e : Nat} {H : AHeap} {K : ByteArray → AHeap → Prop} (h : ∃ (l_bits : List Bool), IsL fB H bits_a bits_n l_bits ∧ l_bits.length < 1073741824 ∧ ((∀ H' : AHeap, Grow H H' → K (p_spec_l06Text l_bits) H'))) : T_spec_l06Text bits_a bits_n bits_e H K := h

/-! spec_l06Text: function 57 -/
def E_spec_l06Text : Env := envOf []
def F_spec_l06Text : List Value → AHeap → (Value → AHeap → Prop) → Prop
  | [.slice bits_a bits_n bits_e], H, K => T_spec_l06Text bits_a bits_n bits_e H fun (r1 : ByteArray) (H' : AHeap) => K (.string r1) H'
  | _, _, _ => False
def S_spec_l06Text : FSpec := ⟨F_spec_l06Text, false⟩
theorem spec_l06Text_vc (bits_a : Option Addr) (bits_n : Nat) (bits_e : Nat) (H : AHeap) (K : Value → AHeap → Prop) : bodyK Try.prog E_spec_l06Text Try.f57 [.slice bits_a bits_n bits_e] H K =
  (Al [] H fun b1 H1 => loopK (exK Try.prog E_spec_l06Text (cl (cl (cr (cl (cr (cr (bodyC Try.f57)))))))) [.slice bits_a bits_n bits_e, undef, .string (⟨#[]⟩ : ByteArray), .slice (some ⟨b1, 0, none⟩) 0 1, .int .i64 0, .slice (some ⟨b1, 0, none⟩) 0 1, undef, undef, undef, undef, undef, undef, undef, undef, undef, undef, undef, undef, undef, undef, undef, undef, undef, undef] H1 (blockQ 0 (seqQ (exK Try.prog E_spec_l06Text (cr (cr (cr (bodyC Try.f57))))) (retK Try.prog Try.f57 K)))) := by kernel_rfl
theorem spec_l06Text_r1 (b1 : Nat) (bits_a : Option Addr) (bits_e : Nat) (bits_n : Nat) (vout_a : Option Addr) (vout_n : Nat) (vout_e : Nat) (i : Int) (g6 g7 g8 g9 g10 g11 g12 g13 g14 g15 g16 g17 g18 g19 g20 g21 : Value) (H : AHeap) (R : Post) : exK Try.prog E_spec_l06Text (cl (cl (cr (cl (cr (cr (bodyC Try.f57))))))) [.slice bits_a bits_n bits_e, undef, .string (⟨#[]⟩ : ByteArray), .slice vout_a vout_n vout_e, .int .i64 i, .slice (some ⟨b1, 0, none⟩) 0 1, g6, g7, g8, g9, g10, g11, g12, g13, g14, g15, g16, g17, g18, g19, g20, g21, undef, undef] H R =
  (Br (decide ((i : Int) < (bits_n : Int))) ((0 : Int) ≤ i ∧ i < (bits_n : Int) ∧ ∃ b2 f1, (bits_a : Option Addr) = some ⟨b2, f1, none⟩ ∧ ∃ x1 : Bool,  rdC H b2 (f1 + (i : Int).toNat * 1) = some (.bool x1) ∧ Br x1 (Al [.int .u8 49] H fun b3 H2 => ∃ o1 w1 : List Value, ownB H2 vout_a vout_n vout_e 1 = some o1 ∧ rdS H2 (some ⟨b3, 0, none⟩) (1 * 1) = some w1 ∧ ((vout_a : Option Addr) = none → 0 < (1 : Nat)) ∧ (vout_n : Nat) + 1 < most ∧ Lt (killB H2 vout_a ++ [some ⟨o1 ++ w1, true⟩]) fun H3 => R .normal [.slice bits_a bits_n bits_e, undef, .string (⟨#[]⟩ : ByteArray), .slice (some ⟨H2.length, 0, none⟩) (vout_n + 1) 1, .int .i64 (IntKind.wrap .i64 (i + 1)), .slice (some ⟨b1, 0, none⟩) 0 1, .int .i64 i, .slice bits_a bits_n bits_e, .int .i64 (bits_n : Int), .bool (decide ((i : Int) < (bits_n : Int))), .int .i64 i, .int .i64 (IntKind.wrap .i64 (i + 1)), .slice bits_a bits_n bits_e, .int .i64 i, .pointer (some ⟨b2, f1 + (i : Int).toNat * 1, none⟩), .bool x1, .slice vout_a vout_n vout_e, .slice (some ⟨b3, 0, none⟩) 1 1, .slice (some ⟨H2.length, 0, none⟩) (vout_n + 1) 1, g19, g20, g21, undef, undef] H3) (Al [.int .u8 48] H fun b4 H4 => ∃ o2 w2 : List Value, ownB H4 vout_a vout_n vout_e 1 = some o2 ∧ rdS H4 (some ⟨b4, 0, none⟩) (1 * 1) = some w2 ∧ ((vout_a : Option Addr) = none → 0 < (1 : Nat)) ∧ (vout_n : Nat) + 1 < most ∧ Lt (killB H4 vout_a ++ [some ⟨o2 ++ w2, true⟩]) fun H5 => R .normal [.slice bits_a bits_n bits_e, undef, .string (⟨#[]⟩ : ByteArray), .slice (some ⟨H4.length, 0, none⟩) (vout_n + 1) 1, .int .i64 (IntKind.wrap .i64 (i + 1)), .slice (some ⟨b1, 0, none⟩) 0 1, .int .i64 i, .slice bits_a bits_n bits_e, .int .i64 (bits_n : Int), .bool (decide ((i : Int) < (bits_n : Int))), .int .i64 i, .int .i64 (IntKind.wrap .i64 (i + 1)), .slice bits_a bits_n bits_e, .int .i64 i, .pointer (some ⟨b2, f1 + (i : Int).toNat * 1, none⟩), .bool x1, g16, g17, g18, .slice vout_a vout_n vout_e, .slice (some ⟨b4, 0, none⟩) 1 1, .slice (some ⟨H4.length, 0, none⟩) (vout_n + 1) 1, undef, undef] H5)) (R (.exit 0) [.slice bits_a bits_n bits_e, undef, .string (⟨#[]⟩ : ByteArray), .slice vout_a vout_n vout_e, .int .i64 i, .slice (some ⟨b1, 0, none⟩) 0 1, .int .i64 i, .slice bits_a bits_n bits_e, .int .i64 (bits_n : Int), .bool (decide ((i : Int) < (bits_n : Int))), g10, g11, g12, g13, g14, g15, g16, g17, g18, g19, g20, g21, undef, undef] H)) := by kernel_rfl
def spec_l06Text_I1 (b1 : Nat) (bits_a : Option Addr) (bits_e : Nat) (bits_n : Nat) (Inv : Nat → (Option Addr) → Nat → Nat → Int → AHeap → Prop) : Nat → List Value → AHeap → Prop := fun μ tm H => ∃ (vout_a : Option Addr), ∃ (vout_n : Nat), ∃ (vout_e : Nat), ∃ (i : Int), ∃ g6 g7 g8 g9 g10 g11 g12 g13 g14 g15 g16 g17 g18 g19 g20 g21, tm = [.slice bits_a bits_n bits_e, undef, .string (⟨#[]⟩ : ByteArray), .slice vout_a vout_n vout_e, .int .i64 i, .slice (some ⟨b1, 0, none⟩) 0 1, g6, g7, g8, g9, g10, g11, g12, g13, g14, g15, g16, g17, g18, g19, g20, g21, undef, undef] ∧ Inv μ vout_a vout_n vout_e i H
theorem spec_l06Text_L1 (b1 : Nat) (bits_a : Option Addr) (bits_e : Nat) (bits_n : Nat) {Q : Post} (Inv : Nat → (Option Addr) → Nat → Nat → Int → AHeap → Prop) (ν : Nat) (vout_a : Option Addr) (vout_n : Nat) (vout_e : Nat) (i : Int) (g6 g7 g8 g9 g10 g11 g12 g13 g14 g15 g16 g17 g18 g19 g20 g21 : Value) (H : AHeap) (h0 : Inv ν vout_a vout_n vout_e i H)
    (hs : ∀ (μ : Nat) (vout_a : Option Addr) (vout_n : Nat) (vout_e : Nat) (i : Int) (g6 g7 g8 g9 g10 g11 g12 g13 g14 g15 g16 g17 g18 g19 g20 g21 : Value) (H : AHeap), Inv μ vout_a vout_n vout_e i H → exK Try.prog E_spec_l06Text (cl (cl (cr (cl (cr (cr (bodyC Try.f57))))))) [.slice bits_a bits_n bits_e, undef, .string (⟨#[]⟩ : ByteArray), .slice vout_a vout_n vout_e, .int .i64 i, .slice (some ⟨b1, 0, none⟩) 0 1, g6, g7, g8, g9, g10, g11, g12, g13, g14, g15, g16, g17, g18, g19, g20, g21, undef, undef] H (loopQ (spec_l06Text_I1 b1 bits_a bits_e bits_n Inv) μ Q)) : loopK (exK Try.prog E_spec_l06Text (cl (cl (cr (cl (cr (cr (bodyC Try.f57)))))))) [.slice bits_a bits_n bits_e, undef, .string (⟨#[]⟩ : ByteArray), .slice vout_a vout_n vout_e, .int .i64 i, .slice (some ⟨b1, 0, none⟩) 0 1, g6, g7, g8, g9, g10, g11, g12, g13, g14, g15, g16, g17, g18, g19, g20, g21, undef, undef] H Q :=
  ⟨spec_l06Text_I1 b1 bits_a bits_e bits_n Inv, ν, ⟨vout_a, vout_n, vout_e, i, g6, g7, g8, g9, g10, g11, g12, g13, g14, g15, g16, g17, g18, g19, g20, g21, rfl, h0⟩, fun μ tm H h => by obtain ⟨vout_a, vout_n, vout_e, i, g6, g7, g8, g9, g10, g11, g12, g13, g14, g15, g16, g17, g18, g19, g20, g21, rfl, hI⟩ := h; exact hs μ vout_a vout_n vout_e i g6 g7 g8 g9 g10 g11 g12 g13 g14 g15 g16 g17 g18 g19 g20 g21 H hI⟩
theorem spec_l06Text_n1 {b1 : Nat} {bits_a : Option Addr} {bits_e : Nat} {bits_n : Nat} {Q : Post} {Inv : Nat → (Option Addr) → Nat → Nat → Int → AHeap → Prop} {μ : Nat} (μ' : Nat) {vout_a : Option Addr} {vout_n : Nat} {vout_e : Nat} {i : Int} {g6 g7 g8 g9 g10 g11 g12 g13 g14 g15 g16 g17 g18 g19 g20 g21 : Value} {H : AHeap} (hm : μ' < μ) (hI : Inv μ' vout_a vout_n vout_e i H) : loopQ (spec_l06Text_I1 b1 bits_a bits_e bits_n Inv) μ Q .normal [.slice bits_a bits_n bits_e, undef, .string (⟨#[]⟩ : ByteArray), .slice vout_a vout_n vout_e, .int .i64 i, .slice (some ⟨b1, 0, none⟩) 0 1, g6, g7, g8, g9, g10, g11, g12, g13, g14, g15, g16, g17, g18, g19, g20, g21, undef, undef] H := ⟨μ', hm, vout_a, vout_n, vout_e, i, g6, g7, g8, g9, g10, g11, g12, g13, g14, g15, g16, g17, g18, g19, g20, g21, rfl, hI⟩
theorem spec_l06Text_x1_0 (b1 : Nat) (bits_a : Option Addr) (bits_e : Nat) (bits_n : Nat) (vout_a : Option Addr) (vout_n : Nat) (vout_e : Nat) (i : Int) (g6 g7 g8 g9 g10 g11 g12 g13 g14 g15 g16 g17 g18 g19 g20 g21 : Value) (H : AHeap) (K : Value → AHeap → Prop)  {I : Nat → List Value → AHeap → Prop} {μ : Nat} : loopQ I μ (blockQ 0 (seqQ (exK Try.prog E_spec_l06Text (cr (cr (cr (bodyC Try.f57))))) (retK Try.prog Try.f57 K))) (.exit 0) [.slice bits_a bits_n bits_e, undef, .string (⟨#[]⟩ : ByteArray), .slice vout_a vout_n vout_e, .int .i64 i, .slice (some ⟨b1, 0, none⟩) 0 1, g6, g7, g8, g9, g10, g11, g12, g13, g14, g15, g16, g17, g18, g19, g20, g21, undef, undef] H =
  (∃ l1 : List UInt8, rdS H vout_a vout_n = some (l1.map fun c => Value.int .u8 c.toNat) ∧ K (.string ⟨l1.toArray⟩) H) := by kernel_rfl
theorem E_spec_l06Text_ok : ∀ g, FnOk Try.prog g (E_spec_l06Text g) := FnOk.envOf (by
  intro x hx; cases hx)
set_option maxHeartbeats 1000000 in
theorem spec_l06Text_main (bits_a : Option Addr) (bits_n : Nat) (bits_e : Nat) (H : AHeap) (K : Value → AHeap → Prop) (h : T_spec_l06Text bits_a bits_n bits_e H fun (r1 : ByteArray) (H' : AHeap) => K (.string r1) H') : bodyK Try.prog E_spec_l06Text Try.f57 [.slice bits_a bits_n bits_e] H K := by
  rw [spec_l06Text_vc]
  obtain ⟨l_bits, i_bits, bd_69, hk⟩ := h
  obtain rfl := i_bits.eqn
  have e : (p_spec_l06Text l_bits) = _ := rfl
  have e := e.trans (p_spec_l06Text_eq l_bits)
  have g0 := Grow.refl H
  refine Al.intro (fun b_1 H_1 hb_2 hl_3 g_4 o_5 => ?_)
  have o_5 : Own H_1 b_1 ((([] : List UInt8)).map fU) := o_5
  have g_7 := g0.trans g_4
  have l_8 := g_7.1
  have w_68 := o_5.lt
  refine spec_l06Text_L1 _ _ _ _ (fun (μ : Nat) (vout_a : Option Addr) (vout_n : Nat) (vout_e : Nat) (i : Int) (H_2 : AHeap) => ∃ (l_vout : List UInt8), ∃ (b_9 : Nat), vout_a = some ⟨b_9, 0, none⟩ ∧ vout_n = l_vout.length ∧ vout_e = 1 ∧ Own H_2 b_9 (l_vout.map fU) ∧ Grow H H_2 ∧ H.length ≤ b_9 ∧ (0 : Int) ≤ i ∧ i ≤ (l_bits.length : Int) ∧ (l_vout.length : Int) ≤ i - (0 : Int) + 0 ∧ (l_bits.length : Int) - i ≤ (μ : Int) ∧ p_spec_l06Text l_bits = p_spec_l06Text_l1 l_bits (μ + 1) l_vout i) (Int.toNat ((l_bits.length : Int) - (0 : Int))) _ _ _ _ _ _ _ _ _ _ _ _ _ _ _ _ _ _ _ _ H_1 ?_ ?_
  · exact ⟨_, _, rfl, rfl, rfl, o_5, g_7, (by omega), (by first | omega | (simp; done) | (simp; omega)), (by first | omega | (simp; done) | (simp; omega)), (by first | omega | (simp; done) | (simp; omega)), (by omega), e⟩
  · intro μ vout_a vout_n vout_e i g6 g7 g8 g9 g10 g11 g12 g13 g14 g15 g16 g17 g18 g19 g20 g21 H_2 hI
    obtain ⟨l_vout, b_9, rfl, rfl, rfl, o_10, g_11, l_12, v_13, v_14, v_15, hμ, e⟩ := hI
    rw [spec_l06Text_r1]
    have e := e.trans (p_spec_l06Text_l1_s l_bits μ l_vout i)
    have w_16 := o_10.lt
    have l_17 := g_11.1
    refine Br.intro (fun c_18 => ?_) (fun c_18 => ?_)
    · have e := e.trans (cond_t c_18)
      have c_18' := of_decide_eq_true c_18
      obtain ⟨b_19, f_20, q_21⟩ := (i_bits).pos (by omega)
      refine ⟨by omega, by omega, b_19, f_20, q_21, ?_⟩
      refine ⟨((l_bits).getD (i : Int).toNat false), (i_bits).rd g_11 q_21 (by omega) _, ?_⟩
      refine Br.intro (fun c_22 => ?_) (fun c_22 => ?_)
      · have e := e.trans (cond_t c_22)
        refine Al.intro (fun b_23 H_3 hb_24 hl_25 g_26 o_27 => ?_)
        have o_27 : Own H_3 b_23 (([(49 : UInt8)]).map fU) := o_27
        have g_29 := g_11.trans g_26
        have l_30 := g_29.1
        have o_31 := o_10.grow g_26
        have w_32 := o_31.lt
        have w_44 := o_27.lt
        refine ⟨_, _, o_31.ownB (by first | (simp only [List.length_map, List.length_cons, List.length_nil, List.length_append]; done) | (simp only [List.length_map, List.length_cons, List.length_nil, List.length_append]; omega)) rfl, (isl_rdS (o_27.isL rfl)), fun _ => by omega, (by have := most_eq; omega), ?_⟩
        refine Lt.app o_31 rfl rfl (fun H_4 hl_33 o_34 k_35 => ?_)
        have o_34 := map_snoc o_34
        obtain ⟨b_37, q_42⟩ : ∃ x, x = H_3.length := ⟨_, rfl⟩
        rw [← q_42] at o_34 ⊢
        have g_38 := g_29.keep (b := b_9) (by omega) k_35
        have l_39 := g_38.1
        have o_40 := o_27.keep (by omega) k_35
        have w_41 := o_40.lt
        have w_43 := o_34.lt
        rw [show IntKind.wrap .i64 (i + 1) = (i + 1) from wrap64 (by omega) (by omega)]
        refine spec_l06Text_n1 (μ - 1) (by omega) ⟨_, _, rfl, (by first | (simp only [List.length_append, List.length_cons, List.length_nil]; done) | (simp only [List.length_append, List.length_cons, List.length_nil]; omega)), rfl, o_34, g_38, (by omega), (by first | omega | (simp only [List.length_append, List.length_cons, List.length_nil, List.length_set]; done) | (simp only [List.length_append, List.length_cons, List.length_nil, List.length_set]; omega)), (by first | omega | (simp only [List.length_append, List.length_cons, List.length_nil, List.length_set]; done) | (simp only [List.length_append, List.length_cons, List.length_nil, List.length_set]; omega)), (by first | omega | (simp only [List.length_append, List.length_cons, List.length_nil, List.length_set]; done) | (simp only [List.length_append, List.length_cons, List.length_nil, List.length_set]; omega)), (by omega), (by rw [show μ - 1 + 1 = μ from by omega]; exact e)⟩
      · have e := e.trans (cond_f c_22)
        refine Al.intro (fun b_45 H_5 hb_46 hl_47 g_48 o_49 => ?_)
        have o_49 : Own H_5 b_45 (([(48 : UInt8)]).map fU) := o_49
        have g_51 := g_11.trans g_48
        have l_52 := g_51.1
        have o_53 := o_10.grow g_48
        have w_54 := o_53.lt
        have w_66 := o_49.lt
        refine ⟨_, _, o_53.ownB (by first | (simp only [List.length_map, List.length_cons, List.length_nil, List.length_append]; done) | (simp only [List.length_map, List.length_cons, List.length_nil, List.length_append]; omega)) rfl, (isl_rdS (o_49.isL rfl)), fun _ => by omega, (by have := most_eq; omega), ?_⟩
        refine Lt.app o_53 rfl rfl (fun H_6 hl_55 o_56 k_57 => ?_)
        have o_56 := map_snoc o_56
        obtain ⟨b_59, q_64⟩ : ∃ x, x = H_5.length := ⟨_, rfl⟩
        rw [← q_64] at o_56 ⊢
        have g_60 := g_51.keep (b := b_9) (by omega) k_57
        have l_61 := g_60.1
        have o_62 := o_49.keep (by omega) k_57
        have w_63 := o_62.lt
        have w_65 := o_56.lt
        rw [show IntKind.wrap .i64 (i + 1) = (i + 1) from wrap64 (by omega) (by omega)]
        refine spec_l06Text_n1 (μ - 1) (by omega) ⟨_, _, rfl, (by first | (simp only [List.length_append, List.length_cons, List.length_nil]; done) | (simp only [List.length_append, List.length_cons, List.length_nil]; omega)), rfl, o_56, g_60, (by omega), (by first | omega | (simp only [List.length_append, List.length_cons, List.length_nil, List.length_set]; done) | (simp only [List.length_append, List.length_cons, List.length_nil, List.length_set]; omega)), (by first | omega | (simp only [List.length_append, List.length_cons, List.length_nil, List.length_set]; done) | (simp only [List.length_append, List.length_cons, List.length_nil, List.length_set]; omega)), (by first | omega | (simp only [List.length_append, List.length_cons, List.length_nil, List.length_set]; done) | (simp only [List.length_append, List.length_cons, List.length_nil, List.length_set]; omega)), (by omega), (by rw [show μ - 1 + 1 = μ from by omega]; exact e)⟩
    · have e := e.trans (cond_f c_18)
      have c_18' := of_decide_eq_false c_18
      rw [spec_l06Text_x1_0]
      refine ⟨l_vout, (o_10.isL rfl), ?_⟩
      rw [e] at hk
      exact hk  H_2 g_11 
theorem spec_l06Text_ok : FnOk Try.prog 57 S_spec_l06Text := by
  refine FnOk.body mix_ok E_spec_l06Text_ok Try.func57 rfl (by kernel_rfl) (by kernel_rfl) ?_ ?_ ?_ ?_
  · intro args H K K' h hk
    simp only [S_spec_l06Text] at *
    unfold F_spec_l06Text at *
    split at hk
    · obtain ⟨l_bits, i_bits, bd_69, k⟩ := hk
      exact ⟨l_bits, i_bits, bd_69, (fun  H' gg  => h _ _ (k  H' gg ))⟩
    · exact hk.elim
  · intro hq; cases hq
  · intro args H K hk
    simp only [S_spec_l06Text] at *
    unfold F_spec_l06Text at *
    split at hk
    · obtain ⟨l_bits, i_bits, bd_69, k⟩ := hk
      exact ⟨_, _, k H (Grow.refl H)⟩
    · exact hk.elim
  · have mm := @spec_l06Text_main
    revert mm
    generalize bodyK Try.prog E_spec_l06Text Try.f57 = Q
    intro mm args H K hk
    simp only [S_spec_l06Text] at *
    unfold F_spec_l06Text at *
    split at hk
    · exact mm _ _ _ H K hk
    · exact hk.elim
def p_spec_BitText (l_bits : List Bool) : ByteArray × Bool := (bif decide ((32768 : Int) < (l_bits.length : Int)) then ((⟨#[]⟩ : ByteArray), false) else ((p_spec_l06Text l_bits), true))
theorem p_spec_BitText_eq (l_bits : List Bool) : p_spec_BitText l_bits = (bif decide ((32768 : Int) < (l_bits.length : Int)) then ((⟨#[]⟩ : ByteArray), false) else ((p_spec_l06Text l_bits), true)) := rfl
def T_spec_BitText (bits_a : Option Addr) (bits_n : Nat) (bits_e : Nat) (H : AHeap) (K : ByteArray → Bool → AHeap → Prop) : Prop := ∃ (l_bits : List Bool), IsL fB H bits_a bits_n l_bits ∧ l_bits.length < 1073741824 ∧ ((∀ H' : AHeap, Grow H H' → K ((p_spec_BitText l_bits).1) ((p_spec_BitText l_bits).2) H'))
theorem T_spec_BitText_i {bits_a : Option Addr} {bits_n : Nat} {bits_e : Nat} {H : AHeap} {K : ByteArray → Bool → AHeap → Prop} (h : ∃ (l_bits : List Bool), IsL fB H bits_a bits_n l_bits ∧ l_bits.length < 1073741824 ∧ ((∀ H' : AHeap, Grow H H' → K ((p_spec_BitText l_bits).1) ((p_spec_BitText l_bits).2) H'))) : T_spec_BitText bits_a bits_n bits_e H K := h

/-! spec_BitText: function 19 -/
def E_spec_BitText : Env := envOf [(57, S_spec_l06Text)]
def F_spec_BitText : List Value → AHeap → (Value → AHeap → Prop) → Prop
  | [.slice bits_a bits_n bits_e], H, K => T_spec_BitText bits_a bits_n bits_e H fun (r1 : ByteArray) (r2 : Bool) (H' : AHeap) => K (.tuple #[.string r1, .bool r2]) H'
  | _, _, _ => False
def S_spec_BitText : FSpec := ⟨F_spec_BitText, false⟩
theorem spec_BitText_vc (bits_a : Option Addr) (bits_n : Nat) (bits_e : Nat) (H : AHeap) (K : Value → AHeap → Prop) : bodyK Try.prog E_spec_BitText Try.f19 [.slice bits_a bits_n bits_e] H K =
  (Br (decide ((32768 : Int) < (bits_n : Int))) (K (.tuple #[.string (⟨#[]⟩ : ByteArray), .bool false]) H) (T_spec_l06Text bits_a bits_n bits_e H fun (r1 : ByteArray) (H1 : AHeap) => K (.tuple #[.string r1, .bool true]) H1)) := by kernel_rfl
theorem E_spec_BitText_ok : ∀ g, FnOk Try.prog g (E_spec_BitText g) := FnOk.envOf (by
  intro x hx
  simp only [List.mem_cons, List.not_mem_nil, or_false] at hx
  subst hx; exact spec_l06Text_ok)
set_option maxHeartbeats 1000000 in
theorem spec_BitText_main (bits_a : Option Addr) (bits_n : Nat) (bits_e : Nat) (H : AHeap) (K : Value → AHeap → Prop) (h : T_spec_BitText bits_a bits_n bits_e H fun (r1 : ByteArray) (r2 : Bool) (H' : AHeap) => K (.tuple #[.string r1, .bool r2]) H') : bodyK Try.prog E_spec_BitText Try.f19 [.slice bits_a bits_n bits_e] H K := by
  rw [spec_BitText_vc]
  obtain ⟨l_bits, i_bits, bd_5, hk⟩ := h
  obtain rfl := i_bits.eqn
  have e : (p_spec_BitText l_bits) = _ := rfl
  have e := e.trans (p_spec_BitText_eq l_bits)
  have g0 := Grow.refl H
  refine Br.intro (fun c_1 => ?_) (fun c_1 => ?_)
  · have e := e.trans (cond_t c_1)
    have c_1' := of_decide_eq_true c_1
    rw [e] at hk
    exact hk  H g0 
  · have e := e.trans (cond_f c_1)
    have c_1' := of_decide_eq_false c_1
    refine T_spec_l06Text_i ⟨_, (i_bits.grow g0), (by first | omega | (simp only [List.length_set, List.length_replicate, List.length_append, List.length_cons, List.length_nil]; done) | (simp only [List.length_set, List.length_replicate, List.length_append, List.length_cons, List.length_nil]; omega)), fun  H_1 g_2  => ?_⟩
    have g_3 := g0.trans g_2
    have l_4 := g_3.1
    rw [e] at hk
    exact hk  H_1 g_3 
theorem spec_BitText_ok : FnOk Try.prog 19 S_spec_BitText := by
  refine FnOk.body mix_ok E_spec_BitText_ok Try.func19 rfl (by kernel_rfl) (by kernel_rfl) ?_ ?_ ?_ ?_
  · intro args H K K' h hk
    simp only [S_spec_BitText] at *
    unfold F_spec_BitText at *
    split at hk
    · obtain ⟨l_bits, i_bits, bd_5, k⟩ := hk
      exact ⟨l_bits, i_bits, bd_5, (fun  H' gg  => h _ _ (k  H' gg ))⟩
    · exact hk.elim
  · intro hq; cases hq
  · intro args H K hk
    simp only [S_spec_BitText] at *
    unfold F_spec_BitText at *
    split at hk
    · obtain ⟨l_bits, i_bits, bd_5, k⟩ := hk
      exact ⟨_, _, k H (Grow.refl H)⟩
    · exact hk.elim
  · have mm := @spec_BitText_main
    revert mm
    generalize bodyK Try.prog E_spec_BitText Try.f19 = Q
    intro mm args H K hk
    simp only [S_spec_BitText] at *
    unfold F_spec_BitText at *
    split at hk
    · exact mm _ _ _ H K hk
    · exact hk.elim
def p_impl_BitText_l1 (l_list : List Bool) : Nat → (List UInt8) → Int → ByteArray × Bool
  | 0, _, _ => (ByteArray.empty, false)
  | μ + 1, l_vout, t13 => (bif decide ((t13 : Int) < (l_list.length : Int)) then (bif ((l_list).getD (t13 : Int).toNat false) then (p_impl_BitText_l1 l_list μ ((l_vout ++ [(49 : UInt8)])) (t13 + 1)) else (p_impl_BitText_l1 l_list μ ((l_vout ++ [(48 : UInt8)])) (t13 + 1))) else (⟨(l_vout).toArray⟩, true))
theorem p_impl_BitText_l1_s (l_list : List Bool) (μ : Nat) (l_vout : List UInt8) (t13 : Int) : p_impl_BitText_l1 l_list (μ + 1) l_vout t13 = (bif decide ((t13 : Int) < (l_list.length : Int)) then (bif ((l_list).getD (t13 : Int).toNat false) then (p_impl_BitText_l1 l_list μ ((l_vout ++ [(49 : UInt8)])) (t13 + 1)) else (p_impl_BitText_l1 l_list μ ((l_vout ++ [(48 : UInt8)])) (t13 + 1))) else (⟨(l_vout).toArray⟩, true)) := rfl
def p_impl_BitText (l_list : List Bool) : ByteArray × Bool := (bif decide ((32768 : Int) < (l_list.length : Int)) then ((⟨#[]⟩ : ByteArray), false) else (p_impl_BitText_l1 l_list (Int.toNat ((l_list.length : Int) - (0 : Int)) + 1) ([] : List UInt8) (0 : Int)))
theorem p_impl_BitText_eq (l_list : List Bool) : p_impl_BitText l_list = (bif decide ((32768 : Int) < (l_list.length : Int)) then ((⟨#[]⟩ : ByteArray), false) else (p_impl_BitText_l1 l_list (Int.toNat ((l_list.length : Int) - (0 : Int)) + 1) ([] : List UInt8) (0 : Int))) := rfl
def T_impl_BitText (list_a : Option Addr) (list_n : Nat) (list_e : Nat) (H : AHeap) (K : ByteArray → Bool → AHeap → Prop) : Prop := ∃ (l_list : List Bool), IsL fB H list_a list_n l_list ∧ l_list.length < 1073741824 ∧ ((∀ H' : AHeap, Grow H H' → K ((p_impl_BitText l_list).1) ((p_impl_BitText l_list).2) H'))
theorem T_impl_BitText_i {list_a : Option Addr} {list_n : Nat} {list_e : Nat} {H : AHeap} {K : ByteArray → Bool → AHeap → Prop} (h : ∃ (l_list : List Bool), IsL fB H list_a list_n l_list ∧ l_list.length < 1073741824 ∧ ((∀ H' : AHeap, Grow H H' → K ((p_impl_BitText l_list).1) ((p_impl_BitText l_list).2) H'))) : T_impl_BitText list_a list_n list_e H K := h

/-! impl_BitText: function 21 -/
def E_impl_BitText : Env := envOf []
def F_impl_BitText : List Value → AHeap → (Value → AHeap → Prop) → Prop
  | [.slice list_a list_n list_e], H, K => T_impl_BitText list_a list_n list_e H fun (r1 : ByteArray) (r2 : Bool) (H' : AHeap) => K (.tuple #[.string r1, .bool r2]) H'
  | _, _, _ => False
def S_impl_BitText : FSpec := ⟨F_impl_BitText, false⟩
theorem impl_BitText_vc (list_a : Option Addr) (list_n : Nat) (list_e : Nat) (H : AHeap) (K : Value → AHeap → Prop) : bodyK Try.prog E_impl_BitText Try.f21 [.slice list_a list_n list_e] H K =
  (Br (decide ((32768 : Int) < (list_n : Int))) (K (.tuple #[.string (⟨#[]⟩ : ByteArray), .bool false]) H) (Al [] H fun b1 H1 => loopK (exK Try.prog E_impl_BitText (cl (cl (cr (cl (cr (cr (cr (bodyC Try.f21))))))))) [.slice list_a list_n list_e, undef, .string (⟨#[]⟩ : ByteArray), .bool false, .slice (some ⟨b1, 0, none⟩) 0 1, undef, undef, .slice list_a list_n list_e, .int .i64 (list_n : Int), .bool (decide ((32768 : Int) < (list_n : Int))), .slice (some ⟨b1, 0, none⟩) 0 1, .slice list_a list_n list_e, .int .i64 (list_n : Int), .int .i64 0, undef, undef, undef, undef, undef, undef, undef, undef, undef, undef, undef, undef, undef] H1 (blockQ 0 (seqQ (exK Try.prog E_impl_BitText (cr (cr (cr (cr (bodyC Try.f21)))))) (retK Try.prog Try.f21 K))))) := by kernel_rfl
theorem impl_BitText_r1 (b1 : Nat) (list_a : Option Addr) (list_e : Nat) (list_n : Nat) (vout_a : Option Addr) (vout_n : Nat) (vout_e : Nat) (t13 : Int) (g6 g14 g15 g16 g17 g18 g19 g20 g21 g22 g23 g24 : Value) (H : AHeap) (R : Post) : exK Try.prog E_impl_BitText (cl (cl (cr (cl (cr (cr (cr (bodyC Try.f21)))))))) [.slice list_a list_n list_e, undef, .string (⟨#[]⟩ : ByteArray), .bool false, .slice vout_a vout_n vout_e, undef, g6, .slice list_a list_n list_e, .int .i64 (list_n : Int), .bool (decide ((32768 : Int) < (list_n : Int))), .slice (some ⟨b1, 0, none⟩) 0 1, .slice list_a list_n list_e, .int .i64 (list_n : Int), .int .i64 t13, g14, g15, g16, g17, g18, g19, g20, g21, g22, g23, g24, undef, undef] H R =
  (Br (decide ((t13 : Int) < (list_n : Int))) ((0 : Int) ≤ t13 ∧ t13 < (list_n : Int) ∧ ∃ b2 f1, (list_a : Option Addr) = some ⟨b2, f1, none⟩ ∧ ∃ x1 : Bool,  rdC H b2 (f1 + (t13 : Int).toNat * 1) = some (.bool x1) ∧ Br x1 (Al [.int .u8 49] H fun b3 H2 => ∃ o1 w1 : List Value, ownB H2 vout_a vout_n vout_e 1 = some o1 ∧ rdS H2 (some ⟨b3, 0, none⟩) (1 * 1) = some w1 ∧ ((vout_a : Option Addr) = none → 0 < (1 : Nat)) ∧ (vout_n : Nat) + 1 < most ∧ Lt (killB H2 vout_a ++ [some ⟨o1 ++ w1, true⟩]) fun H3 => R .normal [.slice list_a list_n list_e, undef, .string (⟨#[]⟩ : ByteArray), .bool false, .slice (some ⟨H2.length, 0, none⟩) (vout_n + 1) 1, undef, .bool x1, .slice list_a list_n list_e, .int .i64 (list_n : Int), .bool (decide ((32768 : Int) < (list_n : Int))), .slice (some ⟨b1, 0, none⟩) 0 1, .slice list_a list_n list_e, .int .i64 (list_n : Int), .int .i64 (IntKind.wrap .i64 (t13 + 1)), .bool (decide ((t13 : Int) < (list_n : Int))), .pointer (some ⟨b2, f1 + (t13 : Int).toNat * 1, none⟩), .bool x1, .bool x1, .slice vout_a vout_n vout_e, .slice (some ⟨b3, 0, none⟩) 1 1, .slice (some ⟨H2.length, 0, none⟩) (vout_n + 1) 1, g21, g22, g23, .int .i64 (IntKind.wrap .i64 (t13 + 1)), undef, undef] H3) (Al [.int .u8 48] H fun b4 H4 => ∃ o2 w2 : List Value, ownB H4 vout_a vout_n vout_e 1 = some o2 ∧ rdS H4 (some ⟨b4, 0, none⟩) (1 * 1) = some w2 ∧ ((vout_a : Option Addr) = none → 0 < (1 : Nat)) ∧ (vout_n : Nat) + 1 < most ∧ Lt (killB H4 vout_a ++ [some ⟨o2 ++ w2, true⟩]) fun H5 => R .normal [.slice list_a list_n list_e, undef, .string (⟨#[]⟩ : ByteArray), .bool false, .slice (some ⟨H4.length, 0, none⟩) (vout_n + 1) 1, undef, .bool x1, .slice list_a list_n list_e, .int .i64 (list_n : Int), .bool (decide ((32768 : Int) < (list_n : Int))), .slice (some ⟨b1, 0, none⟩) 0 1, .slice list_a list_n list_e, .int .i64 (list_n : Int), .int .i64 (IntKind.wrap .i64 (t13 + 1)), .bool (decide ((t13 : Int) < (list_n : Int))), .pointer (some ⟨b2, f1 + (t13 : Int).toNat * 1, none⟩), .bool x1, .bool x1, g18, g19, g20, .slice vout_a vout_n vout_e, .slice (some ⟨b4, 0, none⟩) 1 1, .slice (some ⟨H4.length, 0, none⟩) (vout_n + 1) 1, .int .i64 (IntKind.wrap .i64 (t13 + 1)), undef, undef] H5)) (R (.exit 0) [.slice list_a list_n list_e, undef, .string (⟨#[]⟩ : ByteArray), .bool false, .slice vout_a vout_n vout_e, undef, g6, .slice list_a list_n list_e, .int .i64 (list_n : Int), .bool (decide ((32768 : Int) < (list_n : Int))), .slice (some ⟨b1, 0, none⟩) 0 1, .slice list_a list_n list_e, .int .i64 (list_n : Int), .int .i64 t13, .bool (decide ((t13 : Int) < (list_n : Int))), g15, g16, g17, g18, g19, g20, g21, g22, g23, g24, undef, undef] H)) := by kernel_rfl
def impl_BitText_I1 (b1 : Nat) (list_a : Option Addr) (list_e : Nat) (list_n : Nat) (Inv : Nat → (Option Addr) → Nat → Nat → Int → AHeap → Prop) : Nat → List Value → AHeap → Prop := fun μ tm H => ∃ (vout_a : Option Addr), ∃ (vout_n : Nat), ∃ (vout_e : Nat), ∃ (t13 : Int), ∃ g6 g14 g15 g16 g17 g18 g19 g20 g21 g22 g23 g24, tm = [.slice list_a list_n list_e, undef, .string (⟨#[]⟩ : ByteArray), .bool false, .slice vout_a vout_n vout_e, undef, g6, .slice list_a list_n list_e, .int .i64 (list_n : Int), .bool (decide ((32768 : Int) < (list_n : Int))), .slice (some ⟨b1, 0, none⟩) 0 1, .slice list_a list_n list_e, .int .i64 (list_n : Int), .int .i64 t13, g14, g15, g16, g17, g18, g19, g20, g21, g22, g23, g24, undef, undef] ∧ Inv μ vout_a vout_n vout_e t13 H
theorem impl_BitText_L1 (b1 : Nat) (list_a : Option Addr) (list_e : Nat) (list_n : Nat) {Q : Post} (Inv : Nat → (Option Addr) → Nat → Nat → Int → AHeap → Prop) (ν : Nat) (vout_a : Option Addr) (vout_n : Nat) (vout_e : Nat) (t13 : Int) (g6 g14 g15 g16 g17 g18 g19 g20 g21 g22 g23 g24 : Value) (H : AHeap) (h0 : Inv ν vout_a vout_n vout_e t13 H)
    (hs : ∀ (μ : Nat) (vout_a : Option Addr) (vout_n : Nat) (vout_e : Nat) (t13 : Int) (g6 g14 g15 g16 g17 g18 g19 g20 g21 g22 g23 g24 : Value) (H : AHeap), Inv μ vout_a vout_n vout_e t13 H → exK Try.prog E_impl_BitText (cl (cl (cr (cl (cr (cr (cr (bodyC Try.f21)))))))) [.slice list_a list_n list_e, undef, .string (⟨#[]⟩ : ByteArray), .bool false, .slice vout_a vout_n vout_e, undef, g6, .slice list_a list_n list_e, .int .i64 (list_n : Int), .bool (decide ((32768 : Int) < (list_n : Int))), .slice (some ⟨b1, 0, none⟩) 0 1, .slice list_a list_n list_e, .int .i64 (list_n : Int), .int .i64 t13, g14, g15, g16, g17, g18, g19, g20, g21, g22, g23, g24, undef, undef] H (loopQ (impl_BitText_I1 b1 list_a list_e list_n Inv) μ Q)) : loopK (exK Try.prog E_impl_BitText (cl (cl (cr (cl (cr (cr (cr (bodyC Try.f21))))))))) [.slice list_a list_n list_e, undef, .string (⟨#[]⟩ : ByteArray), .bool false, .slice vout_a vout_n vout_e, undef, g6, .slice list_a list_n list_e, .int .i64 (list_n : Int), .bool (decide ((32768 : Int) < (list_n : Int))), .slice (some ⟨b1, 0, none⟩) 0 1, .slice list_a list_n list_e, .int .i64 (list_n : Int), .int .i64 t13, g14, g15, g16, g17, g18, g19, g20, g21, g22, g23, g24, undef, undef] H Q :=
  ⟨impl_BitText_I1 b1 list_a list_e list_n Inv, ν, ⟨vout_a, vout_n, vout_e, t13, g6, g14, g15, g16, g17, g18, g19, g20, g21, g22, g23, g24, rfl, h0⟩, fun μ tm H h => by obtain ⟨vout_a, vout_n, vout_e, t13, g6, g14, g15, g16, g17, g18, g19, g20, g21, g22, g23, g24, rfl, hI⟩ := h; exact hs μ vout_a vout_n vout_e t13 g6 g14 g15 g16 g17 g18 g19 g20 g21 g22 g23 g24 H hI⟩
theorem impl_BitText_n1 {b1 : Nat} {list_a : Option Addr} {list_e : Nat} {list_n : Nat} {Q : Post} {Inv : Nat → (Option Addr) → Nat → Nat → Int → AHeap → Prop} {μ : Nat} (μ' : Nat) {vout_a : Option Addr} {vout_n : Nat} {vout_e : Nat} {t13 : Int} {g6 g14 g15 g16 g17 g18 g19 g20 g21 g22 g23 g24 : Value} {H : AHeap} (hm : μ' < μ) (hI : Inv μ' vout_a vout_n vout_e t13 H) : loopQ (impl_BitText_I1 b1 list_a list_e list_n Inv) μ Q .normal [.slice list_a list_n list_e, undef, .string (⟨#[]⟩ : ByteArray), .bool false, .slice vout_a vout_n vout_e, undef, g6, .slice list_a list_n list_e, .int .i64 (list_n : Int), .bool (decide ((32768 : Int) < (list_n : Int))), .slice (some ⟨b1, 0, none⟩) 0 1, .slice list_a list_n list_e, .int .i64 (list_n : Int), .int .i64 t13, g14, g15, g16, g17, g18, g19, g20, g21, g22, g23, g24, undef, undef] H := ⟨μ', hm, vout_a, vout_n, vout_e, t13, g6, g14, g15, g16, g17, g18, g19, g20, g21, g22, g23, g24, rfl, hI⟩
theorem impl_BitText_x1_0 (b1 : Nat) (list_a : Option Addr) (list_e : Nat) (list_n : Nat) (vout_a : Option Addr) (vout_n : Nat) (vout_e : Nat) (t13 : Int) (g6 g14 g15 g16 g17 g18 g19 g20 g21 g22 g23 g24 : Value) (H : AHeap) (K : Value → AHeap → Prop)  {I : Nat → List Value → AHeap → Prop} {μ : Nat} : loopQ I μ (blockQ 0 (seqQ (exK Try.prog E_impl_BitText (cr (cr (cr (cr (bodyC Try.f21)))))) (retK Try.prog Try.f21 K))) (.exit 0) [.slice list_a list_n list_e, undef, .string (⟨#[]⟩ : ByteArray), .bool false, .slice vout_a vout_n vout_e, undef, g6, .slice list_a list_n list_e, .int .i64 (list_n : Int), .bool (decide ((32768 : Int) < (list_n : Int))), .slice (some ⟨b1, 0, none⟩) 0 1, .slice list_a list_n list_e, .int .i64 (list_n : Int), .int .i64 t13, g14, g15, g16, g17, g18, g19, g20, g21, g22, g23, g24, undef, undef] H =
  (∃ l1 : List UInt8, rdS H vout_a vout_n = some (l1.map fun c => Value.int .u8 c.toNat) ∧ K (.tuple #[.string ⟨l1.toArray⟩, .bool true]) H) := by kernel_rfl
theorem E_impl_BitText_ok : ∀ g, FnOk Try.prog g (E_impl_BitText g) := FnOk.envOf (by
  intro x hx; cases hx)
set_option maxHeartbeats 1000000 in
theorem impl_BitText_main (list_a : Option Addr) (list_n : Nat) (list_e : Nat) (H : AHeap) (K : Value → AHeap → Prop) (h : T_impl_BitText list_a list_n list_e H fun (r1 : ByteArray) (r2 : Bool) (H' : AHeap) => K (.tuple #[.string r1, .bool r2]) H') : bodyK Try.prog E_impl_BitText Try.f21 [.slice list_a list_n list_e] H K := by
  rw [impl_BitText_vc]
  obtain ⟨l_list, i_list, bd_70, hk⟩ := h
  obtain rfl := i_list.eqn
  have e : (p_impl_BitText l_list) = _ := rfl
  have e := e.trans (p_impl_BitText_eq l_list)
  have g0 := Grow.refl H
  refine Br.intro (fun c_1 => ?_) (fun c_1 => ?_)
  · have e := e.trans (cond_t c_1)
    have c_1' := of_decide_eq_true c_1
    rw [e] at hk
    exact hk  H g0 
  · have e := e.trans (cond_f c_1)
    have c_1' := of_decide_eq_false c_1
    refine Al.intro (fun b_2 H_1 hb_3 hl_4 g_5 o_6 => ?_)
    have o_6 : Own H_1 b_2 ((([] : List UInt8)).map fU) := o_6
    have g_8 := g0.trans g_5
    have l_9 := g_8.1
    have w_69 := o_6.lt
    refine impl_BitText_L1 _ _ _ _ (fun (μ : Nat) (vout_a : Option Addr) (vout_n : Nat) (vout_e : Nat) (t13 : Int) (H_2 : AHeap) => ∃ (l_vout : List UInt8), ∃ (b_10 : Nat), vout_a = some ⟨b_10, 0, none⟩ ∧ vout_n = l_vout.length ∧ vout_e = 1 ∧ Own H_2 b_10 (l_vout.map fU) ∧ Grow H H_2 ∧ H.length ≤ b_10 ∧ (0 : Int) ≤ t13 ∧ t13 ≤ (l_list.length : Int) ∧ (l_vout.length : Int) ≤ t13 - (0 : Int) + 0 ∧ (l_list.length : Int) - t13 ≤ (μ : Int) ∧ p_impl_BitText l_list = p_impl_BitText_l1 l_list (μ + 1) l_vout t13) (Int.toNat ((l_list.length : Int) - (0 : Int))) _ _ _ _ _ _ _ _ _ _ _ _ _ _ _ _ H_1 ?_ ?_
    · exact ⟨_, _, rfl, rfl, rfl, o_6, g_8, (by omega), (by first | omega | (simp; done) | (simp; omega)), (by first | omega | (simp; done) | (simp; omega)), (by first | omega | (simp; done) | (simp; omega)), (by omega), e⟩
    · intro μ vout_a vout_n vout_e t13 g6 g14 g15 g16 g17 g18 g19 g20 g21 g22 g23 g24 H_2 hI
      obtain ⟨l_vout, b_10, rfl, rfl, rfl, o_11, g_12, l_13, v_14, v_15, v_16, hμ, e⟩ := hI
      rw [impl_BitText_r1]
      have e := e.trans (p_impl_BitText_l1_s l_list μ l_vout t13)
      have w_17 := o_11.lt
      have l_18 := g_12.1
      refine Br.intro (fun c_19 => ?_) (fun c_19 => ?_)
      · have e := e.trans (cond_t c_19)
        have c_19' := of_decide_eq_true c_19
        obtain ⟨b_20, f_21, q_22⟩ := (i_list).pos (by omega)
        refine ⟨by omega, by omega, b_20, f_21, q_22, ?_⟩
        refine ⟨((l_list).getD (t13 : Int).toNat false), (i_list).rd g_12 q_22 (by omega) _, ?_⟩
        refine Br.intro (fun c_23 => ?_) (fun c_23 => ?_)
        · have e := e.trans (cond_t c_23)
          refine Al.intro (fun b_24 H_3 hb_25 hl_26 g_27 o_28 => ?_)
          have o_28 : Own H_3 b_24 (([(49 : UInt8)]).map fU) := o_28
          have g_30 := g_12.trans g_27
          have l_31 := g_30.1
          have o_32 := o_11.grow g_27
          have w_33 := o_32.lt
          have w_45 := o_28.lt
          refine ⟨_, _, o_32.ownB (by first | (simp only [List.length_map, List.length_cons, List.length_nil, List.length_append]; done) | (simp only [List.length_map, List.length_cons, List.length_nil, List.length_append]; omega)) rfl, (isl_rdS (o_28.isL rfl)), fun _ => by omega, (by have := most_eq; omega), ?_⟩
          refine Lt.app o_32 rfl rfl (fun H_4 hl_34 o_35 k_36 => ?_)
          have o_35 := map_snoc o_35
          obtain ⟨b_38, q_43⟩ : ∃ x, x = H_3.length := ⟨_, rfl⟩
          rw [← q_43] at o_35 ⊢
          have g_39 := g_30.keep (b := b_10) (by omega) k_36
          have l_40 := g_39.1
          have o_41 := o_28.keep (by omega) k_36
          have w_42 := o_41.lt
          have w_44 := o_35.lt
          rw [show IntKind.wrap .i64 (t13 + 1) = (t13 + 1) from wrap64 (by omega) (by omega)]
          refine impl_BitText_n1 (μ - 1) (by omega) ⟨_, _, rfl, (by first | (simp only [List.length_append, List.length_cons, List.length_nil]; done) | (simp only [List.length_append, List.length_cons, List.length_nil]; omega)), rfl, o_35, g_39, (by omega), (by first | omega | (simp only [List.length_append, List.length_cons, List.length_nil, List.length_set]; done) | (simp only [List.length_append, List.length_cons, List.length_nil, List.length_set]; omega)), (by first | omega | (simp only [List.length_append, List.length_cons, List.length_nil, List.length_set]; done) | (simp only [List.length_append, List.length_cons, List.length_nil, List.length_set]; omega)), (by first | omega | (simp only [List.length_append, List.length_cons, List.length_nil, List.length_set]; done) | (simp only [List.length_append, List.length_cons, List.length_nil, List.length_set]; omega)), (by omega), (by rw [show μ - 1 + 1 = μ from by omega]; exact e)⟩
        · have e := e.trans (cond_f c_23)
          refine Al.intro (fun b_46 H_5 hb_47 hl_48 g_49 o_50 => ?_)
          have o_50 : Own H_5 b_46 (([(48 : UInt8)]).map fU) := o_50
          have g_52 := g_12.trans g_49
          have l_53 := g_52.1
          have o_54 := o_11.grow g_49
          have w_55 := o_54.lt
          have w_67 := o_50.lt
          refine ⟨_, _, o_54.ownB (by first | (simp only [List.length_map, List.length_cons, List.length_nil, List.length_append]; done) | (simp only [List.length_map, List.length_cons, List.length_nil, List.length_append]; omega)) rfl, (isl_rdS (o_50.isL rfl)), fun _ => by omega, (by have := most_eq; omega), ?_⟩
          refine Lt.app o_54 rfl rfl (fun H_6 hl_56 o_57 k_58 => ?_)
          have o_57 := map_snoc o_57
          obtain ⟨b_60, q_65⟩ : ∃ x, x = H_5.length := ⟨_, rfl⟩
          rw [← q_65] at o_57 ⊢
          have g_61 := g_52.keep (b := b_10) (by omega) k_58
          have l_62 := g_61.1
          have o_63 := o_50.keep (by omega) k_58
          have w_64 := o_63.lt
          have w_66 := o_57.lt
          rw [show IntKind.wrap .i64 (t13 + 1) = (t13 + 1) from wrap64 (by omega) (by omega)]
          refine impl_BitText_n1 (μ - 1) (by omega) ⟨_, _, rfl, (by first | (simp only [List.length_append, List.length_cons, List.length_nil]; done) | (simp only [List.length_append, List.length_cons, List.length_nil]; omega)), rfl, o_57, g_61, (by omega), (by first | omega | (simp only [List.length_append, List.length_cons, List.length_nil, List.length_set]; done) | (simp only [List.length_append, List.length_cons, List.length_nil, List.length_set]; omega)), (by first | omega | (simp only [List.length_append, List.length_cons, List.length_nil, List.length_set]; done) | (simp only [List.length_append, List.length_cons, List.length_nil, List.length_set]; omega)), (by first | omega | (simp only [List.length_append, List.length_cons, List.length_nil, List.length_set]; done) | (simp only [List.length_append, List.length_cons, List.length_nil, List.length_set]; omega)), (by omega), (by rw [show μ - 1 + 1 = μ from by omega]; exact e)⟩
      · have e := e.trans (cond_f c_19)
        have c_19' := of_decide_eq_false c_19
        rw [impl_BitText_x1_0]
        refine ⟨l_vout, (o_11.isL rfl), ?_⟩
        rw [e] at hk
        exact hk  H_2 g_12 
theorem impl_BitText_ok : FnOk Try.prog 21 S_impl_BitText := by
  refine FnOk.body mix_ok E_impl_BitText_ok Try.func21 rfl (by kernel_rfl) (by kernel_rfl) ?_ ?_ ?_ ?_
  · intro args H K K' h hk
    simp only [S_impl_BitText] at *
    unfold F_impl_BitText at *
    split at hk
    · obtain ⟨l_list, i_list, bd_70, k⟩ := hk
      exact ⟨l_list, i_list, bd_70, (fun  H' gg  => h _ _ (k  H' gg ))⟩
    · exact hk.elim
  · intro hq; cases hq
  · intro args H K hk
    simp only [S_impl_BitText] at *
    unfold F_impl_BitText at *
    split at hk
    · obtain ⟨l_list, i_list, bd_70, k⟩ := hk
      exact ⟨_, _, k H (Grow.refl H)⟩
    · exact hk.elim
  · have mm := @impl_BitText_main
    revert mm
    generalize bodyK Try.prog E_impl_BitText Try.f21 = Q
    intro mm args H K hk
    simp only [S_impl_BitText] at *
    unfold F_impl_BitText at *
    split at hk
    · exact mm _ _ _ H K hk
    · exact hk.elim
def p_laws_eqBoolS_l1 (l_a : List Bool) (l_b : List Bool) : Nat → Bool → Int → Bool
  | 0, _, _ => false
  | μ + 1, t4, i => (bif decide ((i : Int) < (l_a.length : Int)) then (bif !((((l_a).getD (i : Int).toNat false)) == (((l_b).getD (i : Int).toNat false))) then false else (p_laws_eqBoolS_l1 l_a l_b μ t4 (i + 1))) else true)
theorem p_laws_eqBoolS_l1_s (l_a : List Bool) (l_b : List Bool) (μ : Nat) (t4 : Bool) (i : Int) : p_laws_eqBoolS_l1 l_a l_b (μ + 1) t4 i = (bif decide ((i : Int) < (l_a.length : Int)) then (bif !((((l_a).getD (i : Int).toNat false)) == (((l_b).getD (i : Int).toNat false))) then false else (p_laws_eqBoolS_l1 l_a l_b μ t4 (i + 1))) else true) := rfl
def p_laws_eqBoolS (l_a : List Bool) (l_b : List Bool) : Bool := (bif ((l_a.length : Int) : Int) != (l_b.length : Int) then false else (p_laws_eqBoolS_l1 l_a l_b (Int.toNat ((l_a.length : Int) - (0 : Int)) + 1) false (0 : Int)))
theorem p_laws_eqBoolS_eq (l_a : List Bool) (l_b : List Bool) : p_laws_eqBoolS l_a l_b = (bif ((l_a.length : Int) : Int) != (l_b.length : Int) then false else (p_laws_eqBoolS_l1 l_a l_b (Int.toNat ((l_a.length : Int) - (0 : Int)) + 1) false (0 : Int))) := rfl
def T_laws_eqBoolS (a_a : Option Addr) (a_n : Nat) (a_e : Nat) (b_a : Option Addr) (b_n : Nat) (b_e : Nat) (H : AHeap) (K : Bool → AHeap → Prop) : Prop := ∃ (l_a : List Bool), ∃ (l_b : List Bool), IsL fB H a_a a_n l_a ∧ IsL fB H b_a b_n l_b ∧ l_a.length < 1073741824 ∧ l_b.length < 1073741824 ∧ K (p_laws_eqBoolS l_a l_b) H
theorem T_laws_eqBoolS_i {a_a : Option Addr} {a_n : Nat} {a_e : Nat} {b_a : Option Addr} {b_n : Nat} {b_e : Nat} {H : AHeap} {K : Bool → AHeap → Prop} (h : ∃ (l_a : List Bool), ∃ (l_b : List Bool), IsL fB H a_a a_n l_a ∧ IsL fB H b_a b_n l_b ∧ l_a.length < 1073741824 ∧ l_b.length < 1073741824 ∧ K (p_laws_eqBoolS l_a l_b) H) : T_laws_eqBoolS a_a a_n a_e b_a b_n b_e H K := h
theorem laws_eqBoolS_go (l : List Bool) : ∀ (μ : Nat) (t : Bool) (i : Nat), l.length - i < μ → p_laws_eqBoolS_l1 l l μ t (i : Int) = true := by
  intro μ
  induction μ with
  | zero => intro t i h; omega
  | succ μ ih =>
    intro t i hm
    rw [p_laws_eqBoolS_l1_s]
    by_cases h : i < l.length
    · rw [decide_eq_true (show (i : Int) < (l.length : Int) by omega), cond_true]
      simp only [BEq.rfl, Bool.not_true, cond_false]
      exact ih t (i + 1) (by omega)
    · rw [decide_eq_false (show ¬ (i : Int) < (l.length : Int) by omega), cond_false]
theorem laws_eqBoolS_self (l : List Bool) : p_laws_eqBoolS l l = true := by
  rw [p_laws_eqBoolS_eq]
  have h0 : ((l.length : Int) != (l.length : Int)) = false := by simp
  rw [h0, cond_false]
  exact laws_eqBoolS_go l _ false 0 (by omega)
/-! laws_eqBoolS: function 22 -/
def E_laws_eqBoolS : Env := envOf []
def F_laws_eqBoolS : List Value → AHeap → (Value → AHeap → Prop) → Prop
  | [.slice a_a a_n a_e, .slice b_a b_n b_e], H, K => T_laws_eqBoolS a_a a_n a_e b_a b_n b_e H fun (r1 : Bool) (H' : AHeap) => K (.bool r1) H'
  | _, _, _ => False
def S_laws_eqBoolS : FSpec := ⟨F_laws_eqBoolS, true⟩
theorem laws_eqBoolS_vc (a_a : Option Addr) (a_n : Nat) (a_e : Nat) (b_a : Option Addr) (b_n : Nat) (b_e : Nat) (H : AHeap) (K : Value → AHeap → Prop) : bodyK Try.prog E_laws_eqBoolS Try.f22 [.slice a_a a_n a_e, .slice b_a b_n b_e] H K =
  (Br (((a_n : Int) : Int) != (b_n : Int)) (K (.bool false) H) (loopK (exK Try.prog E_laws_eqBoolS (cl (cl (cr (cl (cr (cr (bodyC Try.f22)))))))) [.slice a_a a_n a_e, .slice b_a b_n b_e, undef, undef, .bool false, .int .i64 0, .slice a_a a_n a_e, .int .i64 (a_n : Int), .slice b_a b_n b_e, .int .i64 (b_n : Int), .bool (((a_n : Int) : Int) != (b_n : Int)), undef, undef, undef, undef, undef, undef, undef, undef, undef, undef, undef, undef, undef, undef, undef] H (blockQ 0 (seqQ (exK Try.prog E_laws_eqBoolS (cr (cr (cr (bodyC Try.f22))))) (retK Try.prog Try.f22 K))))) := by kernel_rfl
theorem laws_eqBoolS_r1 (a_a : Option Addr) (a_e : Nat) (a_n : Nat) (b_a : Option Addr) (b_e : Nat) (b_n : Nat) (t4 : Bool) (i : Int) (g11 g12 g13 g14 g15 g16 g17 g18 g19 g20 g21 g22 g23 g24 g25 : Value) (H : AHeap) (R : Post) : exK Try.prog E_laws_eqBoolS (cl (cl (cr (cl (cr (cr (bodyC Try.f22))))))) [.slice a_a a_n a_e, .slice b_a b_n b_e, undef, undef, .bool t4, .int .i64 i, .slice a_a a_n a_e, .int .i64 (a_n : Int), .slice b_a b_n b_e, .int .i64 (b_n : Int), .bool (((a_n : Int) : Int) != (b_n : Int)), g11, g12, g13, g14, g15, g16, g17, g18, g19, g20, g21, g22, g23, g24, g25] H R =
  (Br (decide ((i : Int) < (a_n : Int))) ((0 : Int) ≤ i ∧ i < (a_n : Int) ∧ ∃ b1 f1, (a_a : Option Addr) = some ⟨b1, f1, none⟩ ∧ ∃ x1 : Bool,  rdC H b1 (f1 + (i : Int).toNat * 1) = some (.bool x1) ∧ (0 : Int) ≤ i ∧ i < (b_n : Int) ∧ ∃ b2 f2, (b_a : Option Addr) = some ⟨b2, f2, none⟩ ∧ ∃ x2 : Bool,  rdC H b2 (f2 + (i : Int).toNat * 1) = some (.bool x2) ∧ Br (!(x1 == x2)) (R .ret [.slice a_a a_n a_e, .slice b_a b_n b_e, undef, undef, .bool false, .int .i64 i, .slice a_a a_n a_e, .int .i64 (a_n : Int), .slice b_a b_n b_e, .int .i64 (b_n : Int), .bool (((a_n : Int) : Int) != (b_n : Int)), .int .i64 i, .slice a_a a_n a_e, .int .i64 (a_n : Int), .bool (decide ((i : Int) < (a_n : Int))), g15, g16, .slice a_a a_n a_e, .int .i64 i, .pointer (some ⟨b1, f1 + (i : Int).toNat * 1, none⟩), .bool x1, .slice b_a b_n b_e, .int .i64 i, .pointer (some ⟨b2, f2 + (i : Int).toNat * 1, none⟩), .bool x2, .bool (!(x1 == x2))] H) (R .normal [.slice a_a a_n a_e, .slice b_a b_n b_e, undef, undef, .bool t4, .int .i64 (IntKind.wrap .i64 (i + 1)), .slice a_a a_n a_e, .int .i64 (a_n : Int), .slice b_a b_n b_e, .int .i64 (b_n : Int), .bool (((a_n : Int) : Int) != (b_n : Int)), .int .i64 i, .slice a_a a_n a_e, .int .i64 (a_n : Int), .bool (decide ((i : Int) < (a_n : Int))), .int .i64 i, .int .i64 (IntKind.wrap .i64 (i + 1)), .slice a_a a_n a_e, .int .i64 i, .pointer (some ⟨b1, f1 + (i : Int).toNat * 1, none⟩), .bool x1, .slice b_a b_n b_e, .int .i64 i, .pointer (some ⟨b2, f2 + (i : Int).toNat * 1, none⟩), .bool x2, .bool (!(x1 == x2))] H)) (R (.exit 0) [.slice a_a a_n a_e, .slice b_a b_n b_e, undef, undef, .bool t4, .int .i64 i, .slice a_a a_n a_e, .int .i64 (a_n : Int), .slice b_a b_n b_e, .int .i64 (b_n : Int), .bool (((a_n : Int) : Int) != (b_n : Int)), .int .i64 i, .slice a_a a_n a_e, .int .i64 (a_n : Int), .bool (decide ((i : Int) < (a_n : Int))), g15, g16, g17, g18, g19, g20, g21, g22, g23, g24, g25] H)) := by kernel_rfl
def laws_eqBoolS_I1 (a_a : Option Addr) (a_e : Nat) (a_n : Nat) (b_a : Option Addr) (b_e : Nat) (b_n : Nat) (Inv : Nat → Bool → Int → AHeap → Prop) : Nat → List Value → AHeap → Prop := fun μ tm H => ∃ (t4 : Bool), ∃ (i : Int), ∃ g11 g12 g13 g14 g15 g16 g17 g18 g19 g20 g21 g22 g23 g24 g25, tm = [.slice a_a a_n a_e, .slice b_a b_n b_e, undef, undef, .bool t4, .int .i64 i, .slice a_a a_n a_e, .int .i64 (a_n : Int), .slice b_a b_n b_e, .int .i64 (b_n : Int), .bool (((a_n : Int) : Int) != (b_n : Int)), g11, g12, g13, g14, g15, g16, g17, g18, g19, g20, g21, g22, g23, g24, g25] ∧ Inv μ t4 i H
theorem laws_eqBoolS_L1 (a_a : Option Addr) (a_e : Nat) (a_n : Nat) (b_a : Option Addr) (b_e : Nat) (b_n : Nat) {Q : Post} (Inv : Nat → Bool → Int → AHeap → Prop) (ν : Nat) (t4 : Bool) (i : Int) (g11 g12 g13 g14 g15 g16 g17 g18 g19 g20 g21 g22 g23 g24 g25 : Value) (H : AHeap) (h0 : Inv ν t4 i H)
    (hs : ∀ (μ : Nat) (t4 : Bool) (i : Int) (g11 g12 g13 g14 g15 g16 g17 g18 g19 g20 g21 g22 g23 g24 g25 : Value) (H : AHeap), Inv μ t4 i H → exK Try.prog E_laws_eqBoolS (cl (cl (cr (cl (cr (cr (bodyC Try.f22))))))) [.slice a_a a_n a_e, .slice b_a b_n b_e, undef, undef, .bool t4, .int .i64 i, .slice a_a a_n a_e, .int .i64 (a_n : Int), .slice b_a b_n b_e, .int .i64 (b_n : Int), .bool (((a_n : Int) : Int) != (b_n : Int)), g11, g12, g13, g14, g15, g16, g17, g18, g19, g20, g21, g22, g23, g24, g25] H (loopQ (laws_eqBoolS_I1 a_a a_e a_n b_a b_e b_n Inv) μ Q)) : loopK (exK Try.prog E_laws_eqBoolS (cl (cl (cr (cl (cr (cr (bodyC Try.f22)))))))) [.slice a_a a_n a_e, .slice b_a b_n b_e, undef, undef, .bool t4, .int .i64 i, .slice a_a a_n a_e, .int .i64 (a_n : Int), .slice b_a b_n b_e, .int .i64 (b_n : Int), .bool (((a_n : Int) : Int) != (b_n : Int)), g11, g12, g13, g14, g15, g16, g17, g18, g19, g20, g21, g22, g23, g24, g25] H Q :=
  ⟨laws_eqBoolS_I1 a_a a_e a_n b_a b_e b_n Inv, ν, ⟨t4, i, g11, g12, g13, g14, g15, g16, g17, g18, g19, g20, g21, g22, g23, g24, g25, rfl, h0⟩, fun μ tm H h => by obtain ⟨t4, i, g11, g12, g13, g14, g15, g16, g17, g18, g19, g20, g21, g22, g23, g24, g25, rfl, hI⟩ := h; exact hs μ t4 i g11 g12 g13 g14 g15 g16 g17 g18 g19 g20 g21 g22 g23 g24 g25 H hI⟩
theorem laws_eqBoolS_n1 {a_a : Option Addr} {a_e : Nat} {a_n : Nat} {b_a : Option Addr} {b_e : Nat} {b_n : Nat} {Q : Post} {Inv : Nat → Bool → Int → AHeap → Prop} {μ : Nat} (μ' : Nat) {t4 : Bool} {i : Int} {g11 g12 g13 g14 g15 g16 g17 g18 g19 g20 g21 g22 g23 g24 g25 : Value} {H : AHeap} (hm : μ' < μ) (hI : Inv μ' t4 i H) : loopQ (laws_eqBoolS_I1 a_a a_e a_n b_a b_e b_n Inv) μ Q .normal [.slice a_a a_n a_e, .slice b_a b_n b_e, undef, undef, .bool t4, .int .i64 i, .slice a_a a_n a_e, .int .i64 (a_n : Int), .slice b_a b_n b_e, .int .i64 (b_n : Int), .bool (((a_n : Int) : Int) != (b_n : Int)), g11, g12, g13, g14, g15, g16, g17, g18, g19, g20, g21, g22, g23, g24, g25] H := ⟨μ', hm, t4, i, g11, g12, g13, g14, g15, g16, g17, g18, g19, g20, g21, g22, g23, g24, g25, rfl, hI⟩
theorem laws_eqBoolS_x1_0 (a_a : Option Addr) (a_e : Nat) (a_n : Nat) (b_a : Option Addr) (b_e : Nat) (b_n : Nat) (t4 : Bool) (i : Int) (g11 g12 g13 g14 g15 g16 g17 g18 g19 g20 g21 g22 g23 g24 g25 : Value) (H : AHeap) (K : Value → AHeap → Prop)  {I : Nat → List Value → AHeap → Prop} {μ : Nat} : loopQ I μ (blockQ 0 (seqQ (exK Try.prog E_laws_eqBoolS (cr (cr (cr (bodyC Try.f22))))) (retK Try.prog Try.f22 K))) (.exit 0) [.slice a_a a_n a_e, .slice b_a b_n b_e, undef, undef, .bool t4, .int .i64 i, .slice a_a a_n a_e, .int .i64 (a_n : Int), .slice b_a b_n b_e, .int .i64 (b_n : Int), .bool (((a_n : Int) : Int) != (b_n : Int)), g11, g12, g13, g14, g15, g16, g17, g18, g19, g20, g21, g22, g23, g24, g25] H =
  (K (.bool true) H) := by kernel_rfl
theorem laws_eqBoolS_x1_ret (a_a : Option Addr) (a_e : Nat) (a_n : Nat) (b_a : Option Addr) (b_e : Nat) (b_n : Nat) (t4 : Bool) (i : Int) (g11 g12 g13 g14 g15 g16 g17 g18 g19 g20 g21 g22 g23 g24 g25 : Value) (H : AHeap) (K : Value → AHeap → Prop)  {I : Nat → List Value → AHeap → Prop} {μ : Nat} : loopQ I μ (blockQ 0 (seqQ (exK Try.prog E_laws_eqBoolS (cr (cr (cr (bodyC Try.f22))))) (retK Try.prog Try.f22 K))) .ret [.slice a_a a_n a_e, .slice b_a b_n b_e, undef, undef, .bool t4, .int .i64 i, .slice a_a a_n a_e, .int .i64 (a_n : Int), .slice b_a b_n b_e, .int .i64 (b_n : Int), .bool (((a_n : Int) : Int) != (b_n : Int)), g11, g12, g13, g14, g15, g16, g17, g18, g19, g20, g21, g22, g23, g24, g25] H =
  (K (.bool t4) H) := by kernel_rfl
theorem E_laws_eqBoolS_ok : ∀ g, FnOk Try.prog g (E_laws_eqBoolS g) := FnOk.envOf (by
  intro x hx; cases hx)
set_option maxHeartbeats 1000000 in
theorem laws_eqBoolS_main (a_a : Option Addr) (a_n : Nat) (a_e : Nat) (b_a : Option Addr) (b_n : Nat) (b_e : Nat) (H : AHeap) (K : Value → AHeap → Prop) (h : T_laws_eqBoolS a_a a_n a_e b_a b_n b_e H fun (r1 : Bool) (H' : AHeap) => K (.bool r1) H') : bodyK Try.prog E_laws_eqBoolS Try.f22 [.slice a_a a_n a_e, .slice b_a b_n b_e] H K := by
  rw [laws_eqBoolS_vc]
  obtain ⟨l_a, l_b, i_a, i_b, bd_13, bd_14, hk⟩ := h
  obtain rfl := i_a.eqn
  obtain rfl := i_b.eqn
  have e : (p_laws_eqBoolS l_a l_b) = _ := rfl
  have e := e.trans (p_laws_eqBoolS_eq l_a l_b)
  have g0 := Grow.refl H
  refine Br.intro (fun c_1 => ?_) (fun c_1 => ?_)
  · have e := e.trans (cond_t c_1)
    have c_1' := ine_t c_1
    rw [e] at hk
    exact hk
  · have e := e.trans (cond_f c_1)
    have c_1' := ine_f c_1
    refine laws_eqBoolS_L1 _ _ _ _ _ _ (fun (μ : Nat) (t4 : Bool) (i : Int) (H_1 : AHeap) => H = H_1 ∧ (0 : Int) ≤ i ∧ i ≤ (l_a.length : Int) ∧ (l_a.length : Int) - i ≤ (μ : Int) ∧ p_laws_eqBoolS l_a l_b = p_laws_eqBoolS_l1 l_a l_b (μ + 1) t4 i) (Int.toNat ((l_a.length : Int) - (0 : Int))) _ _ _ _ _ _ _ _ _ _ _ _ _ _ _ _ _ H ?_ ?_
    · exact ⟨rfl, (by first | omega | (simp; done) | (simp; omega)), (by first | omega | (simp; done) | (simp; omega)), (by omega), e⟩
    · intro μ t4 i g11 g12 g13 g14 g15 g16 g17 g18 g19 g20 g21 g22 g23 g24 g25 H_1 hI
      obtain ⟨rfl, v_2, v_3, hμ, e⟩ := hI
      rw [laws_eqBoolS_r1]
      have e := e.trans (p_laws_eqBoolS_l1_s l_a l_b μ t4 i)
      have l_4 := g0.1
      refine Br.intro (fun c_5 => ?_) (fun c_5 => ?_)
      · have e := e.trans (cond_t c_5)
        have c_5' := of_decide_eq_true c_5
        obtain ⟨b_6, f_7, q_8⟩ := (i_a).pos (by omega)
        refine ⟨by omega, by omega, b_6, f_7, q_8, ?_⟩
        refine ⟨((l_a).getD (i : Int).toNat false), (i_a).rd g0 q_8 (by omega) _, ?_⟩
        obtain ⟨b_9, f_10, q_11⟩ := (i_b).pos (by omega)
        refine ⟨by omega, by omega, b_9, f_10, q_11, ?_⟩
        refine ⟨((l_b).getD (i : Int).toNat false), (i_b).rd g0 q_11 (by omega) _, ?_⟩
        refine Br.intro (fun c_12 => ?_) (fun c_12 => ?_)
        · have e := e.trans (cond_t c_12)
          have c_12n := nf_of_t c_12
          rw [laws_eqBoolS_x1_ret]
          rw [e] at hk
          exact hk
        · have e := e.trans (cond_f c_12)
          have c_12n := nt_of_f c_12
          rw [show IntKind.wrap .i64 (i + 1) = (i + 1) from wrap64 (by omega) (by omega)]
          refine laws_eqBoolS_n1 (μ - 1) (by omega) ⟨rfl, (by first | omega | (simp only [List.length_append, List.length_cons, List.length_nil, List.length_set]; done) | (simp only [List.length_append, List.length_cons, List.length_nil, List.length_set]; omega)), (by first | omega | (simp only [List.length_append, List.length_cons, List.length_nil, List.length_set]; done) | (simp only [List.length_append, List.length_cons, List.length_nil, List.length_set]; omega)), (by omega), (by rw [show μ - 1 + 1 = μ from by omega]; exact e)⟩
      · have e := e.trans (cond_f c_5)
        have c_5' := of_decide_eq_false c_5
        rw [laws_eqBoolS_x1_0]
        rw [e] at hk
        exact hk
theorem laws_eqBoolS_ok : FnOk Try.prog 22 S_laws_eqBoolS := by
  refine FnOk.body mix_ok E_laws_eqBoolS_ok Try.func22 rfl (by kernel_rfl) (by kernel_rfl) ?_ ?_ ?_ ?_
  · intro args H K K' h hk
    simp only [S_laws_eqBoolS] at *
    unfold F_laws_eqBoolS at *
    split at hk
    · obtain ⟨l_a, l_b, i_a, i_b, bd_13, bd_14, k⟩ := hk
      exact ⟨l_a, l_b, i_a, i_b, bd_13, bd_14, h _ _ k⟩
    · exact hk.elim
  · intro _ args H K hk
    simp only [S_laws_eqBoolS] at *
    unfold F_laws_eqBoolS at *
    split at hk
    · obtain ⟨l_a, l_b, i_a, i_b, bd_13, bd_14, k⟩ := hk
      exact ⟨_, k, fun K' k' => ⟨l_a, l_b, i_a, i_b, bd_13, bd_14, k'⟩⟩
    · exact hk.elim
  · intro args H K hk
    simp only [S_laws_eqBoolS] at *
    unfold F_laws_eqBoolS at *
    split at hk
    · obtain ⟨l_a, l_b, i_a, i_b, bd_13, bd_14, k⟩ := hk
      exact ⟨_, _, k⟩
    · exact hk.elim
  · have mm := @laws_eqBoolS_main
    revert mm
    generalize bodyK Try.prog E_laws_eqBoolS Try.f22 = Q
    intro mm args H K hk
    simp only [S_laws_eqBoolS] at *
    unfold F_laws_eqBoolS at *
    split at hk
    · exact mm _ _ _ _ _ _ H K hk
    · exact hk.elim
def p_laws_FnExactBitText (l_aBits : List Bool) : Bool := (bif decide ((1048576 : Int) < (l_aBits.length : Int)) then true else (bif !(((p_impl_BitText l_aBits).1 : ByteArray).toList == ((p_spec_BitText l_aBits).1 : ByteArray).toList) then false else (bif !(((p_impl_BitText l_aBits).2) == ((p_spec_BitText l_aBits).2)) then false else (bif !(p_laws_eqBoolS l_aBits l_aBits) then false else true))))
theorem p_laws_FnExactBitText_eq (l_aBits : List Bool) : p_laws_FnExactBitText l_aBits = (bif decide ((1048576 : Int) < (l_aBits.length : Int)) then true else (bif !(((p_impl_BitText l_aBits).1 : ByteArray).toList == ((p_spec_BitText l_aBits).1 : ByteArray).toList) then false else (bif !(((p_impl_BitText l_aBits).2) == ((p_spec_BitText l_aBits).2)) then false else (bif !(p_laws_eqBoolS l_aBits l_aBits) then false else true)))) := rfl
def T_laws_FnExactBitText (aBits_a : Option Addr) (aBits_n : Nat) (aBits_e : Nat) (H : AHeap) (K : Bool → AHeap → Prop) : Prop := ∃ l_aBits : List Bool, IsL fB H aBits_a aBits_n l_aBits ∧ ∀ H' : AHeap, K true H'
theorem bitText_go (l : List Bool) : ∀ (μ : Nat) (v : List UInt8) (i : Nat), l.length - i < μ → p_impl_BitText_l1 l μ v (i : Int) = (p_spec_l06Text_l1 l μ v (i : Int), true) := by
  intro μ
  induction μ with
  | zero => intro v i h; omega
  | succ μ ih =>
    intro v i hm
    rw [p_impl_BitText_l1_s, p_spec_l06Text_l1_s]
    by_cases h : i < l.length
    · rw [decide_eq_true (show (i : Int) < (l.length : Int) by omega), cond_true, cond_true]
      have h1 := fun w => ih w (i + 1) (by omega)
      cases l.getD (i : Int).toNat false
      · exact h1 _
      · exact h1 _
    · rw [decide_eq_false (show ¬ (i : Int) < (l.length : Int) by omega), cond_false, cond_false]
theorem bitText_same (l : List Bool) : p_impl_BitText l = p_spec_BitText l := by
  rw [p_impl_BitText_eq, show p_spec_BitText l = _ from p_spec_BitText_eq l, p_spec_l06Text_eq]
  have := bitText_go l (Int.toNat ((l.length : Int) - (0 : Int)) + 1) [] 0 (by omega)
  cases decide ((32768 : Int) < (l.length : Int))
  · exact this
  · rfl
theorem laws_FnExactBitText_true (l : List Bool) : p_laws_FnExactBitText l = true := by
  rw [p_laws_FnExactBitText_eq, bitText_same, laws_eqBoolS_self]
  cases decide ((1048576 : Int) < (l.length : Int)) <;> simp
/-! laws_FnExactBitText: function 5 -/
def E_laws_FnExactBitText : Env := envOf [(20, S_laws_toBoolS), (19, S_spec_BitText), (21, S_impl_BitText), (22, S_laws_eqBoolS)]
def F_laws_FnExactBitText : List Value → AHeap → (Value → AHeap → Prop) → Prop
  | [.slice aBits_a aBits_n aBits_e], H, K => T_laws_FnExactBitText aBits_a aBits_n aBits_e H fun (r1 : Bool) (H' : AHeap) => K (.bool r1) H'
  | _, _, _ => False
def S_laws_FnExactBitText : FSpec := ⟨F_laws_FnExactBitText, false⟩
theorem laws_FnExactBitText_vc (aBits_a : Option Addr) (aBits_n : Nat) (aBits_e : Nat) (H : AHeap) (K : Value → AHeap → Prop) : bodyK Try.prog E_laws_FnExactBitText Try.f5 [.slice aBits_a aBits_n aBits_e] H K =
  (Br (decide ((1048576 : Int) < (aBits_n : Int))) (K (.bool true) H) (T_laws_toBoolS aBits_a aBits_n aBits_e H fun (a1 : Option Addr) (r1 : Nat) (r2 : Nat) (H1 : AHeap) => T_spec_BitText a1 r1 r2 H1 fun (r3 : ByteArray) (r4 : Bool) (H2 : AHeap) => T_laws_toBoolS aBits_a aBits_n aBits_e H2 fun (a2 : Option Addr) (r5 : Nat) (r6 : Nat) (H3 : AHeap) => T_impl_BitText a2 r5 r6 H3 fun (r7 : ByteArray) (r8 : Bool) (H4 : AHeap) => Br (!((r7 : ByteArray).toList == (r3 : ByteArray).toList)) (K (.bool false) H4) (Br (!(r8 == r4)) (K (.bool false) H4) (T_laws_toBoolS aBits_a aBits_n aBits_e H4 fun (a3 : Option Addr) (r9 : Nat) (r10 : Nat) (H5 : AHeap) => T_laws_eqBoolS a2 r5 r6 a3 r9 r10 H5 fun (r11 : Bool) (H6 : AHeap) => Br (!r11) (K (.bool false) H6) (K (.bool true) H6))))) := by kernel_rfl
theorem E_laws_FnExactBitText_ok : ∀ g, FnOk Try.prog g (E_laws_FnExactBitText g) := FnOk.envOf (by
  intro x hx
  simp only [List.mem_cons, List.not_mem_nil, or_false] at hx
  rcases hx with rfl | rfl | rfl | rfl
  · exact laws_toBoolS_ok
  · exact spec_BitText_ok
  · exact impl_BitText_ok
  · exact laws_eqBoolS_ok)
set_option maxHeartbeats 1000000 in
theorem laws_FnExactBitText_main (aBits_a : Option Addr) (aBits_n : Nat) (aBits_e : Nat) (H : AHeap) (K : Value → AHeap → Prop) (h : T_laws_FnExactBitText aBits_a aBits_n aBits_e H fun (r1 : Bool) (H' : AHeap) => K (.bool r1) H') : bodyK Try.prog E_laws_FnExactBitText Try.f5 [.slice aBits_a aBits_n aBits_e] H K := by
  rw [laws_FnExactBitText_vc]
  obtain ⟨l_aBits, h_0, hk⟩ := h
  have i_aBits := h_0
  obtain rfl := i_aBits.eqn
  have hl := laws_FnExactBitText_true l_aBits 
  have e : p_laws_FnExactBitText l_aBits = _ := rfl
  have e := e.trans (p_laws_FnExactBitText_eq l_aBits)
  have e := hl.symm.trans e
  have g0 := Grow.refl H
  refine Br.intro (fun c_1 => ?_) (fun c_1 => ?_)
  · have e := e.trans (cond_t c_1)
    have c_1' := of_decide_eq_true c_1
    first | exact hk _ | (exfalso; cases e; done) | (rw [← e]; exact hk _)
  · have e := e.trans (cond_f c_1)
    have c_1' := of_decide_eq_false c_1
    refine T_laws_toBoolS_i ⟨_, (i_aBits.grow g0), (by first | omega | (simp only [List.length_set, List.length_replicate, List.length_append, List.length_cons, List.length_nil]; done) | (simp only [List.length_set, List.length_replicate, List.length_append, List.length_cons, List.length_nil]; omega)), fun a_2 n_3 e_4 H_1 g_6 r_5 => ?_⟩
    have g_7 := g0.trans g_6
    have l_8 := g_7.1
    have g_9 := Grow.refl H_1
    rw [laws_toBoolS_id l_aBits] at r_5
    have r_5i := r_5.isL
    obtain rfl := r_5i.eqn
    refine T_spec_BitText_i ⟨_, (r_5i.grow g_9), (by first | omega | (simp only [List.length_set, List.length_replicate, List.length_append, List.length_cons, List.length_nil]; done) | (simp only [List.length_set, List.length_replicate, List.length_append, List.length_cons, List.length_nil]; omega)), fun  H_2 g_10  => ?_⟩
    have g_11 := g_7.trans g_10
    have l_12 := g_11.1
    have g_13 := g_9.trans g_10
    have l_14 := g_13.1
    refine T_laws_toBoolS_i ⟨_, (i_aBits.grow g_11), (by first | omega | (simp only [List.length_set, List.length_replicate, List.length_append, List.length_cons, List.length_nil]; done) | (simp only [List.length_set, List.length_replicate, List.length_append, List.length_cons, List.length_nil]; omega)), fun a_15 n_16 e_17 H_3 g_19 r_18 => ?_⟩
    have g_20 := g_11.trans g_19
    have l_21 := g_20.1
    have g_22 := g_13.trans g_19
    have l_23 := g_22.1
    have g_24 := Grow.refl H_3
    rw [laws_toBoolS_id l_aBits] at r_18
    have r_18i := r_18.isL
    obtain rfl := r_18i.eqn
    refine T_impl_BitText_i ⟨_, (r_18i.grow g_24), (by first | omega | (simp only [List.length_set, List.length_replicate, List.length_append, List.length_cons, List.length_nil]; done) | (simp only [List.length_set, List.length_replicate, List.length_append, List.length_cons, List.length_nil]; omega)), fun  H_4 g_25  => ?_⟩
    have g_26 := g_20.trans g_25
    have l_27 := g_26.1
    have g_28 := g_22.trans g_25
    have l_29 := g_28.1
    have g_30 := g_24.trans g_25
    have l_31 := g_30.1
    refine Br.intro (fun c_32 => ?_) (fun c_32 => ?_)
    · have e := e.trans (cond_t c_32)
      have c_32n := nf_of_t c_32
      first | exact hk _ | (exfalso; cases e; done) | (rw [← e]; exact hk _)
    · have e := e.trans (cond_f c_32)
      have c_32n := nt_of_f c_32
      refine Br.intro (fun c_33 => ?_) (fun c_33 => ?_)
      · have e := e.trans (cond_t c_33)
        have c_33n := nf_of_t c_33
        first | exact hk _ | (exfalso; cases e; done) | (rw [← e]; exact hk _)
      · have e := e.trans (cond_f c_33)
        have c_33n := nt_of_f c_33
        refine T_laws_toBoolS_i ⟨_, (i_aBits.grow g_26), (by first | omega | (simp only [List.length_set, List.length_replicate, List.length_append, List.length_cons, List.length_nil]; done) | (simp only [List.length_set, List.length_replicate, List.length_append, List.length_cons, List.length_nil]; omega)), fun a_34 n_35 e_36 H_5 g_38 r_37 => ?_⟩
        have g_39 := g_26.trans g_38
        have l_40 := g_39.1
        have g_41 := g_28.trans g_38
        have l_42 := g_41.1
        have g_43 := g_30.trans g_38
        have l_44 := g_43.1
        have g_45 := Grow.refl H_5
        rw [laws_toBoolS_id l_aBits] at r_37
        have r_37i := r_37.isL
        obtain rfl := r_37i.eqn
        refine T_laws_eqBoolS_i ⟨_, _, (r_18i.grow g_43), (r_37i.grow g_45), (by first | omega | (simp only [List.length_set, List.length_replicate, List.length_append, List.length_cons, List.length_nil]; done) | (simp only [List.length_set, List.length_replicate, List.length_append, List.length_cons, List.length_nil]; omega)), (by first | omega | (simp only [List.length_set, List.length_replicate, List.length_append, List.length_cons, List.length_nil]; done) | (simp only [List.length_set, List.length_replicate, List.length_append, List.length_cons, List.length_nil]; omega)), ?_⟩
        refine Br.intro (fun c_46 => ?_) (fun c_46 => ?_)
        · have e := e.trans (cond_t c_46)
          have c_46n := nf_of_t c_46
          first | exact hk _ | (exfalso; cases e; done) | (rw [← e]; exact hk _)
        · have e := e.trans (cond_f c_46)
          have c_46n := nt_of_f c_46
          first | exact hk _ | (exfalso; cases e; done) | (rw [← e]; exact hk _)
theorem laws_FnExactBitText_ok : FnOk Try.prog 5 S_laws_FnExactBitText := by
  refine FnOk.body mix_ok E_laws_FnExactBitText_ok Try.func5 rfl (by kernel_rfl) (by kernel_rfl) ?_ ?_ ?_ ?_
  · intro args H K K' h hk
    simp only [S_laws_FnExactBitText] at *
    unfold F_laws_FnExactBitText at *
    split at hk
    · obtain ⟨l_aBits, h_0, k⟩ := hk
      exact ⟨l_aBits, h_0, (fun H' => h _ _ (k H'))⟩
    · exact hk.elim
  · intro hq; cases hq
  · intro args H K hk
    simp only [S_laws_FnExactBitText] at *
    unfold F_laws_FnExactBitText at *
    split at hk
    · obtain ⟨l_aBits, h_0, k⟩ := hk
      exact ⟨_, _, k []⟩
    · exact hk.elim
  · have mm := @laws_FnExactBitText_main
    revert mm
    generalize bodyK Try.prog E_laws_FnExactBitText Try.f5 = Q
    intro mm args H K hk
    simp only [S_laws_FnExactBitText] at *
    unfold F_laws_FnExactBitText at *
    split at hk
    · exact mm _ _ _ H K hk
    · exact hk.elim
end Go.Proofs.Ytfofkmlohmodeaa.Ai
