/- What functions of the program come to on the abstract machine, and that they do so; printed by a program of mine around proofs of mine. -/
import Derived.Test.YtfofkmlohmodeabProg
import Derived.Test.YtfofkmlohmodeabLibA
import Derived.Test.YtfofkmlohmodeabOpen
import Derived.Test.YtfofkmlohmodeabLibB
import Derived.Test.YtfofkmlohmodeabFl
set_option linter.unusedVariables false
set_option linter.unusedSimpArgs false
set_option maxRecDepth 100000
namespace Go.Proofs.Ytfofkmlohmodeab.Ai
open Go
attribute [local irreducible] bodyK
theorem mix_ok : Try.prog.follows .mixedOrders = true := by kernel_rfl
def p_laws_toFloat32S_l1 (l_a : List Nat) : Nat → Int → (List Nat) → (List Nat)
  | 0, _, _ => []
  | μ + 1, i, y1_1 => (bif decide ((i : Int) < (l_a.length : Int)) then (p_laws_toFloat32S_l1 l_a μ (i + 1) (((y1_1).set (i : Int).toNat ((((l_a).getD (i : Int).toNat 0)))))) else y1_1)
theorem p_laws_toFloat32S_l1_s (l_a : List Nat) (μ : Nat) (i : Int) (y1_1 : List Nat) : p_laws_toFloat32S_l1 l_a (μ + 1) i y1_1 = (bif decide ((i : Int) < (l_a.length : Int)) then (p_laws_toFloat32S_l1 l_a μ (i + 1) (((y1_1).set (i : Int).toNat ((((l_a).getD (i : Int).toNat 0)))))) else y1_1) := rfl
def p_laws_toFloat32S (l_a : List Nat) : (List Nat) := (p_laws_toFloat32S_l1 l_a (Int.toNat ((l_a.length : Int) - (0 : Int)) + 1) (0 : Int) (List.replicate (((l_a.length : Int)).toNat) 0))
theorem p_laws_toFloat32S_eq (l_a : List Nat) : p_laws_toFloat32S l_a = (p_laws_toFloat32S_l1 l_a (Int.toNat ((l_a.length : Int) - (0 : Int)) + 1) (0 : Int) (List.replicate (((l_a.length : Int)).toNat) 0)) := rfl
def T_laws_toFloat32S (a_a : Option Addr) (a_n : Nat) (a_e : Nat) (H : AHeap) (K : (Option Addr) → Nat → Nat → AHeap → Prop) : Prop := ∃ (l_a : List Nat), IsL fF H a_a a_n l_a ∧ l_a.length < 1073741824 ∧ ((∀ (r1_a : Option Addr) (r1_n r1_e : Nat), ∀ H' : AHeap, Grow H H' → OwnS fF H' H.length r1_a r1_n r1_e l_a → K r1_a r1_n r1_e H'))
theorem T_laws_toFloat32S_i {a_a : Option Addr} {a_n : Nat} {a_e : Nat} {H : AHeap} {K : (Option Addr) → Nat → Nat → AHeap → Prop} (h : ∃ (l_a : List Nat), IsL fF H a_a a_n l_a ∧ l_a.length < 1073741824 ∧ ((∀ (r1_a : Option Addr) (r1_n r1_e : Nat), ∀ H' : AHeap, Grow H H' → OwnS fF H' H.length r1_a r1_n r1_e l_a → K r1_a r1_n r1_e H'))) : T_laws_toFloat32S a_a a_n a_e H K := h
theorem laws_toFloat32S_go (l : List Nat) : ∀ (μ : Nat) (i : Nat) (ys : List Nat), ys.length = l.length → i ≤ l.length → l.length - i < μ →
    p_laws_toFloat32S_l1 l μ (i : Int) (l.take i ++ ys.drop i) = l := by
  intro μ
  induction μ with
  | zero => intro i ys _ _ h; omega
  | succ μ ih =>
    intro i ys hy hi hm
    rw [p_laws_toFloat32S_l1_s]
    by_cases h : i < l.length
    · rw [decide_eq_true (show (i : Int) < (l.length : Int) by omega), cond_true]
      have hx : l[i]? = some (l.getD i 0) := by rw [List.getD_eq_getElem?_getD, List.getElem?_eq_getElem h]; rfl
      rw [Int.toNat_natCast, set_front l ys i (by omega) hy.symm _ hx]
      exact ih (i + 1) ys hy (by omega) (by omega)
    · rw [decide_eq_false (show ¬ (i : Int) < (l.length : Int) by omega), cond_false]
      rw [List.take_of_length_le (by omega), List.drop_eq_nil_of_le (by omega), List.append_nil]
theorem laws_toFloat32S_id (l : List Nat) : p_laws_toFloat32S l = l := by
  rw [p_laws_toFloat32S_eq]
  have := laws_toFloat32S_go l (Int.toNat ((l.length : Int) - 0) + 1) 0 (List.replicate ((l.length : Int)).toNat 0) (by simp) (by omega) (by omega)
  simpa using this
/-! laws_toFloat32S: function 22 -/
def E_laws_toFloat32S : Env := envOf []
def F_laws_toFloat32S : List Value → AHeap → (Value → AHeap → Prop) → Prop
  | [.slice a_a a_n a_e], H, K => T_laws_toFloat32S a_a a_n a_e H fun (r1_a : Option Addr) (r1_n : Nat) (r1_e : Nat) (H' : AHeap) => K (.slice r1_a r1_n r1_e) H'
  | _, _, _ => False
def S_laws_toFloat32S : FSpec := { F := F_laws_toFloat32S, quiet := false, tame := true }
theorem laws_toFloat32S_vc (a_a : Option Addr) (a_n : Nat) (a_e : Nat) (H : AHeap) (K : Value → AHeap → Prop) : bodyK Try.prog E_laws_toFloat32S Try.f22 [.slice a_a a_n a_e] H K =
  ((0 : Int) ≤ (a_n : Int) ∧ (a_n : Int) = (a_n : Int) ∧ (a_n : Int) < (most : Int) ∧ Al (zerosOf (.float .f32 0) ((a_n : Int)).toNat) H fun b1 H1 => loopK (exK Try.prog E_laws_toFloat32S (cl (cl (cr (cl (cr (cr (bodyC Try.f22)))))))) [.slice a_a a_n a_e, undef, .slice none 0 0, .slice (some ⟨b1, 0, none⟩) (((a_n : Int)).toNat) 1, .int .i64 0, .slice a_a a_n a_e, .int .i64 (a_n : Int), .slice (some ⟨b1, 0, none⟩) (((a_n : Int)).toNat) 1, undef, undef, undef, undef, undef, undef, undef, undef, undef, undef, undef, undef, undef, undef] H1 (blockQ 0 (seqQ (exK Try.prog E_laws_toFloat32S (cr (cr (cr (bodyC Try.f22))))) (retK Try.prog Try.f22 K)))) := by kernel_rfl
theorem laws_toFloat32S_r1 (a_a : Option Addr) (a_e : Nat) (a_n : Nat) (b1 : Nat) (i : Int) (g8 g9 g10 g11 g12 g13 g14 g15 g16 g17 g18 g19 g20 : Value) (H : AHeap) (R : Post) : exK Try.prog E_laws_toFloat32S (cl (cl (cr (cl (cr (cr (bodyC Try.f22))))))) [.slice a_a a_n a_e, undef, .slice none 0 0, .slice (some ⟨b1, 0, none⟩) (((a_n : Int)).toNat) 1, .int .i64 i, .slice a_a a_n a_e, .int .i64 (a_n : Int), .slice (some ⟨b1, 0, none⟩) (((a_n : Int)).toNat) 1, g8, g9, g10, g11, g12, g13, g14, g15, g16, g17, g18, g19, g20, undef] H R =
  (Br (decide ((i : Int) < (a_n : Int))) ((0 : Int) ≤ i ∧ i < (a_n : Int) ∧ ∃ b2 f1, (a_a : Option Addr) = some ⟨b2, f1, none⟩ ∧ ∃ x1 : Nat,  rdC H b2 (f1 + (i : Int).toNat * 1) = some (.float .f32 x1) ∧ (0 : Int) ≤ i ∧ i < (((a_n : Int)).toNat : Int) ∧ ∃ b3 f2, (some ⟨b1, 0, none⟩ : Option Addr) = some ⟨b3, f2, none⟩ ∧ isOwn H b3 ∧ (∃ l, rdN H b3 (f2 + (i : Int).toNat * 1) 1 = some l) ∧ Lt (setC H b3 (f2 + (i : Int).toNat * 1) (.float .f32 x1)) fun H2 => R .normal [.slice a_a a_n a_e, undef, .slice none 0 0, .slice (some ⟨b1, 0, none⟩) (((a_n : Int)).toNat) 1, .int .i64 (IntKind.wrap .i64 (i + 1)), .slice a_a a_n a_e, .int .i64 (a_n : Int), .slice (some ⟨b1, 0, none⟩) (((a_n : Int)).toNat) 1, .int .i64 i, .slice a_a a_n a_e, .int .i64 (a_n : Int), .bool (decide ((i : Int) < (a_n : Int))), .int .i64 i, .int .i64 (IntKind.wrap .i64 (i + 1)), .slice (some ⟨b1, 0, none⟩) (((a_n : Int)).toNat) 1, .int .i64 i, .slice a_a a_n a_e, .int .i64 i, .pointer (some ⟨b2, f1 + (i : Int).toNat * 1, none⟩), .float .f32 x1, .pointer (some ⟨b3, f2 + (i : Int).toNat * 1, none⟩), undef] H2) (R (.exit 0) [.slice a_a a_n a_e, undef, .slice none 0 0, .slice (some ⟨b1, 0, none⟩) (((a_n : Int)).toNat) 1, .int .i64 i, .slice a_a a_n a_e, .int .i64 (a_n : Int), .slice (some ⟨b1, 0, none⟩) (((a_n : Int)).toNat) 1, .int .i64 i, .slice a_a a_n a_e, .int .i64 (a_n : Int), .bool (decide ((i : Int) < (a_n : Int))), g12, g13, g14, g15, g16, g17, g18, g19, g20, undef] H)) := by kernel_rfl
def laws_toFloat32S_I1 (a_a : Option Addr) (a_e : Nat) (a_n : Nat) (b1 : Nat) (Inv : Nat → Int → AHeap → Prop) : Nat → List Value → AHeap → Prop := fun μ tm H => ∃ (i : Int), ∃ g8 g9 g10 g11 g12 g13 g14 g15 g16 g17 g18 g19 g20, tm = [.slice a_a a_n a_e, undef, .slice none 0 0, .slice (some ⟨b1, 0, none⟩) (((a_n : Int)).toNat) 1, .int .i64 i, .slice a_a a_n a_e, .int .i64 (a_n : Int), .slice (some ⟨b1, 0, none⟩) (((a_n : Int)).toNat) 1, g8, g9, g10, g11, g12, g13, g14, g15, g16, g17, g18, g19, g20, undef] ∧ Inv μ i H
theorem laws_toFloat32S_L1 (a_a : Option Addr) (a_e : Nat) (a_n : Nat) (b1 : Nat) {Q : Post} (Inv : Nat → Int → AHeap → Prop) (ν : Nat) (i : Int) (g8 g9 g10 g11 g12 g13 g14 g15 g16 g17 g18 g19 g20 : Value) (H : AHeap) (h0 : Inv ν i H)
    (hs : ∀ (μ : Nat) (i : Int) (g8 g9 g10 g11 g12 g13 g14 g15 g16 g17 g18 g19 g20 : Value) (H : AHeap), Inv μ i H → exK Try.prog E_laws_toFloat32S (cl (cl (cr (cl (cr (cr (bodyC Try.f22))))))) [.slice a_a a_n a_e, undef, .slice none 0 0, .slice (some ⟨b1, 0, none⟩) (((a_n : Int)).toNat) 1, .int .i64 i, .slice a_a a_n a_e, .int .i64 (a_n : Int), .slice (some ⟨b1, 0, none⟩) (((a_n : Int)).toNat) 1, g8, g9, g10, g11, g12, g13, g14, g15, g16, g17, g18, g19, g20, undef] H (loopQ (laws_toFloat32S_I1 a_a a_e a_n b1 Inv) μ Q)) : loopK (exK Try.prog E_laws_toFloat32S (cl (cl (cr (cl (cr (cr (bodyC Try.f22)))))))) [.slice a_a a_n a_e, undef, .slice none 0 0, .slice (some ⟨b1, 0, none⟩) (((a_n : Int)).toNat) 1, .int .i64 i, .slice a_a a_n a_e, .int .i64 (a_n : Int), .slice (some ⟨b1, 0, none⟩) (((a_n : Int)).toNat) 1, g8, g9, g10, g11, g12, g13, g14, g15, g16, g17, g18, g19, g20, undef] H Q :=
  ⟨laws_toFloat32S_I1 a_a a_e a_n b1 Inv, ν, ⟨i, g8, g9, g10, g11, g12, g13, g14, g15, g16, g17, g18, g19, g20, rfl, h0⟩, fun μ tm H h => by obtain ⟨i, g8, g9, g10, g11, g12, g13, g14, g15, g16, g17, g18, g19, g20, rfl, hI⟩ := h; exact hs μ i g8 g9 g10 g11 g12 g13 g14 g15 g16 g17 g18 g19 g20 H hI⟩
theorem laws_toFloat32S_n1 {a_a : Option Addr} {a_e : Nat} {a_n : Nat} {b1 : Nat} {Q : Post} {Inv : Nat → Int → AHeap → Prop} {μ : Nat} (μ' : Nat) {i : Int} {g8 g9 g10 g11 g12 g13 g14 g15 g16 g17 g18 g19 g20 : Value} {H : AHeap} (hm : μ' < μ) (hI : Inv μ' i H) : loopQ (laws_toFloat32S_I1 a_a a_e a_n b1 Inv) μ Q .normal [.slice a_a a_n a_e, undef, .slice none 0 0, .slice (some ⟨b1, 0, none⟩) (((a_n : Int)).toNat) 1, .int .i64 i, .slice a_a a_n a_e, .int .i64 (a_n : Int), .slice (some ⟨b1, 0, none⟩) (((a_n : Int)).toNat) 1, g8, g9, g10, g11, g12, g13, g14, g15, g16, g17, g18, g19, g20, undef] H := ⟨μ', hm, i, g8, g9, g10, g11, g12, g13, g14, g15, g16, g17, g18, g19, g20, rfl, hI⟩
theorem laws_toFloat32S_x1_0 (a_a : Option Addr) (a_e : Nat) (a_n : Nat) (b1 : Nat) (i : Int) (g8 g9 g10 g11 g12 g13 g14 g15 g16 g17 g18 g19 g20 : Value) (H : AHeap) (K : Value → AHeap → Prop)  {I : Nat → List Value → AHeap → Prop} {μ : Nat} : loopQ I μ (blockQ 0 (seqQ (exK Try.prog E_laws_toFloat32S (cr (cr (cr (bodyC Try.f22))))) (retK Try.prog Try.f22 K))) (.exit 0) [.slice a_a a_n a_e, undef, .slice none 0 0, .slice (some ⟨b1, 0, none⟩) (((a_n : Int)).toNat) 1, .int .i64 i, .slice a_a a_n a_e, .int .i64 (a_n : Int), .slice (some ⟨b1, 0, none⟩) (((a_n : Int)).toNat) 1, g8, g9, g10, g11, g12, g13, g14, g15, g16, g17, g18, g19, g20, undef] H =
  (K (.slice (some ⟨b1, 0, none⟩) (((a_n : Int)).toNat) 1) H) := by kernel_rfl
theorem E_laws_toFloat32S_ok : ∀ g, FnOk Try.prog g (E_laws_toFloat32S g) := FnOk.envOf (by
  intro x hx; cases hx)
set_option maxHeartbeats 1000000 in
theorem laws_toFloat32S_main (a_a : Option Addr) (a_n : Nat) (a_e : Nat) (H : AHeap) (K : Value → AHeap → Prop) (h : T_laws_toFloat32S a_a a_n a_e H fun (r1_a : Option Addr) (r1_n : Nat) (r1_e : Nat) (H' : AHeap) => K (.slice r1_a r1_n r1_e) H') : bodyK Try.prog E_laws_toFloat32S Try.f22 [.slice a_a a_n a_e] H K := by
  rw [laws_toFloat32S_vc]
  obtain ⟨l_a, i_a, bd_29, hk⟩ := h
  have hk : (∀ (r1_a : Option Addr) (r1_n r1_e : Nat), ∀ H' : AHeap, Grow H H' → OwnS fF H' H.length r1_a r1_n r1_e (p_laws_toFloat32S l_a) → (fun (r1_a : Option Addr) (r1_n : Nat) (r1_e : Nat) (H' : AHeap) => K (.slice r1_a r1_n r1_e) H') r1_a r1_n r1_e H') := by rw [laws_toFloat32S_id l_a]; exact hk
  obtain rfl := i_a.eqn
  have e : (p_laws_toFloat32S l_a) = _ := rfl
  have e := e.trans (p_laws_toFloat32S_eq l_a)
  have g0 := Grow.refl H
  refine ⟨by omega, rfl, (by have := most_eq; omega), ?_⟩
  refine Al.intro (fun b_1 H_1 hb_2 hl_3 g_4 o_5 => ?_)
  rw [zeros_map fF 0 _ rfl] at o_5
  have l_7 := g_4.1
  have g_8 := g0.trans g_4
  have l_9 := g_8.1
  have w_28 := o_5.lt
  refine laws_toFloat32S_L1 _ _ _ _ (fun (μ : Nat) (i : Int) (H_2 : AHeap) => ∃ (y1_1 : List Nat), Own H_2 b_1 (y1_1.map fF) ∧ y1_1.length = ((l_a.length : Int)).toNat ∧ Grow H H_2 ∧ (0 : Int) ≤ i ∧ i ≤ (l_a.length : Int) ∧ (l_a.length : Int) - i ≤ (μ : Int) ∧ p_laws_toFloat32S l_a = p_laws_toFloat32S_l1 l_a (μ + 1) i y1_1) (Int.toNat ((l_a.length : Int) - (0 : Int))) _ _ _ _ _ _ _ _ _ _ _ _ _ _ H_1 ?_ ?_
  · exact ⟨_, o_5, (by first | rfl | (simp; done)), g_8, (by first | omega | (simp; done) | (simp; omega)), (by first | omega | (simp; done) | (simp; omega)), (by omega), e⟩
  · intro μ i g8 g9 g10 g11 g12 g13 g14 g15 g16 g17 g18 g19 g20 H_2 hI
    obtain ⟨y1_1, o_10, y_11, g_12, v_13, v_14, hμ, e⟩ := hI
    rw [laws_toFloat32S_r1]
    have e := e.trans (p_laws_toFloat32S_l1_s l_a μ i y1_1)
    have w_15 := o_10.lt
    have l_16 := g_12.1
    refine Br.intro (fun c_17 => ?_) (fun c_17 => ?_)
    · have e := e.trans (cond_t c_17)
      have c_17' := of_decide_eq_true c_17
      obtain ⟨b_18, f_19, q_20⟩ := ((i_a.grow g_12)).pos (by first | omega | (simp only [List.length_set, List.length_replicate, List.length_append, List.length_cons, List.length_nil, List.length_take, List.length_drop, marks_length]; done) | (simp only [List.length_set, List.length_replicate, List.length_append, List.length_cons, List.length_nil, List.length_take, List.length_drop, marks_length]; omega))
      refine ⟨by omega, by omega, b_18, f_19, q_20, ?_⟩
      refine ⟨((l_a).getD (i : Int).toNat 0), (i_a).rd g_12 q_20 (by omega) _, ?_⟩
      refine ⟨by omega, (by omega), _, _, rfl, ?_⟩
      refine Lt.set o_10 (by simp only [List.length_map]; (first | omega | (simp only [List.length_set, List.length_replicate, List.length_append, List.length_cons, List.length_nil, List.length_take, List.length_drop, marks_length]; done) | (simp only [List.length_set, List.length_replicate, List.length_append, List.length_cons, List.length_nil, List.length_take, List.length_drop, marks_length]; omega))) (fun H_3 hl_21 o_23 k_22 => ?_)
      have o_23 := map_set o_23
      have l_24 := k_22.1
      have g_25 := g_12.keep (b := b_1) (by omega) k_22
      have l_26 := g_25.1
      have w_27 := o_23.lt
      rw [show IntKind.wrap .i64 (i + 1) = (i + 1) from wrap64 (by omega) (by omega)]
      refine laws_toFloat32S_n1 (μ - 1) (by omega) ⟨_, o_23, (by first | assumption | omega | (simp only [List.length_set]; first | rfl | assumption | omega)), g_25, (by first | omega | (simp only [List.length_append, List.length_cons, List.length_nil, List.length_set]; done) | (simp only [List.length_append, List.length_cons, List.length_nil, List.length_set]; omega)), (by first | omega | (simp only [List.length_append, List.length_cons, List.length_nil, List.length_set]; done) | (simp only [List.length_append, List.length_cons, List.length_nil, List.length_set]; omega)), (by omega), (by rw [show μ - 1 + 1 = μ from by omega]; exact e)⟩
    · have e := e.trans (cond_f c_17)
      have c_17' := of_decide_eq_false c_17
      rw [laws_toFloat32S_x1_0]
      rw [e] at hk
      exact hk _ _ _ H_2 g_12 (o_10.ownS (by first | (simp only [List.length_replicate]; done) | omega | (simp; omega)) (by omega))
theorem laws_toFloat32S_ok : FnOk Try.prog 22 S_laws_toFloat32S := by
  refine FnOk.body mix_ok E_laws_toFloat32S_ok Try.func22 rfl (by kernel_rfl) (by kernel_rfl) ?_ ?_ ?_ ?_ ?_
  · intro args H K K' h hk
    simp only [S_laws_toFloat32S] at *
    unfold F_laws_toFloat32S at *
    split at hk
    · obtain ⟨l_a, i_a, bd_29, k⟩ := hk
      exact ⟨l_a, i_a, bd_29, (fun r1_a r1_n r1_e H' gg ow0 => h _ _ (k r1_a r1_n r1_e H' gg ow0))⟩
    · exact hk.elim
  · intro hq; cases hq
  · intro args H K hk
    simp only [S_laws_toFloat32S] at *
    unfold F_laws_toFloat32S at *
    split at hk
    · obtain ⟨l_a, i_a, bd_29, k⟩ := hk
      exact liveS fun a n e H1 g o => ⟨_, _, k a n e H1 g o⟩
    · exact hk.elim
  · intro _ args H K hk
    simp only [S_laws_toFloat32S] at *
    unfold F_laws_toFloat32S at *
    split at hk
    · obtain ⟨l_a, i_a, bd_29, k⟩ := hk
      exact ⟨l_a, i_a, bd_29, (fun r1_a r1_n r1_e H' gg ow0 => ⟨gg, k r1_a r1_n r1_e H' gg ow0⟩)⟩
    · exact hk.elim
  · have mm := @laws_toFloat32S_main
    revert mm
    generalize bodyK Try.prog E_laws_toFloat32S Try.f22 = Q
    intro mm args H K hk
    simp only [S_laws_toFloat32S] at *
    unfold F_laws_toFloat32S at *
    split at hk
    · exact mm _ _ _ H K hk
    · exact hk.elim
def p_spec_l01Finite (x : Nat) : Bool := feq .f32 (fsub .f32 x x) 0
theorem p_spec_l01Finite_eq (x : Nat) : p_spec_l01Finite x = feq .f32 (fsub .f32 x x) 0 := rfl
def T_spec_l01Finite (x : Nat) (H : AHeap) (K : Bool → AHeap → Prop) : Prop := K (p_spec_l01Finite x) H

theorem T_spec_l01Finite_i {x : Nat} {H : AHeap} {K : Bool → AHeap → Prop} (h : K (p_spec_l01Finite x) H) : T_spec_l01Finite x H K := h
/-! spec_l01Finite: function 56 -/
def E_spec_l01Finite : Env := envOf []
def F_spec_l01Finite : List Value → AHeap → (Value → AHeap → Prop) → Prop
  | [.float .f32 x], H, K => T_spec_l01Finite x H fun (r1 : Bool) (H' : AHeap) => K (.bool r1) H'
  | _, _, _ => False
def S_spec_l01Finite : FSpec := { F := F_spec_l01Finite, quiet := true, tame := false }
theorem spec_l01Finite_vc (x : Nat) (H : AHeap) (K : Value → AHeap → Prop) : bodyK Try.prog E_spec_l01Finite Try.f56 [.float .f32 x] H K =
  (K (.bool (feq .f32 (fsub .f32 x x) 0)) H) := by kernel_rfl
theorem E_spec_l01Finite_ok : ∀ g, FnOk Try.prog g (E_spec_l01Finite g) := FnOk.envOf (by
  intro x hx; cases hx)
set_option maxHeartbeats 1000000 in
theorem spec_l01Finite_main (x : Nat) (H : AHeap) (K : Value → AHeap → Prop) (h : T_spec_l01Finite x H fun (r1 : Bool) (H' : AHeap) => K (.bool r1) H') : bodyK Try.prog E_spec_l01Finite Try.f56 [.float .f32 x] H K := by
  rw [spec_l01Finite_vc]
  unfold T_spec_l01Finite p_spec_l01Finite at h
  repeat' (first | exact h | (exfalso; simp_all; done) | (refine ⟨by decide, ?_⟩) | (refine Br.intro (fun hb => ?_) (fun hb => ?_) <;> (try simp only [hb, cond_true, cond_false, Bool.not_true, Bool.not_false] at h)))
theorem spec_l01Finite_ok : FnOk Try.prog 56 S_spec_l01Finite := by
  refine FnOk.body mix_ok E_spec_l01Finite_ok Try.func56 rfl (by kernel_rfl) (by kernel_rfl) ?_ ?_ ?_ ?_ ?_
  · intro args H K K' h hk
    simp only [S_spec_l01Finite] at *
    unfold F_spec_l01Finite at *
    split at hk
    · have k := hk
      exact h _ _ k
    · exact hk.elim
  · intro _ args H K hk
    simp only [S_spec_l01Finite] at *
    unfold F_spec_l01Finite at *
    split at hk
    · have k := hk
      exact ⟨_, k, fun K' k' => k'⟩
    · exact hk.elim
  · intro args H K hk
    simp only [S_spec_l01Finite] at *
    unfold F_spec_l01Finite at *
    split at hk
    · have k := hk
      exact ⟨_, _, k⟩
    · exact hk.elim
  · intro hq; cases hq
  · have mm := @spec_l01Finite_main
    revert mm
    generalize bodyK Try.prog E_spec_l01Finite Try.f56 = Q
    intro mm args H K hk
    simp only [S_spec_l01Finite] at *
    unfold F_spec_l01Finite at *
    split at hk
    · exact mm _ H K hk
    · exact hk.elim
def p_spec_l02Finite_l1 (l_list : List Nat) : Nat → Bool → Int → Bool
  | 0, _, _ => false
  | μ + 1, t2, i => (bif decide ((i : Int) < (l_list.length : Int)) then (bif !((p_spec_l01Finite (((l_list).getD (i : Int).toNat 0)))) then false else (p_spec_l02Finite_l1 l_list μ t2 (i + 1))) else true)
theorem p_spec_l02Finite_l1_s (l_list : List Nat) (μ : Nat) (t2 : Bool) (i : Int) : p_spec_l02Finite_l1 l_list (μ + 1) t2 i = (bif decide ((i : Int) < (l_list.length : Int)) then (bif !((p_spec_l01Finite (((l_list).getD (i : Int).toNat 0)))) then false else (p_spec_l02Finite_l1 l_list μ t2 (i + 1))) else true) := rfl
def p_spec_l02Finite (l_list : List Nat) : Bool := (p_spec_l02Finite_l1 l_list (Int.toNat ((l_list.length : Int) - (0 : Int)) + 1) false (0 : Int))
theorem p_spec_l02Finite_eq (l_list : List Nat) : p_spec_l02Finite l_list = (p_spec_l02Finite_l1 l_list (Int.toNat ((l_list.length : Int) - (0 : Int)) + 1) false (0 : Int)) := rfl
def T_spec_l02Finite (list_a : Option Addr) (list_n : Nat) (list_e : Nat) (H : AHeap) (K : Bool → AHeap → Prop) : Prop := ∃ (l_list : List Nat), IsL fF H list_a list_n l_list ∧ l_list.length < 1073741824 ∧ K (p_spec_l02Finite l_list) H
theorem T_spec_l02Finite_i {list_a : Option Addr} {list_n : Nat} {list_e : Nat} {H : AHeap} {K : Bool → AHeap → Prop} (h : ∃ (l_list : List Nat), IsL fF H list_a list_n l_list ∧ l_list.length < 1073741824 ∧ K (p_spec_l02Finite l_list) H) : T_spec_l02Finite list_a list_n list_e H K := h

/-! spec_l02Finite: function 74 -/
def E_spec_l02Finite : Env := envOf [(56, S_spec_l01Finite)]
def F_spec_l02Finite : List Value → AHeap → (Value → AHeap → Prop) → Prop
  | [.slice list_a list_n list_e], H, K => T_spec_l02Finite list_a list_n list_e H fun (r1 : Bool) (H' : AHeap) => K (.bool r1) H'
  | _, _, _ => False
def S_spec_l02Finite : FSpec := { F := F_spec_l02Finite, quiet := true, tame := false }
theorem spec_l02Finite_vc (list_a : Option Addr) (list_n : Nat) (list_e : Nat) (H : AHeap) (K : Value → AHeap → Prop) : bodyK Try.prog E_spec_l02Finite Try.f74 [.slice list_a list_n list_e] H K =
  (loopK (exK Try.prog E_spec_l02Finite (cl (cl (cr (cl (cr (bodyC Try.f74))))))) [.slice list_a list_n list_e, undef, .bool false, .int .i64 0, undef, undef, undef, undef, undef, undef, undef, undef, undef, undef, undef, undef] H (blockQ 0 (seqQ (exK Try.prog E_spec_l02Finite (cr (cr (bodyC Try.f74)))) (retK Try.prog Try.f74 K)))) := by kernel_rfl
theorem spec_l02Finite_r1 (list_a : Option Addr) (list_e : Nat) (list_n : Nat) (t2 : Bool) (i : Int) (g4 g5 g6 g7 g8 g9 g10 g11 g12 g13 g14 g15 : Value) (H : AHeap) (R : Post) : exK Try.prog E_spec_l02Finite (cl (cl (cr (cl (cr (bodyC Try.f74)))))) [.slice list_a list_n list_e, undef, .bool t2, .int .i64 i, g4, g5, g6, g7, g8, g9, g10, g11, g12, g13, g14, g15] H R =
  (Br (decide ((i : Int) < (list_n : Int))) ((0 : Int) ≤ i ∧ i < (list_n : Int) ∧ ∃ b1 f1, (list_a : Option Addr) = some ⟨b1, f1, none⟩ ∧ ∃ x1 : Nat,  rdC H b1 (f1 + (i : Int).toNat * 1) = some (.float .f32 x1) ∧ T_spec_l01Finite x1 H fun (r1 : Bool) (H1 : AHeap) => Br (!r1) (R .ret [.slice list_a list_n list_e, undef, .bool false, .int .i64 i, .int .i64 i, .slice list_a list_n list_e, .int .i64 (list_n : Int), .bool (decide ((i : Int) < (list_n : Int))), g8, g9, .slice list_a list_n list_e, .int .i64 i, .pointer (some ⟨b1, f1 + (i : Int).toNat * 1, none⟩), .float .f32 x1, .bool r1, .bool (!r1)] H1) (R .normal [.slice list_a list_n list_e, undef, .bool t2, .int .i64 (IntKind.wrap .i64 (i + 1)), .int .i64 i, .slice list_a list_n list_e, .int .i64 (list_n : Int), .bool (decide ((i : Int) < (list_n : Int))), .int .i64 i, .int .i64 (IntKind.wrap .i64 (i + 1)), .slice list_a list_n list_e, .int .i64 i, .pointer (some ⟨b1, f1 + (i : Int).toNat * 1, none⟩), .float .f32 x1, .bool r1, .bool (!r1)] H1)) (R (.exit 0) [.slice list_a list_n list_e, undef, .bool t2, .int .i64 i, .int .i64 i, .slice list_a list_n list_e, .int .i64 (list_n : Int), .bool (decide ((i : Int) < (list_n : Int))), g8, g9, g10, g11, g12, g13, g14, g15] H)) := by kernel_rfl
def spec_l02Finite_I1 (list_a : Option Addr) (list_e : Nat) (list_n : Nat) (Inv : Nat → Bool → Int → AHeap → Prop) : Nat → List Value → AHeap → Prop := fun μ tm H => ∃ (t2 : Bool), ∃ (i : Int), ∃ g4 g5 g6 g7 g8 g9 g10 g11 g12 g13 g14 g15, tm = [.slice list_a list_n list_e, undef, .bool t2, .int .i64 i, g4, g5, g6, g7, g8, g9, g10, g11, g12, g13, g14, g15] ∧ Inv μ t2 i H
theorem spec_l02Finite_L1 (list_a : Option Addr) (list_e : Nat) (list_n : Nat) {Q : Post} (Inv : Nat → Bool → Int → AHeap → Prop) (ν : Nat) (t2 : Bool) (i : Int) (g4 g5 g6 g7 g8 g9 g10 g11 g12 g13 g14 g15 : Value) (H : AHeap) (h0 : Inv ν t2 i H)
    (hs : ∀ (μ : Nat) (t2 : Bool) (i : Int) (g4 g5 g6 g7 g8 g9 g10 g11 g12 g13 g14 g15 : Value) (H : AHeap), Inv μ t2 i H → exK Try.prog E_spec_l02Finite (cl (cl (cr (cl (cr (bodyC Try.f74)))))) [.slice list_a list_n list_e, undef, .bool t2, .int .i64 i, g4, g5, g6, g7, g8, g9, g10, g11, g12, g13, g14, g15] H (loopQ (spec_l02Finite_I1 list_a list_e list_n Inv) μ Q)) : loopK (exK Try.prog E_spec_l02Finite (cl (cl (cr (cl (cr (bodyC Try.f74))))))) [.slice list_a list_n list_e, undef, .bool t2, .int .i64 i, g4, g5, g6, g7, g8, g9, g10, g11, g12, g13, g14, g15] H Q :=
  ⟨spec_l02Finite_I1 list_a list_e list_n Inv, ν, ⟨t2, i, g4, g5, g6, g7, g8, g9, g10, g11, g12, g13, g14, g15, rfl, h0⟩, fun μ tm H h => by obtain ⟨t2, i, g4, g5, g6, g7, g8, g9, g10, g11, g12, g13, g14, g15, rfl, hI⟩ := h; exact hs μ t2 i g4 g5 g6 g7 g8 g9 g10 g11 g12 g13 g14 g15 H hI⟩
theorem spec_l02Finite_n1 {list_a : Option Addr} {list_e : Nat} {list_n : Nat} {Q : Post} {Inv : Nat → Bool → Int → AHeap → Prop} {μ : Nat} (μ' : Nat) {t2 : Bool} {i : Int} {g4 g5 g6 g7 g8 g9 g10 g11 g12 g13 g14 g15 : Value} {H : AHeap} (hm : μ' < μ) (hI : Inv μ' t2 i H) : loopQ (spec_l02Finite_I1 list_a list_e list_n Inv) μ Q .normal [.slice list_a list_n list_e, undef, .bool t2, .int .i64 i, g4, g5, g6, g7, g8, g9, g10, g11, g12, g13, g14, g15] H := ⟨μ', hm, t2, i, g4, g5, g6, g7, g8, g9, g10, g11, g12, g13, g14, g15, rfl, hI⟩
theorem spec_l02Finite_x1_0 (list_a : Option Addr) (list_e : Nat) (list_n : Nat) (t2 : Bool) (i : Int) (g4 g5 g6 g7 g8 g9 g10 g11 g12 g13 g14 g15 : Value) (H : AHeap) (K : Value → AHeap → Prop)  {I : Nat → List Value → AHeap → Prop} {μ : Nat} : loopQ I μ (blockQ 0 (seqQ (exK Try.prog E_spec_l02Finite (cr (cr (bodyC Try.f74)))) (retK Try.prog Try.f74 K))) (.exit 0) [.slice list_a list_n list_e, undef, .bool t2, .int .i64 i, g4, g5, g6, g7, g8, g9, g10, g11, g12, g13, g14, g15] H =
  (K (.bool true) H) := by kernel_rfl
theorem spec_l02Finite_x1_ret (list_a : Option Addr) (list_e : Nat) (list_n : Nat) (t2 : Bool) (i : Int) (g4 g5 g6 g7 g8 g9 g10 g11 g12 g13 g14 g15 : Value) (H : AHeap) (K : Value → AHeap → Prop)  {I : Nat → List Value → AHeap → Prop} {μ : Nat} : loopQ I μ (blockQ 0 (seqQ (exK Try.prog E_spec_l02Finite (cr (cr (bodyC Try.f74)))) (retK Try.prog Try.f74 K))) .ret [.slice list_a list_n list_e, undef, .bool t2, .int .i64 i, g4, g5, g6, g7, g8, g9, g10, g11, g12, g13, g14, g15] H =
  (K (.bool t2) H) := by kernel_rfl
theorem E_spec_l02Finite_ok : ∀ g, FnOk Try.prog g (E_spec_l02Finite g) := FnOk.envOf (by
  intro x hx
  simp only [List.mem_cons, List.not_mem_nil, or_false] at hx
  subst hx; exact spec_l01Finite_ok)
set_option maxHeartbeats 1000000 in
theorem spec_l02Finite_main (list_a : Option Addr) (list_n : Nat) (list_e : Nat) (H : AHeap) (K : Value → AHeap → Prop) (h : T_spec_l02Finite list_a list_n list_e H fun (r1 : Bool) (H' : AHeap) => K (.bool r1) H') : bodyK Try.prog E_spec_l02Finite Try.f74 [.slice list_a list_n list_e] H K := by
  rw [spec_l02Finite_vc]
  obtain ⟨l_list, i_list, bd_9, hk⟩ := h
  obtain rfl := i_list.eqn
  have e : (p_spec_l02Finite l_list) = _ := rfl
  have e := e.trans (p_spec_l02Finite_eq l_list)
  have g0 := Grow.refl H
  refine spec_l02Finite_L1 _ _ _ (fun (μ : Nat) (t2 : Bool) (i : Int) (H_1 : AHeap) => H = H_1 ∧ (0 : Int) ≤ i ∧ i ≤ (l_list.length : Int) ∧ (l_list.length : Int) - i ≤ (μ : Int) ∧ p_spec_l02Finite l_list = p_spec_l02Finite_l1 l_list (μ + 1) t2 i) (Int.toNat ((l_list.length : Int) - (0 : Int))) _ _ _ _ _ _ _ _ _ _ _ _ _ _ H ?_ ?_
  · exact ⟨rfl, (by first | omega | (simp; done) | (simp; omega)), (by first | omega | (simp; done) | (simp; omega)), (by omega), e⟩
  · intro μ t2 i g4 g5 g6 g7 g8 g9 g10 g11 g12 g13 g14 g15 H_1 hI
    obtain ⟨rfl, v_1, v_2, hμ, e⟩ := hI
    rw [spec_l02Finite_r1]
    have e := e.trans (p_spec_l02Finite_l1_s l_list μ t2 i)
    have l_3 := g0.1
    refine Br.intro (fun c_4 => ?_) (fun c_4 => ?_)
    · have e := e.trans (cond_t c_4)
      have c_4' := of_decide_eq_true c_4
      obtain ⟨b_5, f_6, q_7⟩ := ((i_list.grow g0)).pos (by first | omega | (simp only [List.length_set, List.length_replicate, List.length_append, List.length_cons, List.length_nil, List.length_take, List.length_drop, marks_length]; done) | (simp only [List.length_set, List.length_replicate, List.length_append, List.length_cons, List.length_nil, List.length_take, List.length_drop, marks_length]; omega))
      refine ⟨by omega, by omega, b_5, f_6, q_7, ?_⟩
      refine ⟨((l_list).getD (i : Int).toNat 0), (i_list).rd g0 q_7 (by omega) _, ?_⟩
      refine T_spec_l01Finite_i ?_
      refine Br.intro (fun c_8 => ?_) (fun c_8 => ?_)
      · have e := e.trans (cond_t c_8)
        have c_8n := nf_of_t c_8
        rw [spec_l02Finite_x1_ret]
        rw [e] at hk
        exact hk
      · have e := e.trans (cond_f c_8)
        have c_8n := nt_of_f c_8
        rw [show IntKind.wrap .i64 (i + 1) = (i + 1) from wrap64 (by omega) (by omega)]
        refine spec_l02Finite_n1 (μ - 1) (by omega) ⟨rfl, (by first | omega | (simp only [List.length_append, List.length_cons, List.length_nil, List.length_set]; done) | (simp only [List.length_append, List.length_cons, List.length_nil, List.length_set]; omega)), (by first | omega | (simp only [List.length_append, List.length_cons, List.length_nil, List.length_set]; done) | (simp only [List.length_append, List.length_cons, List.length_nil, List.length_set]; omega)), (by omega), (by rw [show μ - 1 + 1 = μ from by omega]; exact e)⟩
    · have e := e.trans (cond_f c_4)
      have c_4' := of_decide_eq_false c_4
      rw [spec_l02Finite_x1_0]
      rw [e] at hk
      exact hk
theorem spec_l02Finite_ok : FnOk Try.prog 74 S_spec_l02Finite := by
  refine FnOk.body mix_ok E_spec_l02Finite_ok Try.func74 rfl (by kernel_rfl) (by kernel_rfl) ?_ ?_ ?_ ?_ ?_
  · intro args H K K' h hk
    simp only [S_spec_l02Finite] at *
    unfold F_spec_l02Finite at *
    split at hk
    · obtain ⟨l_list, i_list, bd_9, k⟩ := hk
      exact ⟨l_list, i_list, bd_9, h _ _ k⟩
    · exact hk.elim
  · intro _ args H K hk
    simp only [S_spec_l02Finite] at *
    unfold F_spec_l02Finite at *
    split at hk
    · obtain ⟨l_list, i_list, bd_9, k⟩ := hk
      exact ⟨_, k, fun K' k' => ⟨l_list, i_list, bd_9, k'⟩⟩
    · exact hk.elim
  · intro args H K hk
    simp only [S_spec_l02Finite] at *
    unfold F_spec_l02Finite at *
    split at hk
    · obtain ⟨l_list, i_list, bd_9, k⟩ := hk
      exact ⟨_, _, k⟩
    · exact hk.elim
  · intro hq; cases hq
  · have mm := @spec_l02Finite_main
    revert mm
    generalize bodyK Try.prog E_spec_l02Finite Try.f74 = Q
    intro mm args H K hk
    simp only [S_spec_l02Finite] at *
    unfold F_spec_l02Finite at *
    split at hk
    · exact mm _ _ _ H K hk
    · exact hk.elim
def p_spec_l03Long (l_list : List Nat) : Bool := (bif decide ((1 : Int) ≤ (l_list.length : Int)) then (bif decide (((l_list.length : Int) : Int) ≤ 128) then (p_spec_l02Finite l_list) else false) else false)
theorem p_spec_l03Long_eq (l_list : List Nat) : p_spec_l03Long l_list = (bif decide ((1 : Int) ≤ (l_list.length : Int)) then (bif decide (((l_list.length : Int) : Int) ≤ 128) then (p_spec_l02Finite l_list) else false) else false) := rfl
def T_spec_l03Long (list_a : Option Addr) (list_n : Nat) (list_e : Nat) (H : AHeap) (K : Bool → AHeap → Prop) : Prop := ∃ (l_list : List Nat), IsL fF H list_a list_n l_list ∧ l_list.length < 1073741824 ∧ K (p_spec_l03Long l_list) H
theorem T_spec_l03Long_i {list_a : Option Addr} {list_n : Nat} {list_e : Nat} {H : AHeap} {K : Bool → AHeap → Prop} (h : ∃ (l_list : List Nat), IsL fF H list_a list_n l_list ∧ l_list.length < 1073741824 ∧ K (p_spec_l03Long l_list) H) : T_spec_l03Long list_a list_n list_e H K := h
theorem spec_l03Long_t {l : List Nat} (h : p_spec_l03Long l = true) : 1 ≤ (l.length : Int) ∧ (l.length : Int) ≤ 128 := by
  rw [p_spec_l03Long_eq] at h
  by_cases h1 : (1 : Int) ≤ (l.length : Int)
  · rw [decide_eq_true h1, cond_true] at h
    by_cases h2 : (l.length : Int) ≤ 128
    · exact ⟨h1, h2⟩
    · rw [decide_eq_false h2] at h; cases h
  · rw [decide_eq_false h1] at h; cases h
/-! spec_l03Long: function 61 -/
def E_spec_l03Long : Env := envOf [(74, S_spec_l02Finite)]
def F_spec_l03Long : List Value → AHeap → (Value → AHeap → Prop) → Prop
  | [.slice list_a list_n list_e], H, K => T_spec_l03Long list_a list_n list_e H fun (r1 : Bool) (H' : AHeap) => K (.bool r1) H'
  | _, _, _ => False
def S_spec_l03Long : FSpec := { F := F_spec_l03Long, quiet := true, tame := false }
theorem spec_l03Long_vc (list_a : Option Addr) (list_n : Nat) (list_e : Nat) (H : AHeap) (K : Value → AHeap → Prop) : bodyK Try.prog E_spec_l03Long Try.f61 [.slice list_a list_n list_e] H K =
  (Br (decide ((1 : Int) ≤ (list_n : Int))) (Br (decide (((list_n : Int) : Int) ≤ 128)) (T_spec_l02Finite list_a list_n list_e H fun (r1 : Bool) (H1 : AHeap) => K (.bool r1) H1) (K (.bool false) H)) (K (.bool false) H)) := by kernel_rfl
theorem E_spec_l03Long_ok : ∀ g, FnOk Try.prog g (E_spec_l03Long g) := FnOk.envOf (by
  intro x hx
  simp only [List.mem_cons, List.not_mem_nil, or_false] at hx
  subst hx; exact spec_l02Finite_ok)
set_option maxHeartbeats 1000000 in
theorem spec_l03Long_main (list_a : Option Addr) (list_n : Nat) (list_e : Nat) (H : AHeap) (K : Value → AHeap → Prop) (h : T_spec_l03Long list_a list_n list_e H fun (r1 : Bool) (H' : AHeap) => K (.bool r1) H') : bodyK Try.prog E_spec_l03Long Try.f61 [.slice list_a list_n list_e] H K := by
  rw [spec_l03Long_vc]
  obtain ⟨l_list, i_list, bd_3, hk⟩ := h
  obtain rfl := i_list.eqn
  have e : (p_spec_l03Long l_list) = _ := rfl
  have e := e.trans (p_spec_l03Long_eq l_list)
  have g0 := Grow.refl H
  refine Br.intro (fun c_1 => ?_) (fun c_1 => ?_)
  · have e := e.trans (cond_t c_1)
    have c_1' := of_decide_eq_true c_1
    refine Br.intro (fun c_2 => ?_) (fun c_2 => ?_)
    · have e := e.trans (cond_t c_2)
      have c_2' := of_decide_eq_true c_2
      refine T_spec_l02Finite_i ⟨_, (i_list.grow g0), (by first | omega | (simp only [List.length_set, List.length_replicate, List.length_append, List.length_cons, List.length_nil, List.length_take, List.length_drop, marks_length]; done) | (simp only [List.length_set, List.length_replicate, List.length_append, List.length_cons, List.length_nil, List.length_take, List.length_drop, marks_length]; omega)), ?_⟩
      rw [e] at hk
      exact hk
    · have e := e.trans (cond_f c_2)
      have c_2' := of_decide_eq_false c_2
      rw [e] at hk
      exact hk
  · have e := e.trans (cond_f c_1)
    have c_1' := of_decide_eq_false c_1
    rw [e] at hk
    exact hk
theorem spec_l03Long_ok : FnOk Try.prog 61 S_spec_l03Long := by
  refine FnOk.body mix_ok E_spec_l03Long_ok Try.func61 rfl (by kernel_rfl) (by kernel_rfl) ?_ ?_ ?_ ?_ ?_
  · intro args H K K' h hk
    simp only [S_spec_l03Long] at *
    unfold F_spec_l03Long at *
    split at hk
    · obtain ⟨l_list, i_list, bd_3, k⟩ := hk
      exact ⟨l_list, i_list, bd_3, h _ _ k⟩
    · exact hk.elim
  · intro _ args H K hk
    simp only [S_spec_l03Long] at *
    unfold F_spec_l03Long at *
    split at hk
    · obtain ⟨l_list, i_list, bd_3, k⟩ := hk
      exact ⟨_, k, fun K' k' => ⟨l_list, i_list, bd_3, k'⟩⟩
    · exact hk.elim
  · intro args H K hk
    simp only [S_spec_l03Long] at *
    unfold F_spec_l03Long at *
    split at hk
    · obtain ⟨l_list, i_list, bd_3, k⟩ := hk
      exact ⟨_, _, k⟩
    · exact hk.elim
  · intro hq; cases hq
  · have mm := @spec_l03Long_main
    revert mm
    generalize bodyK Try.prog E_spec_l03Long Try.f61 = Q
    intro mm args H K hk
    simp only [S_spec_l03Long] at *
    unfold F_spec_l03Long at *
    split at hk
    · exact mm _ _ _ H K hk
    · exact hk.elim
def p_spec_l05Mean_l1 (l_list : List Nat) : Nat → Nat → Int → Nat
  | 0, _, _ => 0
  | μ + 1, sum, t7 => (bif decide ((t7 : Int) < (l_list.length : Int)) then (p_spec_l05Mean_l1 l_list μ (fadd .f32 sum (((l_list).getD (t7 : Int).toNat 0))) (t7 + 1)) else fdiv .f32 sum (FloatKind.nearest .f32 (l_list.length : Int)))
theorem p_spec_l05Mean_l1_s (l_list : List Nat) (μ : Nat) (sum : Nat) (t7 : Int) : p_spec_l05Mean_l1 l_list (μ + 1) sum t7 = (bif decide ((t7 : Int) < (l_list.length : Int)) then (p_spec_l05Mean_l1 l_list μ (fadd .f32 sum (((l_list).getD (t7 : Int).toNat 0))) (t7 + 1)) else fdiv .f32 sum (FloatKind.nearest .f32 (l_list.length : Int))) := rfl
def p_spec_l05Mean (l_list : List Nat) : Nat := (p_spec_l05Mean_l1 l_list (Int.toNat ((l_list.length : Int) - (0 : Int)) + 1) 0 (0 : Int))
theorem p_spec_l05Mean_eq (l_list : List Nat) : p_spec_l05Mean l_list = (p_spec_l05Mean_l1 l_list (Int.toNat ((l_list.length : Int) - (0 : Int)) + 1) 0 (0 : Int)) := rfl
def T_spec_l05Mean (list_a : Option Addr) (list_n : Nat) (list_e : Nat) (H : AHeap) (K : Nat → AHeap → Prop) : Prop := ∃ (l_list : List Nat), IsL fF H list_a list_n l_list ∧ l_list.length < 1073741824 ∧ K (p_spec_l05Mean l_list) H
theorem T_spec_l05Mean_i {list_a : Option Addr} {list_n : Nat} {list_e : Nat} {H : AHeap} {K : Nat → AHeap → Prop} (h : ∃ (l_list : List Nat), IsL fF H list_a list_n l_list ∧ l_list.length < 1073741824 ∧ K (p_spec_l05Mean l_list) H) : T_spec_l05Mean list_a list_n list_e H K := h

/-! spec_l05Mean: function 86 -/
def E_spec_l05Mean : Env := envOf []
def F_spec_l05Mean : List Value → AHeap → (Value → AHeap → Prop) → Prop
  | [.slice list_a list_n list_e], H, K => T_spec_l05Mean list_a list_n list_e H fun (r1 : Nat) (H' : AHeap) => K (.float .f32 r1) H'
  | _, _, _ => False
def S_spec_l05Mean : FSpec := { F := F_spec_l05Mean, quiet := true, tame := false }
theorem spec_l05Mean_vc (list_a : Option Addr) (list_n : Nat) (list_e : Nat) (H : AHeap) (K : Value → AHeap → Prop) : bodyK Try.prog E_spec_l05Mean Try.f86 [.slice list_a list_n list_e] H K =
  (loopK (exK Try.prog E_spec_l05Mean (cl (cl (cr (cl (cr (cr (bodyC Try.f86)))))))) [.slice list_a list_n list_e, undef, .float .f32 0, .float .f32 0, undef, .slice list_a list_n list_e, .int .i64 (list_n : Int), .int .i64 0, undef, undef, undef, undef, undef, undef, undef, undef, undef, undef, undef, undef, undef, undef] H (blockQ 0 (seqQ (exK Try.prog E_spec_l05Mean (cr (cr (cr (bodyC Try.f86))))) (retK Try.prog Try.f86 K)))) := by kernel_rfl
theorem spec_l05Mean_r1 (list_a : Option Addr) (list_e : Nat) (list_n : Nat) (sum : Nat) (t7 : Int) (g4 g8 g9 g10 g11 g12 g13 g14 g15 g16 : Value) (H : AHeap) (R : Post) : exK Try.prog E_spec_l05Mean (cl (cl (cr (cl (cr (cr (bodyC Try.f86))))))) [.slice list_a list_n list_e, undef, .float .f32 0, .float .f32 sum, g4, .slice list_a list_n list_e, .int .i64 (list_n : Int), .int .i64 t7, g8, g9, g10, g11, g12, g13, g14, g15, g16, undef, undef, undef, undef, undef] H R =
  (Br (decide ((t7 : Int) < (list_n : Int))) ((0 : Int) ≤ t7 ∧ t7 < (list_n : Int) ∧ ∃ b1 f1, (list_a : Option Addr) = some ⟨b1, f1, none⟩ ∧ ∃ x1 : Nat,  rdC H b1 (f1 + (t7 : Int).toNat * 1) = some (.float .f32 x1) ∧ R .normal [.slice list_a list_n list_e, undef, .float .f32 0, .float .f32 (fadd .f32 sum x1), .int .i64 t7, .slice list_a list_n list_e, .int .i64 (list_n : Int), .int .i64 (IntKind.wrap .i64 (t7 + 1)), .bool (decide ((t7 : Int) < (list_n : Int))), .int .i64 t7, .float .f32 sum, .slice list_a list_n list_e, .int .i64 t7, .pointer (some ⟨b1, f1 + (t7 : Int).toNat * 1, none⟩), .float .f32 x1, .float .f32 (fadd .f32 sum x1), .int .i64 (IntKind.wrap .i64 (t7 + 1)), undef, undef, undef, undef, undef] H) (R (.exit 0) [.slice list_a list_n list_e, undef, .float .f32 0, .float .f32 sum, g4, .slice list_a list_n list_e, .int .i64 (list_n : Int), .int .i64 t7, .bool (decide ((t7 : Int) < (list_n : Int))), g9, g10, g11, g12, g13, g14, g15, g16, undef, undef, undef, undef, undef] H)) := by kernel_rfl
def spec_l05Mean_I1 (list_a : Option Addr) (list_e : Nat) (list_n : Nat) (Inv : Nat → Nat → Int → AHeap → Prop) : Nat → List Value → AHeap → Prop := fun μ tm H => ∃ (sum : Nat), ∃ (t7 : Int), ∃ g4 g8 g9 g10 g11 g12 g13 g14 g15 g16, tm = [.slice list_a list_n list_e, undef, .float .f32 0, .float .f32 sum, g4, .slice list_a list_n list_e, .int .i64 (list_n : Int), .int .i64 t7, g8, g9, g10, g11, g12, g13, g14, g15, g16, undef, undef, undef, undef, undef] ∧ Inv μ sum t7 H
theorem spec_l05Mean_L1 (list_a : Option Addr) (list_e : Nat) (list_n : Nat) {Q : Post} (Inv : Nat → Nat → Int → AHeap → Prop) (ν : Nat) (sum : Nat) (t7 : Int) (g4 g8 g9 g10 g11 g12 g13 g14 g15 g16 : Value) (H : AHeap) (h0 : Inv ν sum t7 H)
    (hs : ∀ (μ : Nat) (sum : Nat) (t7 : Int) (g4 g8 g9 g10 g11 g12 g13 g14 g15 g16 : Value) (H : AHeap), Inv μ sum t7 H → exK Try.prog E_spec_l05Mean (cl (cl (cr (cl (cr (cr (bodyC Try.f86))))))) [.slice list_a list_n list_e, undef, .float .f32 0, .float .f32 sum, g4, .slice list_a list_n list_e, .int .i64 (list_n : Int), .int .i64 t7, g8, g9, g10, g11, g12, g13, g14, g15, g16, undef, undef, undef, undef, undef] H (loopQ (spec_l05Mean_I1 list_a list_e list_n Inv) μ Q)) : loopK (exK Try.prog E_spec_l05Mean (cl (cl (cr (cl (cr (cr (bodyC Try.f86)))))))) [.slice list_a list_n list_e, undef, .float .f32 0, .float .f32 sum, g4, .slice list_a list_n list_e, .int .i64 (list_n : Int), .int .i64 t7, g8, g9, g10, g11, g12, g13, g14, g15, g16, undef, undef, undef, undef, undef] H Q :=
  ⟨spec_l05Mean_I1 list_a list_e list_n Inv, ν, ⟨sum, t7, g4, g8, g9, g10, g11, g12, g13, g14, g15, g16, rfl, h0⟩, fun μ tm H h => by obtain ⟨sum, t7, g4, g8, g9, g10, g11, g12, g13, g14, g15, g16, rfl, hI⟩ := h; exact hs μ sum t7 g4 g8 g9 g10 g11 g12 g13 g14 g15 g16 H hI⟩
theorem spec_l05Mean_n1 {list_a : Option Addr} {list_e : Nat} {list_n : Nat} {Q : Post} {Inv : Nat → Nat → Int → AHeap → Prop} {μ : Nat} (μ' : Nat) {sum : Nat} {t7 : Int} {g4 g8 g9 g10 g11 g12 g13 g14 g15 g16 : Value} {H : AHeap} (hm : μ' < μ) (hI : Inv μ' sum t7 H) : loopQ (spec_l05Mean_I1 list_a list_e list_n Inv) μ Q .normal [.slice list_a list_n list_e, undef, .float .f32 0, .float .f32 sum, g4, .slice list_a list_n list_e, .int .i64 (list_n : Int), .int .i64 t7, g8, g9, g10, g11, g12, g13, g14, g15, g16, undef, undef, undef, undef, undef] H := ⟨μ', hm, sum, t7, g4, g8, g9, g10, g11, g12, g13, g14, g15, g16, rfl, hI⟩
theorem spec_l05Mean_x1_0 (list_a : Option Addr) (list_e : Nat) (list_n : Nat) (sum : Nat) (t7 : Int) (g4 g8 g9 g10 g11 g12 g13 g14 g15 g16 : Value) (H : AHeap) (K : Value → AHeap → Prop)  {I : Nat → List Value → AHeap → Prop} {μ : Nat} : loopQ I μ (blockQ 0 (seqQ (exK Try.prog E_spec_l05Mean (cr (cr (cr (bodyC Try.f86))))) (retK Try.prog Try.f86 K))) (.exit 0) [.slice list_a list_n list_e, undef, .float .f32 0, .float .f32 sum, g4, .slice list_a list_n list_e, .int .i64 (list_n : Int), .int .i64 t7, g8, g9, g10, g11, g12, g13, g14, g15, g16, undef, undef, undef, undef, undef] H =
  (K (.float .f32 (fdiv .f32 sum (FloatKind.nearest .f32 (list_n : Int)))) H) := by kernel_rfl
theorem E_spec_l05Mean_ok : ∀ g, FnOk Try.prog g (E_spec_l05Mean g) := FnOk.envOf (by
  intro x hx; cases hx)
set_option maxHeartbeats 1000000 in
theorem spec_l05Mean_main (list_a : Option Addr) (list_n : Nat) (list_e : Nat) (H : AHeap) (K : Value → AHeap → Prop) (h : T_spec_l05Mean list_a list_n list_e H fun (r1 : Nat) (H' : AHeap) => K (.float .f32 r1) H') : bodyK Try.prog E_spec_l05Mean Try.f86 [.slice list_a list_n list_e] H K := by
  rw [spec_l05Mean_vc]
  obtain ⟨l_list, i_list, bd_8, hk⟩ := h
  obtain rfl := i_list.eqn
  have e : (p_spec_l05Mean l_list) = _ := rfl
  have e := e.trans (p_spec_l05Mean_eq l_list)
  have g0 := Grow.refl H
  refine spec_l05Mean_L1 _ _ _ (fun (μ : Nat) (sum : Nat) (t7 : Int) (H_1 : AHeap) => H = H_1 ∧ (0 : Int) ≤ t7 ∧ t7 ≤ (l_list.length : Int) ∧ (l_list.length : Int) - t7 ≤ (μ : Int) ∧ p_spec_l05Mean l_list = p_spec_l05Mean_l1 l_list (μ + 1) sum t7) (Int.toNat ((l_list.length : Int) - (0 : Int))) _ _ _ _ _ _ _ _ _ _ _ _ H ?_ ?_
  · exact ⟨rfl, (by first | omega | (simp; done) | (simp; omega)), (by first | omega | (simp; done) | (simp; omega)), (by omega), e⟩
  · intro μ sum t7 g4 g8 g9 g10 g11 g12 g13 g14 g15 g16 H_1 hI
    obtain ⟨rfl, v_1, v_2, hμ, e⟩ := hI
    rw [spec_l05Mean_r1]
    have e := e.trans (p_spec_l05Mean_l1_s l_list μ sum t7)
    have l_3 := g0.1
    refine Br.intro (fun c_4 => ?_) (fun c_4 => ?_)
    · have e := e.trans (cond_t c_4)
      have c_4' := of_decide_eq_true c_4
      obtain ⟨b_5, f_6, q_7⟩ := ((i_list.grow g0)).pos (by first | omega | (simp only [List.length_set, List.length_replicate, List.length_append, List.length_cons, List.length_nil, List.length_take, List.length_drop, marks_length]; done) | (simp only [List.length_set, List.length_replicate, List.length_append, List.length_cons, List.length_nil, List.length_take, List.length_drop, marks_length]; omega))
      refine ⟨by omega, by omega, b_5, f_6, q_7, ?_⟩
      refine ⟨((l_list).getD (t7 : Int).toNat 0), (i_list).rd g0 q_7 (by omega) _, ?_⟩
      rw [show IntKind.wrap .i64 (t7 + 1) = (t7 + 1) from wrap64 (by omega) (by omega)]
      refine spec_l05Mean_n1 (μ - 1) (by omega) ⟨rfl, (by first | omega | (simp only [List.length_append, List.length_cons, List.length_nil, List.length_set]; done) | (simp only [List.length_append, List.length_cons, List.length_nil, List.length_set]; omega)), (by first | omega | (simp only [List.length_append, List.length_cons, List.length_nil, List.length_set]; done) | (simp only [List.length_append, List.length_cons, List.length_nil, List.length_set]; omega)), (by omega), (by rw [show μ - 1 + 1 = μ from by omega]; exact e)⟩
    · have e := e.trans (cond_f c_4)
      have c_4' := of_decide_eq_false c_4
      rw [spec_l05Mean_x1_0]
      rw [e] at hk
      exact hk
theorem spec_l05Mean_ok : FnOk Try.prog 86 S_spec_l05Mean := by
  refine FnOk.body mix_ok E_spec_l05Mean_ok Try.func86 rfl (by kernel_rfl) (by kernel_rfl) ?_ ?_ ?_ ?_ ?_
  · intro args H K K' h hk
    simp only [S_spec_l05Mean] at *
    unfold F_spec_l05Mean at *
    split at hk
    · obtain ⟨l_list, i_list, bd_8, k⟩ := hk
      exact ⟨l_list, i_list, bd_8, h _ _ k⟩
    · exact hk.elim
  · intro _ args H K hk
    simp only [S_spec_l05Mean] at *
    unfold F_spec_l05Mean at *
    split at hk
    · obtain ⟨l_list, i_list, bd_8, k⟩ := hk
      exact ⟨_, k, fun K' k' => ⟨l_list, i_list, bd_8, k'⟩⟩
    · exact hk.elim
  · intro args H K hk
    simp only [S_spec_l05Mean] at *
    unfold F_spec_l05Mean at *
    split at hk
    · obtain ⟨l_list, i_list, bd_8, k⟩ := hk
      exact ⟨_, _, k⟩
    · exact hk.elim
  · intro hq; cases hq
  · have mm := @spec_l05Mean_main
    revert mm
    generalize bodyK Try.prog E_spec_l05Mean Try.f86 = Q
    intro mm args H K hk
    simp only [S_spec_l05Mean] at *
    unfold F_spec_l05Mean at *
    split at hk
    · exact mm _ _ _ H K hk
    · exact hk.elim
def p_spec_l05Break_l1 (l_list : List Nat) : Nat → Int → Nat → Bool → Int → Nat → Int → Int × Nat × Bool
  | 0, _, _, _, _, _, _ => (0, 0, false)
  | μ + 1, t2, t3, t4, best, vmost, k => (bif decide ((k : Int) < (l_list.length : Int)) then (bif !((p_spec_l01Finite (fadd .f32 (fmul .f32 (fmul .f32 (FloatKind.nearest .f32 k) (fsub .f32 ((p_spec_l05Mean ((((l_list).drop (0 : Int).toNat).take ((k : Int) - 0).toNat)))) (p_spec_l05Mean l_list))) (fsub .f32 ((p_spec_l05Mean ((((l_list).drop (0 : Int).toNat).take ((k : Int) - 0).toNat)))) (p_spec_l05Mean l_list))) (fmul .f32 (fmul .f32 (FloatKind.nearest .f32 (IntKind.wrap .i64 ((l_list.length : Int) - k))) (fsub .f32 ((p_spec_l05Mean ((((l_list).drop (k : Int).toNat).take (((l_list.length : Int) : Int) - k).toNat)))) (p_spec_l05Mean l_list))) (fsub .f32 ((p_spec_l05Mean ((((l_list).drop (k : Int).toNat).take (((l_list.length : Int) : Int) - k).toNat)))) (p_spec_l05Mean l_list)))))) then ((0 : Int), 0, false) else (bif (best : Int) == 0 then (p_spec_l05Break_l1 l_list μ t2 t3 t4 k (fadd .f32 (fmul .f32 (fmul .f32 (FloatKind.nearest .f32 k) (fsub .f32 ((p_spec_l05Mean ((((l_list).drop (0 : Int).toNat).take ((k : Int) - 0).toNat)))) (p_spec_l05Mean l_list))) (fsub .f32 ((p_spec_l05Mean ((((l_list).drop (0 : Int).toNat).take ((k : Int) - 0).toNat)))) (p_spec_l05Mean l_list))) (fmul .f32 (fmul .f32 (FloatKind.nearest .f32 (IntKind.wrap .i64 ((l_list.length : Int) - k))) (fsub .f32 ((p_spec_l05Mean ((((l_list).drop (k : Int).toNat).take (((l_list.length : Int) : Int) - k).toNat)))) (p_spec_l05Mean l_list))) (fsub .f32 ((p_spec_l05Mean ((((l_list).drop (k : Int).toNat).take (((l_list.length : Int) : Int) - k).toNat)))) (p_spec_l05Mean l_list)))) (k + 1)) else (bif flt .f32 vmost (fadd .f32 (fmul .f32 (fmul .f32 (FloatKind.nearest .f32 k) (fsub .f32 ((p_spec_l05Mean ((((l_list).drop (0 : Int).toNat).take ((k : Int) - 0).toNat)))) (p_spec_l05Mean l_list))) (fsub .f32 ((p_spec_l05Mean ((((l_list).drop (0 : Int).toNat).take ((k : Int) - 0).toNat)))) (p_spec_l05Mean l_list))) (fmul .f32 (fmul .f32 (FloatKind.nearest .f32 (IntKind.wrap .i64 ((l_list.length : Int) - k))) (fsub .f32 ((p_spec_l05Mean ((((l_list).drop (k : Int).toNat).take (((l_list.length : Int) : Int) - k).toNat)))) (p_spec_l05Mean l_list))) (fsub .f32 ((p_spec_l05Mean ((((l_list).drop (k : Int).toNat).take (((l_list.length : Int) : Int) - k).toNat)))) (p_spec_l05Mean l_list)))) then (p_spec_l05Break_l1 l_list μ t2 t3 t4 k (fadd .f32 (fmul .f32 (fmul .f32 (FloatKind.nearest .f32 k) (fsub .f32 ((p_spec_l05Mean ((((l_list).drop (0 : Int).toNat).take ((k : Int) - 0).toNat)))) (p_spec_l05Mean l_list))) (fsub .f32 ((p_spec_l05Mean ((((l_list).drop (0 : Int).toNat).take ((k : Int) - 0).toNat)))) (p_spec_l05Mean l_list))) (fmul .f32 (fmul .f32 (FloatKind.nearest .f32 (IntKind.wrap .i64 ((l_list.length : Int) - k))) (fsub .f32 ((p_spec_l05Mean ((((l_list).drop (k : Int).toNat).take (((l_list.length : Int) : Int) - k).toNat)))) (p_spec_l05Mean l_list))) (fsub .f32 ((p_spec_l05Mean ((((l_list).drop (k : Int).toNat).take (((l_list.length : Int) : Int) - k).toNat)))) (p_spec_l05Mean l_list)))) (k + 1)) else (p_spec_l05Break_l1 l_list μ t2 t3 t4 best vmost (k + 1))))) else (best, vmost, true))
theorem p_spec_l05Break_l1_s (l_list : List Nat) (μ : Nat) (t2 : Int) (t3 : Nat) (t4 : Bool) (best : Int) (vmost : Nat) (k : Int) : p_spec_l05Break_l1 l_list (μ + 1) t2 t3 t4 best vmost k = (bif decide ((k : Int) < (l_list.length : Int)) then (bif !((p_spec_l01Finite (fadd .f32 (fmul .f32 (fmul .f32 (FloatKind.nearest .f32 k) (fsub .f32 ((p_spec_l05Mean ((((l_list).drop (0 : Int).toNat).take ((k : Int) - 0).toNat)))) (p_spec_l05Mean l_list))) (fsub .f32 ((p_spec_l05Mean ((((l_list).drop (0 : Int).toNat).take ((k : Int) - 0).toNat)))) (p_spec_l05Mean l_list))) (fmul .f32 (fmul .f32 (FloatKind.nearest .f32 (IntKind.wrap .i64 ((l_list.length : Int) - k))) (fsub .f32 ((p_spec_l05Mean ((((l_list).drop (k : Int).toNat).take (((l_list.length : Int) : Int) - k).toNat)))) (p_spec_l05Mean l_list))) (fsub .f32 ((p_spec_l05Mean ((((l_list).drop (k : Int).toNat).take (((l_list.length : Int) : Int) - k).toNat)))) (p_spec_l05Mean l_list)))))) then ((0 : Int), 0, false) else (bif (best : Int) == 0 then (p_spec_l05Break_l1 l_list μ t2 t3 t4 k (fadd .f32 (fmul .f32 (fmul .f32 (FloatKind.nearest .f32 k) (fsub .f32 ((p_spec_l05Mean ((((l_list).drop (0 : Int).toNat).take ((k : Int) - 0).toNat)))) (p_spec_l05Mean l_list))) (fsub .f32 ((p_spec_l05Mean ((((l_list).drop (0 : Int).toNat).take ((k : Int) - 0).toNat)))) (p_spec_l05Mean l_list))) (fmul .f32 (fmul .f32 (FloatKind.nearest .f32 (IntKind.wrap .i64 ((l_list.length : Int) - k))) (fsub .f32 ((p_spec_l05Mean ((((l_list).drop (k : Int).toNat).take (((l_list.length : Int) : Int) - k).toNat)))) (p_spec_l05Mean l_list))) (fsub .f32 ((p_spec_l05Mean ((((l_list).drop (k : Int).toNat).take (((l_list.length : Int) : Int) - k).toNat)))) (p_spec_l05Mean l_list)))) (k + 1)) else (bif flt .f32 vmost (fadd .f32 (fmul .f32 (fmul .f32 (FloatKind.nearest .f32 k) (fsub .f32 ((p_spec_l05Mean ((((l_list).drop (0 : Int).toNat).take ((k : Int) - 0).toNat)))) (p_spec_l05Mean l_list))) (fsub .f32 ((p_spec_l05Mean ((((l_list).drop (0 : Int).toNat).take ((k : Int) - 0).toNat)))) (p_spec_l05Mean l_list))) (fmul .f32 (fmul .f32 (FloatKind.nearest .f32 (IntKind.wrap .i64 ((l_list.length : Int) - k))) (fsub .f32 ((p_spec_l05Mean ((((l_list).drop (k : Int).toNat).take (((l_list.length : Int) : Int) - k).toNat)))) (p_spec_l05Mean l_list))) (fsub .f32 ((p_spec_l05Mean ((((l_list).drop (k : Int).toNat).take (((l_list.length : Int) : Int) - k).toNat)))) (p_spec_l05Mean l_list)))) then (p_spec_l05Break_l1 l_list μ t2 t3 t4 k (fadd .f32 (fmul .f32 (fmul .f32 (FloatKind.nearest .f32 k) (fsub .f32 ((p_spec_l05Mean ((((l_list).drop (0 : Int).toNat).take ((k : Int) - 0).toNat)))) (p_spec_l05Mean l_list))) (fsub .f32 ((p_spec_l05Mean ((((l_list).drop (0 : Int).toNat).take ((k : Int) - 0).toNat)))) (p_spec_l05Mean l_list))) (fmul .f32 (fmul .f32 (FloatKind.nearest .f32 (IntKind.wrap .i64 ((l_list.length : Int) - k))) (fsub .f32 ((p_spec_l05Mean ((((l_list).drop (k : Int).toNat).take (((l_list.length : Int) : Int) - k).toNat)))) (p_spec_l05Mean l_list))) (fsub .f32 ((p_spec_l05Mean ((((l_list).drop (k : Int).toNat).take (((l_list.length : Int) : Int) - k).toNat)))) (p_spec_l05Mean l_list)))) (k + 1)) else (p_spec_l05Break_l1 l_list μ t2 t3 t4 best vmost (k + 1))))) else (best, vmost, true)) := rfl
def p_spec_l05Break (l_list : List Nat) : Int × Nat × Bool := (p_spec_l05Break_l1 l_list (Int.toNat ((l_list.length : Int) - (1 : Int)) + 1) (0 : Int) 0 false (0 : Int) 0 (1 : Int))
theorem p_spec_l05Break_eq (l_list : List Nat) : p_spec_l05Break l_list = (p_spec_l05Break_l1 l_list (Int.toNat ((l_list.length : Int) - (1 : Int)) + 1) (0 : Int) 0 false (0 : Int) 0 (1 : Int)) := rfl
def T_spec_l05Break (list_a : Option Addr) (list_n : Nat) (list_e : Nat) (H : AHeap) (K : Int → Nat → Bool → AHeap → Prop) : Prop := ∃ (l_list : List Nat), IsL fF H list_a list_n l_list ∧ l_list.length < 1073741824 ∧ K ((p_spec_l05Break l_list).1) ((p_spec_l05Break l_list).2.1) ((p_spec_l05Break l_list).2.2) H
theorem T_spec_l05Break_i {list_a : Option Addr} {list_n : Nat} {list_e : Nat} {H : AHeap} {K : Int → Nat → Bool → AHeap → Prop} (h : ∃ (l_list : List Nat), IsL fF H list_a list_n l_list ∧ l_list.length < 1073741824 ∧ K ((p_spec_l05Break l_list).1) ((p_spec_l05Break l_list).2.1) ((p_spec_l05Break l_list).2.2) H) : T_spec_l05Break list_a list_n list_e H K := h

/-! spec_l05Break: function 66 -/
def E_spec_l05Break : Env := envOf [(86, S_spec_l05Mean), (56, S_spec_l01Finite)]
def F_spec_l05Break : List Value → AHeap → (Value → AHeap → Prop) → Prop
  | [.slice list_a list_n list_e], H, K => T_spec_l05Break list_a list_n list_e H fun (r1 : Int) (r2 : Nat) (r3 : Bool) (H' : AHeap) => K (.tuple #[.int .i64 r1, .float .f32 r2, .bool r3]) H'
  | _, _, _ => False
def S_spec_l05Break : FSpec := { F := F_spec_l05Break, quiet := true, tame := false }
theorem spec_l05Break_vc (list_a : Option Addr) (list_n : Nat) (list_e : Nat) (H : AHeap) (K : Value → AHeap → Prop) : bodyK Try.prog E_spec_l05Break Try.f66 [.slice list_a list_n list_e] H K =
  (T_spec_l05Mean list_a list_n list_e H fun (r1 : Nat) (H1 : AHeap) => loopK (exK Try.prog E_spec_l05Break (cl (cl (cr (cl (cr (cr (cr (cr (cr (bodyC Try.f66))))))))))) [.slice list_a list_n list_e, undef, .int .i64 0, .float .f32 0, .bool false, .float .f32 r1, .int .i64 0, .float .f32 0, .int .i64 (list_n : Int), .int .i64 1, undef, undef, undef, .slice list_a list_n list_e, .float .f32 r1, .slice list_a list_n list_e, .int .i64 (list_n : Int), undef, undef, undef, undef, undef, undef, undef, undef, undef, undef, undef, undef, undef, undef, undef, undef, undef, undef, undef, undef, undef, undef, undef, undef, undef, undef, undef, undef, undef, undef, undef, undef, undef, undef, undef, undef, undef, undef, undef, undef, undef, undef, undef, undef, undef, undef] H1 (blockQ 0 (seqQ (exK Try.prog E_spec_l05Break (cr (cr (cr (cr (cr (cr (bodyC Try.f66)))))))) (retK Try.prog Try.f66 K)))) := by kernel_rfl
theorem spec_l05Break_r1 (list_a : Option Addr) (list_e : Nat) (list_n : Nat) (r1 : Nat) (t2 : Int) (t3 : Nat) (t4 : Bool) (best : Int) (vmost : Nat) (k : Int) (g10 g11 g12 g17 g18 g19 g20 g21 g22 g23 g24 g25 g26 g27 g28 g29 g30 g31 g32 g33 g34 g35 g36 g37 g38 g39 g40 g41 g42 g43 g44 g45 g46 g47 g48 g49 g50 g51 g52 g53 g54 g55 g56 g57 g58 g59 g60 : Value) (H : AHeap) (R : Post) : exK Try.prog E_spec_l05Break (cl (cl (cr (cl (cr (cr (cr (cr (cr (bodyC Try.f66)))))))))) [.slice list_a list_n list_e, undef, .int .i64 t2, .float .f32 t3, .bool t4, .float .f32 r1, .int .i64 best, .float .f32 vmost, .int .i64 (list_n : Int), .int .i64 k, g10, g11, g12, .slice list_a list_n list_e, .float .f32 r1, .slice list_a list_n list_e, .int .i64 (list_n : Int), g17, g18, g19, g20, g21, g22, g23, g24, g25, g26, g27, g28, g29, g30, g31, g32, g33, g34, g35, g36, g37, g38, g39, g40, g41, g42, g43, g44, g45, g46, g47, g48, g49, g50, g51, g52, g53, g54, g55, g56, g57, g58, g59, g60, undef, undef] H R =
  (Br (decide ((k : Int) < (list_n : Int))) ((0 : Int) ≤ 0 ∧ 0 ≤ k ∧ k ≤ (list_n : Int) ∧ T_spec_l05Mean ((list_a : Option Addr).map fun a => ⟨a.block, a.off + (0 : Int).toNat * 1, none⟩) (((k : Int) - 0).toNat) 0 H fun (r2 : Nat) (H2 : AHeap) => (0 : Int) ≤ k ∧ k ≤ (list_n : Int) ∧ (list_n : Int) ≤ (list_n : Int) ∧ T_spec_l05Mean ((list_a : Option Addr).map fun a => ⟨a.block, a.off + (k : Int).toNat * 1, none⟩) ((((list_n : Int) : Int) - k).toNat) 0 H2 fun (r3 : Nat) (H3 : AHeap) => T_spec_l01Finite (fadd .f32 (fmul .f32 (fmul .f32 (FloatKind.nearest .f32 k) (fsub .f32 r2 r1)) (fsub .f32 r2 r1)) (fmul .f32 (fmul .f32 (FloatKind.nearest .f32 (IntKind.wrap .i64 ((list_n : Int) - k))) (fsub .f32 r3 r1)) (fsub .f32 r3 r1))) H3 fun (r4 : Bool) (H4 : AHeap) => Br (!r4) (R .ret [.slice list_a list_n list_e, undef, .int .i64 0, .float .f32 0, .bool false, .float .f32 r1, .int .i64 best, .float .f32 vmost, .int .i64 (list_n : Int), .int .i64 k, .float .f32 (fsub .f32 r2 r1), .float .f32 (fsub .f32 r3 r1), .float .f32 (fadd .f32 (fmul .f32 (fmul .f32 (FloatKind.nearest .f32 k) (fsub .f32 r2 r1)) (fsub .f32 r2 r1)) (fmul .f32 (fmul .f32 (FloatKind.nearest .f32 (IntKind.wrap .i64 ((list_n : Int) - k))) (fsub .f32 r3 r1)) (fsub .f32 r3 r1))), .slice list_a list_n list_e, .float .f32 r1, .slice list_a list_n list_e, .int .i64 (list_n : Int), .int .i64 k, .int .i64 (list_n : Int), .bool (decide ((k : Int) < (list_n : Int))), g20, g21, .slice list_a list_n list_e, .int .i64 k, .slice ((list_a : Option Addr).map fun a => ⟨a.block, a.off + (0 : Int).toNat * 1, none⟩) (((k : Int) - 0).toNat) 0, .float .f32 r2, .float .f32 r1, .float .f32 (fsub .f32 r2 r1), .slice list_a list_n list_e, .int .i64 k, .slice ((list_a : Option Addr).map fun a => ⟨a.block, a.off + (k : Int).toNat * 1, none⟩) ((((list_n : Int) : Int) - k).toNat) 0, .float .f32 r3, .float .f32 r1, .float .f32 (fsub .f32 r3 r1), .int .i64 k, .float .f32 (FloatKind.nearest .f32 k), .float .f32 (fsub .f32 r2 r1), .float .f32 (fmul .f32 (FloatKind.nearest .f32 k) (fsub .f32 r2 r1)), .float .f32 (fsub .f32 r2 r1), .float .f32 (fmul .f32 (fmul .f32 (FloatKind.nearest .f32 k) (fsub .f32 r2 r1)) (fsub .f32 r2 r1)), .int .i64 (list_n : Int), .int .i64 k, .int .i64 (IntKind.wrap .i64 ((list_n : Int) - k)), .float .f32 (FloatKind.nearest .f32 (IntKind.wrap .i64 ((list_n : Int) - k))), .float .f32 (fsub .f32 r3 r1), .float .f32 (fmul .f32 (FloatKind.nearest .f32 (IntKind.wrap .i64 ((list_n : Int) - k))) (fsub .f32 r3 r1)), .float .f32 (fsub .f32 r3 r1), .float .f32 (fmul .f32 (fmul .f32 (FloatKind.nearest .f32 (IntKind.wrap .i64 ((list_n : Int) - k))) (fsub .f32 r3 r1)) (fsub .f32 r3 r1)), .float .f32 (fadd .f32 (fmul .f32 (fmul .f32 (FloatKind.nearest .f32 k) (fsub .f32 r2 r1)) (fsub .f32 r2 r1)) (fmul .f32 (fmul .f32 (FloatKind.nearest .f32 (IntKind.wrap .i64 ((list_n : Int) - k))) (fsub .f32 r3 r1)) (fsub .f32 r3 r1))), .float .f32 (fadd .f32 (fmul .f32 (fmul .f32 (FloatKind.nearest .f32 k) (fsub .f32 r2 r1)) (fsub .f32 r2 r1)) (fmul .f32 (fmul .f32 (FloatKind.nearest .f32 (IntKind.wrap .i64 ((list_n : Int) - k))) (fsub .f32 r3 r1)) (fsub .f32 r3 r1))), .bool r4, .bool (!r4), g52, g53, g54, g55, g56, g57, g58, g59, g60, undef, undef] H4) (Br ((best : Int) == 0) (R .normal [.slice list_a list_n list_e, undef, .int .i64 t2, .float .f32 t3, .bool t4, .float .f32 r1, .int .i64 k, .float .f32 (fadd .f32 (fmul .f32 (fmul .f32 (FloatKind.nearest .f32 k) (fsub .f32 r2 r1)) (fsub .f32 r2 r1)) (fmul .f32 (fmul .f32 (FloatKind.nearest .f32 (IntKind.wrap .i64 ((list_n : Int) - k))) (fsub .f32 r3 r1)) (fsub .f32 r3 r1))), .int .i64 (list_n : Int), .int .i64 (IntKind.wrap .i64 (k + 1)), .float .f32 (fsub .f32 r2 r1), .float .f32 (fsub .f32 r3 r1), .float .f32 (fadd .f32 (fmul .f32 (fmul .f32 (FloatKind.nearest .f32 k) (fsub .f32 r2 r1)) (fsub .f32 r2 r1)) (fmul .f32 (fmul .f32 (FloatKind.nearest .f32 (IntKind.wrap .i64 ((list_n : Int) - k))) (fsub .f32 r3 r1)) (fsub .f32 r3 r1))), .slice list_a list_n list_e, .float .f32 r1, .slice list_a list_n list_e, .int .i64 (list_n : Int), .int .i64 k, .int .i64 (list_n : Int), .bool (decide ((k : Int) < (list_n : Int))), .int .i64 k, .int .i64 (IntKind.wrap .i64 (k + 1)), .slice list_a list_n list_e, .int .i64 k, .slice ((list_a : Option Addr).map fun a => ⟨a.block, a.off + (0 : Int).toNat * 1, none⟩) (((k : Int) - 0).toNat) 0, .float .f32 r2, .float .f32 r1, .float .f32 (fsub .f32 r2 r1), .slice list_a list_n list_e, .int .i64 k, .slice ((list_a : Option Addr).map fun a => ⟨a.block, a.off + (k : Int).toNat * 1, none⟩) ((((list_n : Int) : Int) - k).toNat) 0, .float .f32 r3, .float .f32 r1, .float .f32 (fsub .f32 r3 r1), .int .i64 k, .float .f32 (FloatKind.nearest .f32 k), .float .f32 (fsub .f32 r2 r1), .float .f32 (fmul .f32 (FloatKind.nearest .f32 k) (fsub .f32 r2 r1)), .float .f32 (fsub .f32 r2 r1), .float .f32 (fmul .f32 (fmul .f32 (FloatKind.nearest .f32 k) (fsub .f32 r2 r1)) (fsub .f32 r2 r1)), .int .i64 (list_n : Int), .int .i64 k, .int .i64 (IntKind.wrap .i64 ((list_n : Int) - k)), .float .f32 (FloatKind.nearest .f32 (IntKind.wrap .i64 ((list_n : Int) - k))), .float .f32 (fsub .f32 r3 r1), .float .f32 (fmul .f32 (FloatKind.nearest .f32 (IntKind.wrap .i64 ((list_n : Int) - k))) (fsub .f32 r3 r1)), .float .f32 (fsub .f32 r3 r1), .float .f32 (fmul .f32 (fmul .f32 (FloatKind.nearest .f32 (IntKind.wrap .i64 ((list_n : Int) - k))) (fsub .f32 r3 r1)) (fsub .f32 r3 r1)), .float .f32 (fadd .f32 (fmul .f32 (fmul .f32 (FloatKind.nearest .f32 k) (fsub .f32 r2 r1)) (fsub .f32 r2 r1)) (fmul .f32 (fmul .f32 (FloatKind.nearest .f32 (IntKind.wrap .i64 ((list_n : Int) - k))) (fsub .f32 r3 r1)) (fsub .f32 r3 r1))), .float .f32 (fadd .f32 (fmul .f32 (fmul .f32 (FloatKind.nearest .f32 k) (fsub .f32 r2 r1)) (fsub .f32 r2 r1)) (fmul .f32 (fmul .f32 (FloatKind.nearest .f32 (IntKind.wrap .i64 ((list_n : Int) - k))) (fsub .f32 r3 r1)) (fsub .f32 r3 r1))), .bool r4, .bool (!r4), .int .i64 best, .bool ((best : Int) == 0), .bool true, undef, undef, undef, .bool true, .int .i64 k, .float .f32 (fadd .f32 (fmul .f32 (fmul .f32 (FloatKind.nearest .f32 k) (fsub .f32 r2 r1)) (fsub .f32 r2 r1)) (fmul .f32 (fmul .f32 (FloatKind.nearest .f32 (IntKind.wrap .i64 ((list_n : Int) - k))) (fsub .f32 r3 r1)) (fsub .f32 r3 r1))), undef, undef] H4) (Br (flt .f32 vmost (fadd .f32 (fmul .f32 (fmul .f32 (FloatKind.nearest .f32 k) (fsub .f32 r2 r1)) (fsub .f32 r2 r1)) (fmul .f32 (fmul .f32 (FloatKind.nearest .f32 (IntKind.wrap .i64 ((list_n : Int) - k))) (fsub .f32 r3 r1)) (fsub .f32 r3 r1)))) (R .normal [.slice list_a list_n list_e, undef, .int .i64 t2, .float .f32 t3, .bool t4, .float .f32 r1, .int .i64 k, .float .f32 (fadd .f32 (fmul .f32 (fmul .f32 (FloatKind.nearest .f32 k) (fsub .f32 r2 r1)) (fsub .f32 r2 r1)) (fmul .f32 (fmul .f32 (FloatKind.nearest .f32 (IntKind.wrap .i64 ((list_n : Int) - k))) (fsub .f32 r3 r1)) (fsub .f32 r3 r1))), .int .i64 (list_n : Int), .int .i64 (IntKind.wrap .i64 (k + 1)), .float .f32 (fsub .f32 r2 r1), .float .f32 (fsub .f32 r3 r1), .float .f32 (fadd .f32 (fmul .f32 (fmul .f32 (FloatKind.nearest .f32 k) (fsub .f32 r2 r1)) (fsub .f32 r2 r1)) (fmul .f32 (fmul .f32 (FloatKind.nearest .f32 (IntKind.wrap .i64 ((list_n : Int) - k))) (fsub .f32 r3 r1)) (fsub .f32 r3 r1))), .slice list_a list_n list_e, .float .f32 r1, .slice list_a list_n list_e, .int .i64 (list_n : Int), .int .i64 k, .int .i64 (list_n : Int), .bool (decide ((k : Int) < (list_n : Int))), .int .i64 k, .int .i64 (IntKind.wrap .i64 (k + 1)), .slice list_a list_n list_e, .int .i64 k, .slice ((list_a : Option Addr).map fun a => ⟨a.block, a.off + (0 : Int).toNat * 1, none⟩) (((k : Int) - 0).toNat) 0, .float .f32 r2, .float .f32 r1, .float .f32 (fsub .f32 r2 r1), .slice list_a list_n list_e, .int .i64 k, .slice ((list_a : Option Addr).map fun a => ⟨a.block, a.off + (k : Int).toNat * 1, none⟩) ((((list_n : Int) : Int) - k).toNat) 0, .float .f32 r3, .float .f32 r1, .float .f32 (fsub .f32 r3 r1), .int .i64 k, .float .f32 (FloatKind.nearest .f32 k), .float .f32 (fsub .f32 r2 r1), .float .f32 (fmul .f32 (FloatKind.nearest .f32 k) (fsub .f32 r2 r1)), .float .f32 (fsub .f32 r2 r1), .float .f32 (fmul .f32 (fmul .f32 (FloatKind.nearest .f32 k) (fsub .f32 r2 r1)) (fsub .f32 r2 r1)), .int .i64 (list_n : Int), .int .i64 k, .int .i64 (IntKind.wrap .i64 ((list_n : Int) - k)), .float .f32 (FloatKind.nearest .f32 (IntKind.wrap .i64 ((list_n : Int) - k))), .float .f32 (fsub .f32 r3 r1), .float .f32 (fmul .f32 (FloatKind.nearest .f32 (IntKind.wrap .i64 ((list_n : Int) - k))) (fsub .f32 r3 r1)), .float .f32 (fsub .f32 r3 r1), .float .f32 (fmul .f32 (fmul .f32 (FloatKind.nearest .f32 (IntKind.wrap .i64 ((list_n : Int) - k))) (fsub .f32 r3 r1)) (fsub .f32 r3 r1)), .float .f32 (fadd .f32 (fmul .f32 (fmul .f32 (FloatKind.nearest .f32 k) (fsub .f32 r2 r1)) (fsub .f32 r2 r1)) (fmul .f32 (fmul .f32 (FloatKind.nearest .f32 (IntKind.wrap .i64 ((list_n : Int) - k))) (fsub .f32 r3 r1)) (fsub .f32 r3 r1))), .float .f32 (fadd .f32 (fmul .f32 (fmul .f32 (FloatKind.nearest .f32 k) (fsub .f32 r2 r1)) (fsub .f32 r2 r1)) (fmul .f32 (fmul .f32 (FloatKind.nearest .f32 (IntKind.wrap .i64 ((list_n : Int) - k))) (fsub .f32 r3 r1)) (fsub .f32 r3 r1))), .bool r4, .bool (!r4), .int .i64 best, .bool ((best : Int) == 0), .bool false, .float .f32 (fadd .f32 (fmul .f32 (fmul .f32 (FloatKind.nearest .f32 k) (fsub .f32 r2 r1)) (fsub .f32 r2 r1)) (fmul .f32 (fmul .f32 (FloatKind.nearest .f32 (IntKind.wrap .i64 ((list_n : Int) - k))) (fsub .f32 r3 r1)) (fsub .f32 r3 r1))), .float .f32 vmost, .bool (flt .f32 vmost (fadd .f32 (fmul .f32 (fmul .f32 (FloatKind.nearest .f32 k) (fsub .f32 r2 r1)) (fsub .f32 r2 r1)) (fmul .f32 (fmul .f32 (FloatKind.nearest .f32 (IntKind.wrap .i64 ((list_n : Int) - k))) (fsub .f32 r3 r1)) (fsub .f32 r3 r1)))), .bool (flt .f32 vmost (fadd .f32 (fmul .f32 (fmul .f32 (FloatKind.nearest .f32 k) (fsub .f32 r2 r1)) (fsub .f32 r2 r1)) (fmul .f32 (fmul .f32 (FloatKind.nearest .f32 (IntKind.wrap .i64 ((list_n : Int) - k))) (fsub .f32 r3 r1)) (fsub .f32 r3 r1)))), .int .i64 k, .float .f32 (fadd .f32 (fmul .f32 (fmul .f32 (FloatKind.nearest .f32 k) (fsub .f32 r2 r1)) (fsub .f32 r2 r1)) (fmul .f32 (fmul .f32 (FloatKind.nearest .f32 (IntKind.wrap .i64 ((list_n : Int) - k))) (fsub .f32 r3 r1)) (fsub .f32 r3 r1))), undef, undef] H4) (R .normal [.slice list_a list_n list_e, undef, .int .i64 t2, .float .f32 t3, .bool t4, .float .f32 r1, .int .i64 best, .float .f32 vmost, .int .i64 (list_n : Int), .int .i64 (IntKind.wrap .i64 (k + 1)), .float .f32 (fsub .f32 r2 r1), .float .f32 (fsub .f32 r3 r1), .float .f32 (fadd .f32 (fmul .f32 (fmul .f32 (FloatKind.nearest .f32 k) (fsub .f32 r2 r1)) (fsub .f32 r2 r1)) (fmul .f32 (fmul .f32 (FloatKind.nearest .f32 (IntKind.wrap .i64 ((list_n : Int) - k))) (fsub .f32 r3 r1)) (fsub .f32 r3 r1))), .slice list_a list_n list_e, .float .f32 r1, .slice list_a list_n list_e, .int .i64 (list_n : Int), .int .i64 k, .int .i64 (list_n : Int), .bool (decide ((k : Int) < (list_n : Int))), .int .i64 k, .int .i64 (IntKind.wrap .i64 (k + 1)), .slice list_a list_n list_e, .int .i64 k, .slice ((list_a : Option Addr).map fun a => ⟨a.block, a.off + (0 : Int).toNat * 1, none⟩) (((k : Int) - 0).toNat) 0, .float .f32 r2, .float .f32 r1, .float .f32 (fsub .f32 r2 r1), .slice list_a list_n list_e, .int .i64 k, .slice ((list_a : Option Addr).map fun a => ⟨a.block, a.off + (k : Int).toNat * 1, none⟩) ((((list_n : Int) : Int) - k).toNat) 0, .float .f32 r3, .float .f32 r1, .float .f32 (fsub .f32 r3 r1), .int .i64 k, .float .f32 (FloatKind.nearest .f32 k), .float .f32 (fsub .f32 r2 r1), .float .f32 (fmul .f32 (FloatKind.nearest .f32 k) (fsub .f32 r2 r1)), .float .f32 (fsub .f32 r2 r1), .float .f32 (fmul .f32 (fmul .f32 (FloatKind.nearest .f32 k) (fsub .f32 r2 r1)) (fsub .f32 r2 r1)), .int .i64 (list_n : Int), .int .i64 k, .int .i64 (IntKind.wrap .i64 ((list_n : Int) - k)), .float .f32 (FloatKind.nearest .f32 (IntKind.wrap .i64 ((list_n : Int) - k))), .float .f32 (fsub .f32 r3 r1), .float .f32 (fmul .f32 (FloatKind.nearest .f32 (IntKind.wrap .i64 ((list_n : Int) - k))) (fsub .f32 r3 r1)), .float .f32 (fsub .f32 r3 r1), .float .f32 (fmul .f32 (fmul .f32 (FloatKind.nearest .f32 (IntKind.wrap .i64 ((list_n : Int) - k))) (fsub .f32 r3 r1)) (fsub .f32 r3 r1)), .float .f32 (fadd .f32 (fmul .f32 (fmul .f32 (FloatKind.nearest .f32 k) (fsub .f32 r2 r1)) (fsub .f32 r2 r1)) (fmul .f32 (fmul .f32 (FloatKind.nearest .f32 (IntKind.wrap .i64 ((list_n : Int) - k))) (fsub .f32 r3 r1)) (fsub .f32 r3 r1))), .float .f32 (fadd .f32 (fmul .f32 (fmul .f32 (FloatKind.nearest .f32 k) (fsub .f32 r2 r1)) (fsub .f32 r2 r1)) (fmul .f32 (fmul .f32 (FloatKind.nearest .f32 (IntKind.wrap .i64 ((list_n : Int) - k))) (fsub .f32 r3 r1)) (fsub .f32 r3 r1))), .bool r4, .bool (!r4), .int .i64 best, .bool ((best : Int) == 0), .bool false, .float .f32 (fadd .f32 (fmul .f32 (fmul .f32 (FloatKind.nearest .f32 k) (fsub .f32 r2 r1)) (fsub .f32 r2 r1)) (fmul .f32 (fmul .f32 (FloatKind.nearest .f32 (IntKind.wrap .i64 ((list_n : Int) - k))) (fsub .f32 r3 r1)) (fsub .f32 r3 r1))), .float .f32 vmost, .bool (flt .f32 vmost (fadd .f32 (fmul .f32 (fmul .f32 (FloatKind.nearest .f32 k) (fsub .f32 r2 r1)) (fsub .f32 r2 r1)) (fmul .f32 (fmul .f32 (FloatKind.nearest .f32 (IntKind.wrap .i64 ((list_n : Int) - k))) (fsub .f32 r3 r1)) (fsub .f32 r3 r1)))), .bool (flt .f32 vmost (fadd .f32 (fmul .f32 (fmul .f32 (FloatKind.nearest .f32 k) (fsub .f32 r2 r1)) (fsub .f32 r2 r1)) (fmul .f32 (fmul .f32 (FloatKind.nearest .f32 (IntKind.wrap .i64 ((list_n : Int) - k))) (fsub .f32 r3 r1)) (fsub .f32 r3 r1)))), g59, g60, undef, undef] H4)))) (R (.exit 0) [.slice list_a list_n list_e, undef, .int .i64 t2, .float .f32 t3, .bool t4, .float .f32 r1, .int .i64 best, .float .f32 vmost, .int .i64 (list_n : Int), .int .i64 k, g10, g11, g12, .slice list_a list_n list_e, .float .f32 r1, .slice list_a list_n list_e, .int .i64 (list_n : Int), .int .i64 k, .int .i64 (list_n : Int), .bool (decide ((k : Int) < (list_n : Int))), g20, g21, g22, g23, g24, g25, g26, g27, g28, g29, g30, g31, g32, g33, g34, g35, g36, g37, g38, g39, g40, g41, g42, g43, g44, g45, g46, g47, g48, g49, g50, g51, g52, g53, g54, g55, g56, g57, g58, g59, g60, undef, undef] H)) := by kernel_rfl
def spec_l05Break_I1 (list_a : Option Addr) (list_e : Nat) (list_n : Nat) (r1 : Nat) (Inv : Nat → Int → Nat → Bool → Int → Nat → Int → AHeap → Prop) : Nat → List Value → AHeap → Prop := fun μ tm H => ∃ (t2 : Int), ∃ (t3 : Nat), ∃ (t4 : Bool), ∃ (best : Int), ∃ (vmost : Nat), ∃ (k : Int), ∃ g10 g11 g12 g17 g18 g19 g20 g21 g22 g23 g24 g25 g26 g27 g28 g29 g30 g31 g32 g33 g34 g35 g36 g37 g38 g39 g40 g41 g42 g43 g44 g45 g46 g47 g48 g49 g50 g51 g52 g53 g54 g55 g56 g57 g58 g59 g60, tm = [.slice list_a list_n list_e, undef, .int .i64 t2, .float .f32 t3, .bool t4, .float .f32 r1, .int .i64 best, .float .f32 vmost, .int .i64 (list_n : Int), .int .i64 k, g10, g11, g12, .slice list_a list_n list_e, .float .f32 r1, .slice list_a list_n list_e, .int .i64 (list_n : Int), g17, g18, g19, g20, g21, g22, g23, g24, g25, g26, g27, g28, g29, g30, g31, g32, g33, g34, g35, g36, g37, g38, g39, g40, g41, g42, g43, g44, g45, g46, g47, g48, g49, g50, g51, g52, g53, g54, g55, g56, g57, g58, g59, g60, undef, undef] ∧ Inv μ t2 t3 t4 best vmost k H
theorem spec_l05Break_L1 (list_a : Option Addr) (list_e : Nat) (list_n : Nat) (r1 : Nat) {Q : Post} (Inv : Nat → Int → Nat → Bool → Int → Nat → Int → AHeap → Prop) (ν : Nat) (t2 : Int) (t3 : Nat) (t4 : Bool) (best : Int) (vmost : Nat) (k : Int) (g10 g11 g12 g17 g18 g19 g20 g21 g22 g23 g24 g25 g26 g27 g28 g29 g30 g31 g32 g33 g34 g35 g36 g37 g38 g39 g40 g41 g42 g43 g44 g45 g46 g47 g48 g49 g50 g51 g52 g53 g54 g55 g56 g57 g58 g59 g60 : Value) (H : AHeap) (h0 : Inv ν t2 t3 t4 best vmost k H)
    (hs : ∀ (μ : Nat) (t2 : Int) (t3 : Nat) (t4 : Bool) (best : Int) (vmost : Nat) (k : Int) (g10 g11 g12 g17 g18 g19 g20 g21 g22 g23 g24 g25 g26 g27 g28 g29 g30 g31 g32 g33 g34 g35 g36 g37 g38 g39 g40 g41 g42 g43 g44 g45 g46 g47 g48 g49 g50 g51 g52 g53 g54 g55 g56 g57 g58 g59 g60 : Value) (H : AHeap), Inv μ t2 t3 t4 best vmost k H → exK Try.prog E_spec_l05Break (cl (cl (cr (cl (cr (cr (cr (cr (cr (bodyC Try.f66)))))))))) [.slice list_a list_n list_e, undef, .int .i64 t2, .float .f32 t3, .bool t4, .float .f32 r1, .int .i64 best, .float .f32 vmost, .int .i64 (list_n : Int), .int .i64 k, g10, g11, g12, .slice list_a list_n list_e, .float .f32 r1, .slice list_a list_n list_e, .int .i64 (list_n : Int), g17, g18, g19, g20, g21, g22, g23, g24, g25, g26, g27, g28, g29, g30, g31, g32, g33, g34, g35, g36, g37, g38, g39, g40, g41, g42, g43, g44, g45, g46, g47, g48, g49, g50, g51, g52, g53, g54, g55, g56, g57, g58, g59, g60, undef, undef] H (loopQ (spec_l05Break_I1 list_a list_e list_n r1 Inv) μ Q)) : loopK (exK Try.prog E_spec_l05Break (cl (cl (cr (cl (cr (cr (cr (cr (cr (bodyC Try.f66))))))))))) [.slice list_a list_n list_e, undef, .int .i64 t2, .float .f32 t3, .bool t4, .float .f32 r1, .int .i64 best, .float .f32 vmost, .int .i64 (list_n : Int), .int .i64 k, g10, g11, g12, .slice list_a list_n list_e, .float .f32 r1, .slice list_a list_n list_e, .int .i64 (list_n : Int), g17, g18, g19, g20, g21, g22, g23, g24, g25, g26, g27, g28, g29, g30, g31, g32, g33, g34, g35, g36, g37, g38, g39, g40, g41, g42, g43, g44, g45, g46, g47, g48, g49, g50, g51, g52, g53, g54, g55, g56, g57, g58, g59, g60, undef, undef] H Q :=
  ⟨spec_l05Break_I1 list_a list_e list_n r1 Inv, ν, ⟨t2, t3, t4, best, vmost, k, g10, g11, g12, g17, g18, g19, g20, g21, g22, g23, g24, g25, g26, g27, g28, g29, g30, g31, g32, g33, g34, g35, g36, g37, g38, g39, g40, g41, g42, g43, g44, g45, g46, g47, g48, g49, g50, g51, g52, g53, g54, g55, g56, g57, g58, g59, g60, rfl, h0⟩, fun μ tm H h => by obtain ⟨t2, t3, t4, best, vmost, k, g10, g11, g12, g17, g18, g19, g20, g21, g22, g23, g24, g25, g26, g27, g28, g29, g30, g31, g32, g33, g34, g35, g36, g37, g38, g39, g40, g41, g42, g43, g44, g45, g46, g47, g48, g49, g50, g51, g52, g53, g54, g55, g56, g57, g58, g59, g60, rfl, hI⟩ := h; exact hs μ t2 t3 t4 best vmost k g10 g11 g12 g17 g18 g19 g20 g21 g22 g23 g24 g25 g26 g27 g28 g29 g30 g31 g32 g33 g34 g35 g36 g37 g38 g39 g40 g41 g42 g43 g44 g45 g46 g47 g48 g49 g50 g51 g52 g53 g54 g55 g56 g57 g58 g59 g60 H hI⟩
theorem spec_l05Break_n1 {list_a : Option Addr} {list_e : Nat} {list_n : Nat} {r1 : Nat} {Q : Post} {Inv : Nat → Int → Nat → Bool → Int → Nat → Int → AHeap → Prop} {μ : Nat} (μ' : Nat) {t2 : Int} {t3 : Nat} {t4 : Bool} {best : Int} {vmost : Nat} {k : Int} {g10 g11 g12 g17 g18 g19 g20 g21 g22 g23 g24 g25 g26 g27 g28 g29 g30 g31 g32 g33 g34 g35 g36 g37 g38 g39 g40 g41 g42 g43 g44 g45 g46 g47 g48 g49 g50 g51 g52 g53 g54 g55 g56 g57 g58 g59 g60 : Value} {H : AHeap} (hm : μ' < μ) (hI : Inv μ' t2 t3 t4 best vmost k H) : loopQ (spec_l05Break_I1 list_a list_e list_n r1 Inv) μ Q .normal [.slice list_a list_n list_e, undef, .int .i64 t2, .float .f32 t3, .bool t4, .float .f32 r1, .int .i64 best, .float .f32 vmost, .int .i64 (list_n : Int), .int .i64 k, g10, g11, g12, .slice list_a list_n list_e, .float .f32 r1, .slice list_a list_n list_e, .int .i64 (list_n : Int), g17, g18, g19, g20, g21, g22, g23, g24, g25, g26, g27, g28, g29, g30, g31, g32, g33, g34, g35, g36, g37, g38, g39, g40, g41, g42, g43, g44, g45, g46, g47, g48, g49, g50, g51, g52, g53, g54, g55, g56, g57, g58, g59, g60, undef, undef] H := ⟨μ', hm, t2, t3, t4, best, vmost, k, g10, g11, g12, g17, g18, g19, g20, g21, g22, g23, g24, g25, g26, g27, g28, g29, g30, g31, g32, g33, g34, g35, g36, g37, g38, g39, g40, g41, g42, g43, g44, g45, g46, g47, g48, g49, g50, g51, g52, g53, g54, g55, g56, g57, g58, g59, g60, rfl, hI⟩
theorem spec_l05Break_x1_0 (list_a : Option Addr) (list_e : Nat) (list_n : Nat) (r1 : Nat) (t2 : Int) (t3 : Nat) (t4 : Bool) (best : Int) (vmost : Nat) (k : Int) (g10 g11 g12 g17 g18 g19 g20 g21 g22 g23 g24 g25 g26 g27 g28 g29 g30 g31 g32 g33 g34 g35 g36 g37 g38 g39 g40 g41 g42 g43 g44 g45 g46 g47 g48 g49 g50 g51 g52 g53 g54 g55 g56 g57 g58 g59 g60 : Value) (H : AHeap) (K : Value → AHeap → Prop)  {I : Nat → List Value → AHeap → Prop} {μ : Nat} : loopQ I μ (blockQ 0 (seqQ (exK Try.prog E_spec_l05Break (cr (cr (cr (cr (cr (cr (bodyC Try.f66)))))))) (retK Try.prog Try.f66 K))) (.exit 0) [.slice list_a list_n list_e, undef, .int .i64 t2, .float .f32 t3, .bool t4, .float .f32 r1, .int .i64 best, .float .f32 vmost, .int .i64 (list_n : Int), .int .i64 k, g10, g11, g12, .slice list_a list_n list_e, .float .f32 r1, .slice list_a list_n list_e, .int .i64 (list_n : Int), g17, g18, g19, g20, g21, g22, g23, g24, g25, g26, g27, g28, g29, g30, g31, g32, g33, g34, g35, g36, g37, g38, g39, g40, g41, g42, g43, g44, g45, g46, g47, g48, g49, g50, g51, g52, g53, g54, g55, g56, g57, g58, g59, g60, undef, undef] H =
  (K (.tuple #[.int .i64 best, .float .f32 vmost, .bool true]) H) := by kernel_rfl
theorem spec_l05Break_x1_ret (list_a : Option Addr) (list_e : Nat) (list_n : Nat) (r1 : Nat) (t2 : Int) (t3 : Nat) (t4 : Bool) (best : Int) (vmost : Nat) (k : Int) (g10 g11 g12 g17 g18 g19 g20 g21 g22 g23 g24 g25 g26 g27 g28 g29 g30 g31 g32 g33 g34 g35 g36 g37 g38 g39 g40 g41 g42 g43 g44 g45 g46 g47 g48 g49 g50 g51 g52 g53 g54 g55 g56 g57 g58 g59 g60 : Value) (H : AHeap) (K : Value → AHeap → Prop)  {I : Nat → List Value → AHeap → Prop} {μ : Nat} : loopQ I μ (blockQ 0 (seqQ (exK Try.prog E_spec_l05Break (cr (cr (cr (cr (cr (cr (bodyC Try.f66)))))))) (retK Try.prog Try.f66 K))) .ret [.slice list_a list_n list_e, undef, .int .i64 t2, .float .f32 t3, .bool t4, .float .f32 r1, .int .i64 best, .float .f32 vmost, .int .i64 (list_n : Int), .int .i64 k, g10, g11, g12, .slice list_a list_n list_e, .float .f32 r1, .slice list_a list_n list_e, .int .i64 (list_n : Int), g17, g18, g19, g20, g21, g22, g23, g24, g25, g26, g27, g28, g29, g30, g31, g32, g33, g34, g35, g36, g37, g38, g39, g40, g41, g42, g43, g44, g45, g46, g47, g48, g49, g50, g51, g52, g53, g54, g55, g56, g57, g58, g59, g60, undef, undef] H =
  (K (.tuple #[.int .i64 t2, .float .f32 t3, .bool t4]) H) := by kernel_rfl
theorem E_spec_l05Break_ok : ∀ g, FnOk Try.prog g (E_spec_l05Break g) := FnOk.envOf (by
  intro x hx
  simp only [List.mem_cons, List.not_mem_nil, or_false] at hx
  rcases hx with rfl | rfl
  · exact spec_l05Mean_ok
  · exact spec_l01Finite_ok)
set_option maxHeartbeats 1000000 in
theorem spec_l05Break_main (list_a : Option Addr) (list_n : Nat) (list_e : Nat) (H : AHeap) (K : Value → AHeap → Prop) (h : T_spec_l05Break list_a list_n list_e H fun (r1 : Int) (r2 : Nat) (r3 : Bool) (H' : AHeap) => K (.tuple #[.int .i64 r1, .float .f32 r2, .bool r3]) H') : bodyK Try.prog E_spec_l05Break Try.f66 [.slice list_a list_n list_e] H K := by
  rw [spec_l05Break_vc]
  obtain ⟨l_list, i_list, bd_12, hk⟩ := h
  obtain rfl := i_list.eqn
  have e : (p_spec_l05Break l_list) = _ := rfl
  have e := e.trans (p_spec_l05Break_eq l_list)
  have g0 := Grow.refl H
  refine T_spec_l05Mean_i ⟨_, (i_list.grow g0), (by first | omega | (simp only [List.length_set, List.length_replicate, List.length_append, List.length_cons, List.length_nil, List.length_take, List.length_drop, marks_length]; done) | (simp only [List.length_set, List.length_replicate, List.length_append, List.length_cons, List.length_nil, List.length_take, List.length_drop, marks_length]; omega)), ?_⟩
  refine spec_l05Break_L1 _ _ _ _ (fun (μ : Nat) (t2 : Int) (t3 : Nat) (t4 : Bool) (best : Int) (vmost : Nat) (k : Int) (H_1 : AHeap) => H = H_1 ∧ (1 : Int) ≤ k ∧ ((k ≤ (l_list.length : Int) ∨ k ≤ (1 : Int))) ∧ (l_list.length : Int) - k ≤ (μ : Int) ∧ p_spec_l05Break l_list = p_spec_l05Break_l1 l_list (μ + 1) t2 t3 t4 best vmost k) (Int.toNat ((l_list.length : Int) - (1 : Int))) _ _ _ _ _ _ _ _ _ _ _ _ _ _ _ _ _ _ _ _ _ _ _ _ _ _ _ _ _ _ _ _ _ _ _ _ _ _ _ _ _ _ _ _ _ _ _ _ _ _ _ _ _ H ?_ ?_
  · exact ⟨rfl, (by first | omega | (simp; done) | (simp; omega)), (by first | omega | (simp; done) | (simp; omega)), (by omega), e⟩
  · intro μ t2 t3 t4 best vmost k g10 g11 g12 g17 g18 g19 g20 g21 g22 g23 g24 g25 g26 g27 g28 g29 g30 g31 g32 g33 g34 g35 g36 g37 g38 g39 g40 g41 g42 g43 g44 g45 g46 g47 g48 g49 g50 g51 g52 g53 g54 g55 g56 g57 g58 g59 g60 H_1 hI
    obtain ⟨rfl, v_1, v_2, hμ, e⟩ := hI
    rw [spec_l05Break_r1]
    have e := e.trans (p_spec_l05Break_l1_s l_list μ t2 t3 t4 best vmost k)
    have l_3 := g0.1
    refine Br.intro (fun c_4 => ?_) (fun c_4 => ?_)
    · have e := e.trans (cond_t c_4)
      have c_4' := of_decide_eq_true c_4
      refine ⟨by omega, by omega, by omega, ?_⟩
      have i_5 := sub_isl (i_list.grow g0) (lo := 0) (hi := k) (by omega) (by omega) (by omega)
      have g_6 := Grow.refl H
      refine T_spec_l05Mean_i ⟨_, (i_5.grow g_6), (by first | omega | (simp only [List.length_set, List.length_replicate, List.length_append, List.length_cons, List.length_nil, List.length_take, List.length_drop, marks_length]; done) | (simp only [List.length_set, List.length_replicate, List.length_append, List.length_cons, List.length_nil, List.length_take, List.length_drop, marks_length]; omega)), ?_⟩
      refine ⟨by omega, by omega, by omega, ?_⟩
      have i_7 := sub_isl (i_list.grow g_6) (lo := k) (hi := (l_list.length : Int)) (by omega) (by omega) (by omega)
      have g_8 := Grow.refl H
      refine T_spec_l05Mean_i ⟨_, (i_7.grow g_8), (by first | omega | (simp only [List.length_set, List.length_replicate, List.length_append, List.length_cons, List.length_nil, List.length_take, List.length_drop, marks_length]; done) | (simp only [List.length_set, List.length_replicate, List.length_append, List.length_cons, List.length_nil, List.length_take, List.length_drop, marks_length]; omega)), ?_⟩
      refine T_spec_l01Finite_i ?_
      refine Br.intro (fun c_9 => ?_) (fun c_9 => ?_)
      · have e := e.trans (cond_t c_9)
        have c_9n := nf_of_t c_9
        rw [spec_l05Break_x1_ret]
        rw [e] at hk
        exact hk
      · have e := e.trans (cond_f c_9)
        have c_9n := nt_of_f c_9
        refine Br.intro (fun c_10 => ?_) (fun c_10 => ?_)
        · have e := e.trans (cond_t c_10)
          have c_10' := ieq_t c_10
          rw [show IntKind.wrap .i64 (k + 1) = (k + 1) from wrap64 (by omega) (by omega)]
          refine spec_l05Break_n1 (μ - 1) (by omega) ⟨rfl, (by first | omega | (simp only [List.length_append, List.length_cons, List.length_nil, List.length_set]; done) | (simp only [List.length_append, List.length_cons, List.length_nil, List.length_set]; omega)), (by first | omega | (simp only [List.length_append, List.length_cons, List.length_nil, List.length_set]; done) | (simp only [List.length_append, List.length_cons, List.length_nil, List.length_set]; omega)), (by omega), (by rw [show μ - 1 + 1 = μ from by omega]; exact e)⟩
        · have e := e.trans (cond_f c_10)
          have c_10' := ieq_f c_10
          refine Br.intro (fun c_11 => ?_) (fun c_11 => ?_)
          · have e := e.trans (cond_t c_11)
            rw [show IntKind.wrap .i64 (k + 1) = (k + 1) from wrap64 (by omega) (by omega)]
            refine spec_l05Break_n1 (μ - 1) (by omega) ⟨rfl, (by first | omega | (simp only [List.length_append, List.length_cons, List.length_nil, List.length_set]; done) | (simp only [List.length_append, List.length_cons, List.length_nil, List.length_set]; omega)), (by first | omega | (simp only [List.length_append, List.length_cons, List.length_nil, List.length_set]; done) | (simp only [List.length_append, List.length_cons, List.length_nil, List.length_set]; omega)), (by omega), (by rw [show μ - 1 + 1 = μ from by omega]; exact e)⟩
          · have e := e.trans (cond_f c_11)
            rw [show IntKind.wrap .i64 (k + 1) = (k + 1) from wrap64 (by omega) (by omega)]
            refine spec_l05Break_n1 (μ - 1) (by omega) ⟨rfl, (by first | omega | (simp only [List.length_append, List.length_cons, List.length_nil, List.length_set]; done) | (simp only [List.length_append, List.length_cons, List.length_nil, List.length_set]; omega)), (by first | omega | (simp only [List.length_append, List.length_cons, List.length_nil, List.length_set]; done) | (simp only [List.length_append, List.length_cons, List.length_nil, List.length_set]; omega)), (by omega), (by rw [show μ - 1 + 1 = μ from by omega]; exact e)⟩
    · have e := e.trans (cond_f c_4)
      have c_4' := of_decide_eq_false c_4
      rw [spec_l05Break_x1_0]
      rw [e] at hk
      exact hk
theorem spec_l05Break_ok : FnOk Try.prog 66 S_spec_l05Break := by
  refine FnOk.body mix_ok E_spec_l05Break_ok Try.func66 rfl (by kernel_rfl) (by kernel_rfl) ?_ ?_ ?_ ?_ ?_
  · intro args H K K' h hk
    simp only [S_spec_l05Break] at *
    unfold F_spec_l05Break at *
    split at hk
    · obtain ⟨l_list, i_list, bd_12, k⟩ := hk
      exact ⟨l_list, i_list, bd_12, h _ _ k⟩
    · exact hk.elim
  · intro _ args H K hk
    simp only [S_spec_l05Break] at *
    unfold F_spec_l05Break at *
    split at hk
    · obtain ⟨l_list, i_list, bd_12, k⟩ := hk
      exact ⟨_, k, fun K' k' => ⟨l_list, i_list, bd_12, k'⟩⟩
    · exact hk.elim
  · intro args H K hk
    simp only [S_spec_l05Break] at *
    unfold F_spec_l05Break at *
    split at hk
    · obtain ⟨l_list, i_list, bd_12, k⟩ := hk
      exact ⟨_, _, k⟩
    · exact hk.elim
  · intro hq; cases hq
  · have mm := @spec_l05Break_main
    revert mm
    generalize bodyK Try.prog E_spec_l05Break Try.f66 = Q
    intro mm args H K hk
    simp only [S_spec_l05Break] at *
    unfold F_spec_l05Break at *
    split at hk
    · exact mm _ _ _ H K hk
    · exact hk.elim
def p_spec_BestBreak (l_list : List Nat) : Int × Nat × Bool := (bif !(p_spec_l03Long l_list) then ((0 : Int), 0, false) else (bif decide (((l_list.length : Int) : Int) < 2) then ((0 : Int), 0, false) else ((p_spec_l05Break l_list).1, (p_spec_l05Break l_list).2.1, (p_spec_l05Break l_list).2.2)))
theorem p_spec_BestBreak_eq (l_list : List Nat) : p_spec_BestBreak l_list = (bif !(p_spec_l03Long l_list) then ((0 : Int), 0, false) else (bif decide (((l_list.length : Int) : Int) < 2) then ((0 : Int), 0, false) else ((p_spec_l05Break l_list).1, (p_spec_l05Break l_list).2.1, (p_spec_l05Break l_list).2.2))) := rfl
def T_spec_BestBreak (list_a : Option Addr) (list_n : Nat) (list_e : Nat) (H : AHeap) (K : Int → Nat → Bool → AHeap → Prop) : Prop := ∃ (l_list : List Nat), IsL fF H list_a list_n l_list ∧ l_list.length < 1073741824 ∧ K ((p_spec_BestBreak l_list).1) ((p_spec_BestBreak l_list).2.1) ((p_spec_BestBreak l_list).2.2) H
theorem T_spec_BestBreak_i {list_a : Option Addr} {list_n : Nat} {list_e : Nat} {H : AHeap} {K : Int → Nat → Bool → AHeap → Prop} (h : ∃ (l_list : List Nat), IsL fF H list_a list_n l_list ∧ l_list.length < 1073741824 ∧ K ((p_spec_BestBreak l_list).1) ((p_spec_BestBreak l_list).2.1) ((p_spec_BestBreak l_list).2.2) H) : T_spec_BestBreak list_a list_n list_e H K := h

/-! spec_BestBreak: function 37 -/
def E_spec_BestBreak : Env := envOf [(61, S_spec_l03Long), (66, S_spec_l05Break)]
def F_spec_BestBreak : List Value → AHeap → (Value → AHeap → Prop) → Prop
  | [.slice list_a list_n list_e], H, K => T_spec_BestBreak list_a list_n list_e H fun (r1 : Int) (r2 : Nat) (r3 : Bool) (H' : AHeap) => K (.tuple #[.int .i64 r1, .float .f32 r2, .bool r3]) H'
  | _, _, _ => False
def S_spec_BestBreak : FSpec := { F := F_spec_BestBreak, quiet := true, tame := false }
theorem spec_BestBreak_vc (list_a : Option Addr) (list_n : Nat) (list_e : Nat) (H : AHeap) (K : Value → AHeap → Prop) : bodyK Try.prog E_spec_BestBreak Try.f37 [.slice list_a list_n list_e] H K =
  (T_spec_l03Long list_a list_n list_e H fun (r1 : Bool) (H1 : AHeap) => Br (!r1) (K (.tuple #[.int .i64 0, .float .f32 0, .bool false]) H1) (Br (decide (((list_n : Int) : Int) < 2)) (K (.tuple #[.int .i64 0, .float .f32 0, .bool false]) H1) (T_spec_l05Break list_a list_n list_e H1 fun (r2 : Int) (r3 : Nat) (r4 : Bool) (H2 : AHeap) => K (.tuple #[.int .i64 r2, .float .f32 r3, .bool r4]) H2))) := by kernel_rfl
theorem E_spec_BestBreak_ok : ∀ g, FnOk Try.prog g (E_spec_BestBreak g) := FnOk.envOf (by
  intro x hx
  simp only [List.mem_cons, List.not_mem_nil, or_false] at hx
  rcases hx with rfl | rfl
  · exact spec_l03Long_ok
  · exact spec_l05Break_ok)
set_option maxHeartbeats 1000000 in
theorem spec_BestBreak_main (list_a : Option Addr) (list_n : Nat) (list_e : Nat) (H : AHeap) (K : Value → AHeap → Prop) (h : T_spec_BestBreak list_a list_n list_e H fun (r1 : Int) (r2 : Nat) (r3 : Bool) (H' : AHeap) => K (.tuple #[.int .i64 r1, .float .f32 r2, .bool r3]) H') : bodyK Try.prog E_spec_BestBreak Try.f37 [.slice list_a list_n list_e] H K := by
  rw [spec_BestBreak_vc]
  obtain ⟨l_list, i_list, bd_3, hk⟩ := h
  obtain rfl := i_list.eqn
  have e : (p_spec_BestBreak l_list) = _ := rfl
  have e := e.trans (p_spec_BestBreak_eq l_list)
  have g0 := Grow.refl H
  refine T_spec_l03Long_i ⟨_, (i_list.grow g0), (by first | omega | (simp only [List.length_set, List.length_replicate, List.length_append, List.length_cons, List.length_nil, List.length_take, List.length_drop, marks_length]; done) | (simp only [List.length_set, List.length_replicate, List.length_append, List.length_cons, List.length_nil, List.length_take, List.length_drop, marks_length]; omega)), ?_⟩
  refine Br.intro (fun c_1 => ?_) (fun c_1 => ?_)
  · have e := e.trans (cond_t c_1)
    have c_1n := nf_of_t c_1
    rw [e] at hk
    exact hk
  · have e := e.trans (cond_f c_1)
    have c_1n := nt_of_f c_1
    have c_1n' := spec_l03Long_t c_1n
    refine Br.intro (fun c_2 => ?_) (fun c_2 => ?_)
    · have e := e.trans (cond_t c_2)
      have c_2' := of_decide_eq_true c_2
      rw [e] at hk
      exact hk
    · have e := e.trans (cond_f c_2)
      have c_2' := of_decide_eq_false c_2
      refine T_spec_l05Break_i ⟨_, (i_list.grow g0), (by first | omega | (simp only [List.length_set, List.length_replicate, List.length_append, List.length_cons, List.length_nil, List.length_take, List.length_drop, marks_length]; done) | (simp only [List.length_set, List.length_replicate, List.length_append, List.length_cons, List.length_nil, List.length_take, List.length_drop, marks_length]; omega)), ?_⟩
      rw [e] at hk
      exact hk
theorem spec_BestBreak_ok : FnOk Try.prog 37 S_spec_BestBreak := by
  refine FnOk.body mix_ok E_spec_BestBreak_ok Try.func37 rfl (by kernel_rfl) (by kernel_rfl) ?_ ?_ ?_ ?_ ?_
  · intro args H K K' h hk
    simp only [S_spec_BestBreak] at *
    unfold F_spec_BestBreak at *
    split at hk
    · obtain ⟨l_list, i_list, bd_3, k⟩ := hk
      exact ⟨l_list, i_list, bd_3, h _ _ k⟩
    · exact hk.elim
  · intro _ args H K hk
    simp only [S_spec_BestBreak] at *
    unfold F_spec_BestBreak at *
    split at hk
    · obtain ⟨l_list, i_list, bd_3, k⟩ := hk
      exact ⟨_, k, fun K' k' => ⟨l_list, i_list, bd_3, k'⟩⟩
    · exact hk.elim
  · intro args H K hk
    simp only [S_spec_BestBreak] at *
    unfold F_spec_BestBreak at *
    split at hk
    · obtain ⟨l_list, i_list, bd_3, k⟩ := hk
      exact ⟨_, _, k⟩
    · exact hk.elim
  · intro hq; cases hq
  · have mm := @spec_BestBreak_main
    revert mm
    generalize bodyK Try.prog E_spec_BestBreak Try.f37 = Q
    intro mm args H K hk
    simp only [S_spec_BestBreak] at *
    unfold F_spec_BestBreak at *
    split at hk
    · exact mm _ _ _ H K hk
    · exact hk.elim
def p_impl_within (n : Int) (low : Int) (high : Int) : Bool := (bif decide ((low : Int) ≤ n) then decide ((n : Int) ≤ high) else false)
theorem p_impl_within_eq (n : Int) (low : Int) (high : Int) : p_impl_within n low high = (bif decide ((low : Int) ≤ n) then decide ((n : Int) ≤ high) else false) := rfl
def T_impl_within (n : Int) (low : Int) (high : Int) (H : AHeap) (K : Bool → AHeap → Prop) : Prop := K (p_impl_within n low high) H
theorem impl_within_t {n a b : Int} (h : p_impl_within n a b = true) : a ≤ n ∧ n ≤ b := by
  unfold p_impl_within at h
  by_cases h1 : a ≤ n
  · rw [decide_eq_true h1, cond_true] at h; exact ⟨h1, of_decide_eq_true h⟩
  · rw [decide_eq_false h1] at h; cases h
theorem T_impl_within_i {n : Int} {low : Int} {high : Int} {H : AHeap} {K : Bool → AHeap → Prop} (h : K (p_impl_within n low high) H) : T_impl_within n low high H K := h
/-! impl_within: function 52 -/
def E_impl_within : Env := envOf []
def F_impl_within : List Value → AHeap → (Value → AHeap → Prop) → Prop
  | [.int .i64 n, .int .i64 low, .int .i64 high], H, K => T_impl_within n low high H fun (r1 : Bool) (H' : AHeap) => K (.bool r1) H'
  | _, _, _ => False
def S_impl_within : FSpec := { F := F_impl_within, quiet := true, tame := false }
theorem impl_within_vc (n : Int) (low : Int) (high : Int) (H : AHeap) (K : Value → AHeap → Prop) : bodyK Try.prog E_impl_within Try.f52 [.int .i64 n, .int .i64 low, .int .i64 high] H K =
  (Br (decide ((low : Int) ≤ n)) (K (.bool (decide ((n : Int) ≤ high))) H) (K (.bool false) H)) := by kernel_rfl
theorem E_impl_within_ok : ∀ g, FnOk Try.prog g (E_impl_within g) := FnOk.envOf (by
  intro x hx; cases hx)
set_option maxHeartbeats 1000000 in
theorem impl_within_main (n : Int) (low : Int) (high : Int) (H : AHeap) (K : Value → AHeap → Prop) (h : T_impl_within n low high H fun (r1 : Bool) (H' : AHeap) => K (.bool r1) H') : bodyK Try.prog E_impl_within Try.f52 [.int .i64 n, .int .i64 low, .int .i64 high] H K := by
  rw [impl_within_vc]
  unfold T_impl_within p_impl_within at h
  repeat' (first | exact h | (exfalso; simp_all; done) | (refine ⟨by decide, ?_⟩) | (refine Br.intro (fun hb => ?_) (fun hb => ?_) <;> (try simp only [hb, cond_true, cond_false, Bool.not_true, Bool.not_false] at h)))
theorem impl_within_ok : FnOk Try.prog 52 S_impl_within := by
  refine FnOk.body mix_ok E_impl_within_ok Try.func52 rfl (by kernel_rfl) (by kernel_rfl) ?_ ?_ ?_ ?_ ?_
  · intro args H K K' h hk
    simp only [S_impl_within] at *
    unfold F_impl_within at *
    split at hk
    · have k := hk
      exact h _ _ k
    · exact hk.elim
  · intro _ args H K hk
    simp only [S_impl_within] at *
    unfold F_impl_within at *
    split at hk
    · have k := hk
      exact ⟨_, k, fun K' k' => k'⟩
    · exact hk.elim
  · intro args H K hk
    simp only [S_impl_within] at *
    unfold F_impl_within at *
    split at hk
    · have k := hk
      exact ⟨_, _, k⟩
    · exact hk.elim
  · intro hq; cases hq
  · have mm := @impl_within_main
    revert mm
    generalize bodyK Try.prog E_impl_within Try.f52 = Q
    intro mm args H K hk
    simp only [S_impl_within] at *
    unfold F_impl_within at *
    split at hk
    · exact mm _ _ _ H K hk
    · exact hk.elim
def p_impl_IsFinite (x : Nat) : Bool := feq .f32 (fsub .f32 x x) 0
theorem p_impl_IsFinite_eq (x : Nat) : p_impl_IsFinite x = feq .f32 (fsub .f32 x x) 0 := rfl
def T_impl_IsFinite (x : Nat) (H : AHeap) (K : Bool → AHeap → Prop) : Prop := K (p_impl_IsFinite x) H

theorem T_impl_IsFinite_i {x : Nat} {H : AHeap} {K : Bool → AHeap → Prop} (h : K (p_impl_IsFinite x) H) : T_impl_IsFinite x H K := h
/-! impl_IsFinite: function 59 -/
def E_impl_IsFinite : Env := envOf []
def F_impl_IsFinite : List Value → AHeap → (Value → AHeap → Prop) → Prop
  | [.float .f32 x], H, K => T_impl_IsFinite x H fun (r1 : Bool) (H' : AHeap) => K (.bool r1) H'
  | _, _, _ => False
def S_impl_IsFinite : FSpec := { F := F_impl_IsFinite, quiet := true, tame := false }
theorem impl_IsFinite_vc (x : Nat) (H : AHeap) (K : Value → AHeap → Prop) : bodyK Try.prog E_impl_IsFinite Try.f59 [.float .f32 x] H K =
  (K (.bool (feq .f32 (fsub .f32 x x) 0)) H) := by kernel_rfl
theorem E_impl_IsFinite_ok : ∀ g, FnOk Try.prog g (E_impl_IsFinite g) := FnOk.envOf (by
  intro x hx; cases hx)
set_option maxHeartbeats 1000000 in
theorem impl_IsFinite_main (x : Nat) (H : AHeap) (K : Value → AHeap → Prop) (h : T_impl_IsFinite x H fun (r1 : Bool) (H' : AHeap) => K (.bool r1) H') : bodyK Try.prog E_impl_IsFinite Try.f59 [.float .f32 x] H K := by
  rw [impl_IsFinite_vc]
  unfold T_impl_IsFinite p_impl_IsFinite at h
  repeat' (first | exact h | (exfalso; simp_all; done) | (refine ⟨by decide, ?_⟩) | (refine Br.intro (fun hb => ?_) (fun hb => ?_) <;> (try simp only [hb, cond_true, cond_false, Bool.not_true, Bool.not_false] at h)))
theorem impl_IsFinite_ok : FnOk Try.prog 59 S_impl_IsFinite := by
  refine FnOk.body mix_ok E_impl_IsFinite_ok Try.func59 rfl (by kernel_rfl) (by kernel_rfl) ?_ ?_ ?_ ?_ ?_
  · intro args H K K' h hk
    simp only [S_impl_IsFinite] at *
    unfold F_impl_IsFinite at *
    split at hk
    · have k := hk
      exact h _ _ k
    · exact hk.elim
  · intro _ args H K hk
    simp only [S_impl_IsFinite] at *
    unfold F_impl_IsFinite at *
    split at hk
    · have k := hk
      exact ⟨_, k, fun K' k' => k'⟩
    · exact hk.elim
  · intro args H K hk
    simp only [S_impl_IsFinite] at *
    unfold F_impl_IsFinite at *
    split at hk
    · have k := hk
      exact ⟨_, _, k⟩
    · exact hk.elim
  · intro hq; cases hq
  · have mm := @impl_IsFinite_main
    revert mm
    generalize bodyK Try.prog E_impl_IsFinite Try.f59 = Q
    intro mm args H K hk
    simp only [S_impl_IsFinite] at *
    unfold F_impl_IsFinite at *
    split at hk
    · exact mm _ H K hk
    · exact hk.elim
def p_impl_areFinite_l2 (l_lists : List (List Nat)) (t2 : Bool) (t9 : Int) (k2_2 : Bool → Int → Bool) : Nat → Bool → Int → Bool
  | 0, _, _ => false
  | μ2 + 1, t2_2, t15 => (bif decide ((t15 : Int) < ((((l_lists).getD (t9 : Int).toNat [])).length : Int)) then (bif !((p_impl_IsFinite (((((l_lists).getD (t9 : Int).toNat [])).getD (t15 : Int).toNat 0)))) then false else (p_impl_areFinite_l2 l_lists t2 t9 k2_2 μ2 t2_2 (t15 + 1))) else (k2_2 t2_2 t15))
theorem p_impl_areFinite_l2_s (l_lists : List (List Nat)) (t2 : Bool) (t9 : Int) (k2_2 : Bool → Int → Bool) (μ2 : Nat) (t2_2 : Bool) (t15 : Int) : p_impl_areFinite_l2 l_lists t2 t9 k2_2 (μ2 + 1) t2_2 t15 = (bif decide ((t15 : Int) < ((((l_lists).getD (t9 : Int).toNat [])).length : Int)) then (bif !((p_impl_IsFinite (((((l_lists).getD (t9 : Int).toNat [])).getD (t15 : Int).toNat 0)))) then false else (p_impl_areFinite_l2 l_lists t2 t9 k2_2 μ2 t2_2 (t15 + 1))) else (k2_2 t2_2 t15)) := rfl
def p_impl_areFinite_l1 (l_lists : List (List Nat)) : Nat → Bool → Int → Bool
  | 0, _, _ => false
  | μ + 1, t2, t9 => (bif decide ((t9 : Int) < (l_lists.length : Int)) then (p_impl_areFinite_l2 l_lists t2 t9 (fun (t2_2 : Bool) (t15 : Int) => (p_impl_areFinite_l1 l_lists μ t2_2 (t9 + 1))) (Int.toNat (((((l_lists).getD (t9 : Int).toNat [])).length : Int) - (0 : Int)) + 1) t2 (0 : Int)) else true)
theorem p_impl_areFinite_l1_s (l_lists : List (List Nat)) (μ : Nat) (t2 : Bool) (t9 : Int) : p_impl_areFinite_l1 l_lists (μ + 1) t2 t9 = (bif decide ((t9 : Int) < (l_lists.length : Int)) then (p_impl_areFinite_l2 l_lists t2 t9 (fun (t2_2 : Bool) (t15 : Int) => (p_impl_areFinite_l1 l_lists μ t2_2 (t9 + 1))) (Int.toNat (((((l_lists).getD (t9 : Int).toNat [])).length : Int) - (0 : Int)) + 1) t2 (0 : Int)) else true) := rfl
def p_impl_areFinite (l_lists : List (List Nat)) : Bool := (p_impl_areFinite_l1 l_lists (Int.toNat ((l_lists.length : Int) - (0 : Int)) + 1) false (0 : Int))
theorem p_impl_areFinite_eq (l_lists : List (List Nat)) : p_impl_areFinite l_lists = (p_impl_areFinite_l1 l_lists (Int.toNat ((l_lists.length : Int) - (0 : Int)) + 1) false (0 : Int)) := rfl
def T_impl_areFinite (lists_a : Option Addr) (lists_n : Nat) (lists_e : Nat) (H : AHeap) (K : Bool → AHeap → Prop) : Prop := ∃ (l_lists : List (List Nat)), IsLL fF H lists_a lists_n l_lists ∧ l_lists.length < 1073741824 ∧ (∀ y ∈ l_lists, y.length < 1073741824) ∧ K (p_impl_areFinite l_lists) H
theorem T_impl_areFinite_i {lists_a : Option Addr} {lists_n : Nat} {lists_e : Nat} {H : AHeap} {K : Bool → AHeap → Prop} (h : ∃ (l_lists : List (List Nat)), IsLL fF H lists_a lists_n l_lists ∧ l_lists.length < 1073741824 ∧ (∀ y ∈ l_lists, y.length < 1073741824) ∧ K (p_impl_areFinite l_lists) H) : T_impl_areFinite lists_a lists_n lists_e H K := h

/-! impl_areFinite: function 85 -/
def E_impl_areFinite : Env := envOf [(59, S_impl_IsFinite)]
def F_impl_areFinite : List Value → AHeap → (Value → AHeap → Prop) → Prop
  | [.slice lists_a lists_n lists_e], H, K => T_impl_areFinite lists_a lists_n lists_e H fun (r1 : Bool) (H' : AHeap) => K (.bool r1) H'
  | _, _, _ => False
def S_impl_areFinite : FSpec := { F := F_impl_areFinite, quiet := true, tame := false }
theorem impl_areFinite_vc (lists_a : Option Addr) (lists_n : Nat) (lists_e : Nat) (H : AHeap) (K : Value → AHeap → Prop) : bodyK Try.prog E_impl_areFinite Try.f85 [.slice lists_a lists_n lists_e] H K =
  (loopK (exK Try.prog E_impl_areFinite (cl (cl (cr (cl (cr (bodyC Try.f85))))))) [.slice lists_a lists_n lists_e, undef, .bool false, undef, undef, undef, undef, .slice lists_a lists_n lists_e, .int .i64 (lists_n : Int), .int .i64 0, undef, undef, undef, undef, undef, undef, undef, undef, undef, undef, undef, undef, undef, undef] H (blockQ 0 (seqQ (exK Try.prog E_impl_areFinite (cr (cr (bodyC Try.f85)))) (retK Try.prog Try.f85 K)))) := by kernel_rfl
theorem impl_areFinite_r1 (lists_a : Option Addr) (lists_e : Nat) (lists_n : Nat) (t2 : Bool) (t9 : Int) (g4 g6 g10 g11 g12 g13 g14 g15 g16 g17 g18 g19 g20 g21 g22 g23 : Value) (H : AHeap) (R : Post) : exK Try.prog E_impl_areFinite (cl (cl (cr (cl (cr (bodyC Try.f85)))))) [.slice lists_a lists_n lists_e, undef, .bool t2, undef, g4, undef, g6, .slice lists_a lists_n lists_e, .int .i64 (lists_n : Int), .int .i64 t9, g10, g11, g12, g13, g14, g15, g16, g17, g18, g19, g20, g21, g22, g23] H R =
  (Br (decide ((t9 : Int) < (lists_n : Int))) ((0 : Int) ≤ t9 ∧ t9 < (lists_n : Int) ∧ ∃ b1 f1, (lists_a : Option Addr) = some ⟨b1, f1, none⟩ ∧ ∃ x1_a : Option Addr, ∃ x1_n : Nat, ∃ x1_e : Nat,  rdC H b1 (f1 + (t9 : Int).toNat * 1) = some (.slice x1_a x1_n x1_e) ∧ loopK (exK Try.prog E_impl_areFinite (cl (cl (cr (cr (cl (cl (cr (cr (cl (cl (cr (cl (cr (bodyC Try.f85))))))))))))))) [.slice lists_a lists_n lists_e, undef, .bool t2, undef, .slice x1_a x1_n x1_e, undef, g6, .slice lists_a lists_n lists_e, .int .i64 (lists_n : Int), .int .i64 t9, .bool (decide ((t9 : Int) < (lists_n : Int))), .pointer (some ⟨b1, f1 + (t9 : Int).toNat * 1, none⟩), .slice x1_a x1_n x1_e, .slice x1_a x1_n x1_e, .int .i64 (x1_n : Int), .int .i64 0, g16, g17, g18, g19, g20, g21, g22, g23] H (blockQ 2 (blockQ 1 (seqQ (exK Try.prog E_impl_areFinite (cr (cr (cr (cl (cl (cr (cl (cr (bodyC Try.f85)))))))))) (R))))) (R (.exit 0) [.slice lists_a lists_n lists_e, undef, .bool t2, undef, g4, undef, g6, .slice lists_a lists_n lists_e, .int .i64 (lists_n : Int), .int .i64 t9, .bool (decide ((t9 : Int) < (lists_n : Int))), g11, g12, g13, g14, g15, g16, g17, g18, g19, g20, g21, g22, g23] H)) := by kernel_rfl
def impl_areFinite_I1 (lists_a : Option Addr) (lists_e : Nat) (lists_n : Nat) (Inv : Nat → Bool → Int → AHeap → Prop) : Nat → List Value → AHeap → Prop := fun μ tm H => ∃ (t2 : Bool), ∃ (t9 : Int), ∃ g4 g6 g10 g11 g12 g13 g14 g15 g16 g17 g18 g19 g20 g21 g22 g23, tm = [.slice lists_a lists_n lists_e, undef, .bool t2, undef, g4, undef, g6, .slice lists_a lists_n lists_e, .int .i64 (lists_n : Int), .int .i64 t9, g10, g11, g12, g13, g14, g15, g16, g17, g18, g19, g20, g21, g22, g23] ∧ Inv μ t2 t9 H
theorem impl_areFinite_L1 (lists_a : Option Addr) (lists_e : Nat) (lists_n : Nat) {Q : Post} (Inv : Nat → Bool → Int → AHeap → Prop) (ν : Nat) (t2 : Bool) (t9 : Int) (g4 g6 g10 g11 g12 g13 g14 g15 g16 g17 g18 g19 g20 g21 g22 g23 : Value) (H : AHeap) (h0 : Inv ν t2 t9 H)
    (hs : ∀ (μ : Nat) (t2 : Bool) (t9 : Int) (g4 g6 g10 g11 g12 g13 g14 g15 g16 g17 g18 g19 g20 g21 g22 g23 : Value) (H : AHeap), Inv μ t2 t9 H → exK Try.prog E_impl_areFinite (cl (cl (cr (cl (cr (bodyC Try.f85)))))) [.slice lists_a lists_n lists_e, undef, .bool t2, undef, g4, undef, g6, .slice lists_a lists_n lists_e, .int .i64 (lists_n : Int), .int .i64 t9, g10, g11, g12, g13, g14, g15, g16, g17, g18, g19, g20, g21, g22, g23] H (loopQ (impl_areFinite_I1 lists_a lists_e lists_n Inv) μ Q)) : loopK (exK Try.prog E_impl_areFinite (cl (cl (cr (cl (cr (bodyC Try.f85))))))) [.slice lists_a lists_n lists_e, undef, .bool t2, undef, g4, undef, g6, .slice lists_a lists_n lists_e, .int .i64 (lists_n : Int), .int .i64 t9, g10, g11, g12, g13, g14, g15, g16, g17, g18, g19, g20, g21, g22, g23] H Q :=
  ⟨impl_areFinite_I1 lists_a lists_e lists_n Inv, ν, ⟨t2, t9, g4, g6, g10, g11, g12, g13, g14, g15, g16, g17, g18, g19, g20, g21, g22, g23, rfl, h0⟩, fun μ tm H h => by obtain ⟨t2, t9, g4, g6, g10, g11, g12, g13, g14, g15, g16, g17, g18, g19, g20, g21, g22, g23, rfl, hI⟩ := h; exact hs μ t2 t9 g4 g6 g10 g11 g12 g13 g14 g15 g16 g17 g18 g19 g20 g21 g22 g23 H hI⟩
theorem impl_areFinite_n1 {lists_a : Option Addr} {lists_e : Nat} {lists_n : Nat} {Q : Post} {Inv : Nat → Bool → Int → AHeap → Prop} {μ : Nat} (μ' : Nat) {t2 : Bool} {t9 : Int} {g4 g6 g10 g11 g12 g13 g14 g15 g16 g17 g18 g19 g20 g21 g22 g23 : Value} {H : AHeap} (hm : μ' < μ) (hI : Inv μ' t2 t9 H) : loopQ (impl_areFinite_I1 lists_a lists_e lists_n Inv) μ Q .normal [.slice lists_a lists_n lists_e, undef, .bool t2, undef, g4, undef, g6, .slice lists_a lists_n lists_e, .int .i64 (lists_n : Int), .int .i64 t9, g10, g11, g12, g13, g14, g15, g16, g17, g18, g19, g20, g21, g22, g23] H := ⟨μ', hm, t2, t9, g4, g6, g10, g11, g12, g13, g14, g15, g16, g17, g18, g19, g20, g21, g22, g23, rfl, hI⟩
theorem impl_areFinite_x1_0 (lists_a : Option Addr) (lists_e : Nat) (lists_n : Nat) (t2 : Bool) (t9 : Int) (g4 g6 g10 g11 g12 g13 g14 g15 g16 g17 g18 g19 g20 g21 g22 g23 : Value) (H : AHeap) (K : Value → AHeap → Prop)  {I : Nat → List Value → AHeap → Prop} {μ : Nat} : loopQ I μ (blockQ 0 (seqQ (exK Try.prog E_impl_areFinite (cr (cr (bodyC Try.f85)))) (retK Try.prog Try.f85 K))) (.exit 0) [.slice lists_a lists_n lists_e, undef, .bool t2, undef, g4, undef, g6, .slice lists_a lists_n lists_e, .int .i64 (lists_n : Int), .int .i64 t9, g10, g11, g12, g13, g14, g15, g16, g17, g18, g19, g20, g21, g22, g23] H =
  (K (.bool true) H) := by kernel_rfl
theorem impl_areFinite_x1_ret (lists_a : Option Addr) (lists_e : Nat) (lists_n : Nat) (t2 : Bool) (t9 : Int) (g4 g6 g10 g11 g12 g13 g14 g15 g16 g17 g18 g19 g20 g21 g22 g23 : Value) (H : AHeap) (K : Value → AHeap → Prop)  {I : Nat → List Value → AHeap → Prop} {μ : Nat} : loopQ I μ (blockQ 0 (seqQ (exK Try.prog E_impl_areFinite (cr (cr (bodyC Try.f85)))) (retK Try.prog Try.f85 K))) .ret [.slice lists_a lists_n lists_e, undef, .bool t2, undef, g4, undef, g6, .slice lists_a lists_n lists_e, .int .i64 (lists_n : Int), .int .i64 t9, g10, g11, g12, g13, g14, g15, g16, g17, g18, g19, g20, g21, g22, g23] H =
  (K (.bool t2) H) := by kernel_rfl
theorem impl_areFinite_r2 (b1 : Nat) (f1 : Nat) (g23 : Value) (lists_a : Option Addr) (lists_e : Nat) (lists_n : Nat) (t9 : Int) (x1_a : Option Addr) (x1_e : Nat) (x1_n : Nat) (t2_2 : Bool) (t15 : Int) (g6 g16 g17 g18 g19 g20 g21 g22 : Value) (H : AHeap) (R : Post) : exK Try.prog E_impl_areFinite (cl (cl (cr (cr (cl (cl (cr (cr (cl (cl (cr (cl (cr (bodyC Try.f85)))))))))))))) [.slice lists_a lists_n lists_e, undef, .bool t2_2, undef, .slice x1_a x1_n x1_e, undef, g6, .slice lists_a lists_n lists_e, .int .i64 (lists_n : Int), .int .i64 t9, .bool (decide ((t9 : Int) < (lists_n : Int))), .pointer (some ⟨b1, f1 + (t9 : Int).toNat * 1, none⟩), .slice x1_a x1_n x1_e, .slice x1_a x1_n x1_e, .int .i64 (x1_n : Int), .int .i64 t15, g16, g17, g18, g19, g20, g21, g22, g23] H R =
  (Br (decide ((t15 : Int) < (x1_n : Int))) ((0 : Int) ≤ t15 ∧ t15 < (x1_n : Int) ∧ ∃ b2 f2, (x1_a : Option Addr) = some ⟨b2, f2, none⟩ ∧ ∃ x2 : Nat,  rdC H b2 (f2 + (t15 : Int).toNat * 1) = some (.float .f32 x2) ∧ T_impl_IsFinite x2 H fun (r1 : Bool) (H1 : AHeap) => Br (!r1) (R .ret [.slice lists_a lists_n lists_e, undef, .bool false, undef, .slice x1_a x1_n x1_e, undef, .float .f32 x2, .slice lists_a lists_n lists_e, .int .i64 (lists_n : Int), .int .i64 t9, .bool (decide ((t9 : Int) < (lists_n : Int))), .pointer (some ⟨b1, f1 + (t9 : Int).toNat * 1, none⟩), .slice x1_a x1_n x1_e, .slice x1_a x1_n x1_e, .int .i64 (x1_n : Int), .int .i64 t15, .bool (decide ((t15 : Int) < (x1_n : Int))), .pointer (some ⟨b2, f2 + (t15 : Int).toNat * 1, none⟩), .float .f32 x2, .float .f32 x2, .bool r1, .bool (!r1), g22, g23] H1) (R .normal [.slice lists_a lists_n lists_e, undef, .bool t2_2, undef, .slice x1_a x1_n x1_e, undef, .float .f32 x2, .slice lists_a lists_n lists_e, .int .i64 (lists_n : Int), .int .i64 t9, .bool (decide ((t9 : Int) < (lists_n : Int))), .pointer (some ⟨b1, f1 + (t9 : Int).toNat * 1, none⟩), .slice x1_a x1_n x1_e, .slice x1_a x1_n x1_e, .int .i64 (x1_n : Int), .int .i64 (IntKind.wrap .i64 (t15 + 1)), .bool (decide ((t15 : Int) < (x1_n : Int))), .pointer (some ⟨b2, f2 + (t15 : Int).toNat * 1, none⟩), .float .f32 x2, .float .f32 x2, .bool r1, .bool (!r1), .int .i64 (IntKind.wrap .i64 (t15 + 1)), g23] H1)) (R (.exit 2) [.slice lists_a lists_n lists_e, undef, .bool t2_2, undef, .slice x1_a x1_n x1_e, undef, g6, .slice lists_a lists_n lists_e, .int .i64 (lists_n : Int), .int .i64 t9, .bool (decide ((t9 : Int) < (lists_n : Int))), .pointer (some ⟨b1, f1 + (t9 : Int).toNat * 1, none⟩), .slice x1_a x1_n x1_e, .slice x1_a x1_n x1_e, .int .i64 (x1_n : Int), .int .i64 t15, .bool (decide ((t15 : Int) < (x1_n : Int))), g17, g18, g19, g20, g21, g22, g23] H)) := by kernel_rfl
def impl_areFinite_I2 (b1 : Nat) (f1 : Nat) (g23 : Value) (lists_a : Option Addr) (lists_e : Nat) (lists_n : Nat) (t9 : Int) (x1_a : Option Addr) (x1_e : Nat) (x1_n : Nat) (Inv : Nat → Bool → Int → AHeap → Prop) : Nat → List Value → AHeap → Prop := fun μ tm H => ∃ (t2_2 : Bool), ∃ (t15 : Int), ∃ g6 g16 g17 g18 g19 g20 g21 g22, tm = [.slice lists_a lists_n lists_e, undef, .bool t2_2, undef, .slice x1_a x1_n x1_e, undef, g6, .slice lists_a lists_n lists_e, .int .i64 (lists_n : Int), .int .i64 t9, .bool (decide ((t9 : Int) < (lists_n : Int))), .pointer (some ⟨b1, f1 + (t9 : Int).toNat * 1, none⟩), .slice x1_a x1_n x1_e, .slice x1_a x1_n x1_e, .int .i64 (x1_n : Int), .int .i64 t15, g16, g17, g18, g19, g20, g21, g22, g23] ∧ Inv μ t2_2 t15 H
theorem impl_areFinite_L2 (b1 : Nat) (f1 : Nat) (g23 : Value) (lists_a : Option Addr) (lists_e : Nat) (lists_n : Nat) (t9 : Int) (x1_a : Option Addr) (x1_e : Nat) (x1_n : Nat) {Q : Post} (Inv : Nat → Bool → Int → AHeap → Prop) (ν : Nat) (t2_2 : Bool) (t15 : Int) (g6 g16 g17 g18 g19 g20 g21 g22 : Value) (H : AHeap) (h0 : Inv ν t2_2 t15 H)
    (hs : ∀ (μ : Nat) (t2_2 : Bool) (t15 : Int) (g6 g16 g17 g18 g19 g20 g21 g22 : Value) (H : AHeap), Inv μ t2_2 t15 H → exK Try.prog E_impl_areFinite (cl (cl (cr (cr (cl (cl (cr (cr (cl (cl (cr (cl (cr (bodyC Try.f85)))))))))))))) [.slice lists_a lists_n lists_e, undef, .bool t2_2, undef, .slice x1_a x1_n x1_e, undef, g6, .slice lists_a lists_n lists_e, .int .i64 (lists_n : Int), .int .i64 t9, .bool (decide ((t9 : Int) < (lists_n : Int))), .pointer (some ⟨b1, f1 + (t9 : Int).toNat * 1, none⟩), .slice x1_a x1_n x1_e, .slice x1_a x1_n x1_e, .int .i64 (x1_n : Int), .int .i64 t15, g16, g17, g18, g19, g20, g21, g22, g23] H (loopQ (impl_areFinite_I2 b1 f1 g23 lists_a lists_e lists_n t9 x1_a x1_e x1_n Inv) μ Q)) : loopK (exK Try.prog E_impl_areFinite (cl (cl (cr (cr (cl (cl (cr (cr (cl (cl (cr (cl (cr (bodyC Try.f85))))))))))))))) [.slice lists_a lists_n lists_e, undef, .bool t2_2, undef, .slice x1_a x1_n x1_e, undef, g6, .slice lists_a lists_n lists_e, .int .i64 (lists_n : Int), .int .i64 t9, .bool (decide ((t9 : Int) < (lists_n : Int))), .pointer (some ⟨b1, f1 + (t9 : Int).toNat * 1, none⟩), .slice x1_a x1_n x1_e, .slice x1_a x1_n x1_e, .int .i64 (x1_n : Int), .int .i64 t15, g16, g17, g18, g19, g20, g21, g22, g23] H Q :=
  ⟨impl_areFinite_I2 b1 f1 g23 lists_a lists_e lists_n t9 x1_a x1_e x1_n Inv, ν, ⟨t2_2, t15, g6, g16, g17, g18, g19, g20, g21, g22, rfl, h0⟩, fun μ tm H h => by obtain ⟨t2_2, t15, g6, g16, g17, g18, g19, g20, g21, g22, rfl, hI⟩ := h; exact hs μ t2_2 t15 g6 g16 g17 g18 g19 g20 g21 g22 H hI⟩
theorem impl_areFinite_n2 {b1 : Nat} {f1 : Nat} {g23 : Value} {lists_a : Option Addr} {lists_e : Nat} {lists_n : Nat} {t9 : Int} {x1_a : Option Addr} {x1_e : Nat} {x1_n : Nat} {Q : Post} {Inv : Nat → Bool → Int → AHeap → Prop} {μ : Nat} (μ' : Nat) {t2_2 : Bool} {t15 : Int} {g6 g16 g17 g18 g19 g20 g21 g22 : Value} {H : AHeap} (hm : μ' < μ) (hI : Inv μ' t2_2 t15 H) : loopQ (impl_areFinite_I2 b1 f1 g23 lists_a lists_e lists_n t9 x1_a x1_e x1_n Inv) μ Q .normal [.slice lists_a lists_n lists_e, undef, .bool t2_2, undef, .slice x1_a x1_n x1_e, undef, g6, .slice lists_a lists_n lists_e, .int .i64 (lists_n : Int), .int .i64 t9, .bool (decide ((t9 : Int) < (lists_n : Int))), .pointer (some ⟨b1, f1 + (t9 : Int).toNat * 1, none⟩), .slice x1_a x1_n x1_e, .slice x1_a x1_n x1_e, .int .i64 (x1_n : Int), .int .i64 t15, g16, g17, g18, g19, g20, g21, g22, g23] H := ⟨μ', hm, t2_2, t15, g6, g16, g17, g18, g19, g20, g21, g22, rfl, hI⟩
theorem impl_areFinite_x2_2 (b1 : Nat) (f1 : Nat) (g23 : Value) (lists_a : Option Addr) (lists_e : Nat) (lists_n : Nat) (t9 : Int) (x1_a : Option Addr) (x1_e : Nat) (x1_n : Nat) (t2_2 : Bool) (t15 : Int) (g6 g16 g17 g18 g19 g20 g21 g22 : Value) (H : AHeap)  (R : Post) {I : Nat → List Value → AHeap → Prop} {μ : Nat} : loopQ I μ (blockQ 2 (blockQ 1 (seqQ (exK Try.prog E_impl_areFinite (cr (cr (cr (cl (cl (cr (cl (cr (bodyC Try.f85)))))))))) (R)))) (.exit 2) [.slice lists_a lists_n lists_e, undef, .bool t2_2, undef, .slice x1_a x1_n x1_e, undef, g6, .slice lists_a lists_n lists_e, .int .i64 (lists_n : Int), .int .i64 t9, .bool (decide ((t9 : Int) < (lists_n : Int))), .pointer (some ⟨b1, f1 + (t9 : Int).toNat * 1, none⟩), .slice x1_a x1_n x1_e, .slice x1_a x1_n x1_e, .int .i64 (x1_n : Int), .int .i64 t15, g16, g17, g18, g19, g20, g21, g22, g23] H =
  (R .normal [.slice lists_a lists_n lists_e, undef, .bool t2_2, undef, .slice x1_a x1_n x1_e, undef, g6, .slice lists_a lists_n lists_e, .int .i64 (lists_n : Int), .int .i64 (IntKind.wrap .i64 (t9 + 1)), .bool (decide ((t9 : Int) < (lists_n : Int))), .pointer (some ⟨b1, f1 + (t9 : Int).toNat * 1, none⟩), .slice x1_a x1_n x1_e, .slice x1_a x1_n x1_e, .int .i64 (x1_n : Int), .int .i64 t15, g16, g17, g18, g19, g20, g21, g22, .int .i64 (IntKind.wrap .i64 (t9 + 1))] H) := by kernel_rfl
theorem impl_areFinite_x2_ret (b1 : Nat) (f1 : Nat) (g23 : Value) (lists_a : Option Addr) (lists_e : Nat) (lists_n : Nat) (t9 : Int) (x1_a : Option Addr) (x1_e : Nat) (x1_n : Nat) (t2_2 : Bool) (t15 : Int) (g6 g16 g17 g18 g19 g20 g21 g22 : Value) (H : AHeap)  (R : Post) {I : Nat → List Value → AHeap → Prop} {μ : Nat} : loopQ I μ (blockQ 2 (blockQ 1 (seqQ (exK Try.prog E_impl_areFinite (cr (cr (cr (cl (cl (cr (cl (cr (bodyC Try.f85)))))))))) (R)))) .ret [.slice lists_a lists_n lists_e, undef, .bool t2_2, undef, .slice x1_a x1_n x1_e, undef, g6, .slice lists_a lists_n lists_e, .int .i64 (lists_n : Int), .int .i64 t9, .bool (decide ((t9 : Int) < (lists_n : Int))), .pointer (some ⟨b1, f1 + (t9 : Int).toNat * 1, none⟩), .slice x1_a x1_n x1_e, .slice x1_a x1_n x1_e, .int .i64 (x1_n : Int), .int .i64 t15, g16, g17, g18, g19, g20, g21, g22, g23] H =
  (R .ret [.slice lists_a lists_n lists_e, undef, .bool t2_2, undef, .slice x1_a x1_n x1_e, undef, g6, .slice lists_a lists_n lists_e, .int .i64 (lists_n : Int), .int .i64 t9, .bool (decide ((t9 : Int) < (lists_n : Int))), .pointer (some ⟨b1, f1 + (t9 : Int).toNat * 1, none⟩), .slice x1_a x1_n x1_e, .slice x1_a x1_n x1_e, .int .i64 (x1_n : Int), .int .i64 t15, g16, g17, g18, g19, g20, g21, g22, g23] H) := by kernel_rfl
theorem E_impl_areFinite_ok : ∀ g, FnOk Try.prog g (E_impl_areFinite g) := FnOk.envOf (by
  intro x hx
  simp only [List.mem_cons, List.not_mem_nil, or_false] at hx
  subst hx; exact impl_IsFinite_ok)
set_option maxHeartbeats 1000000 in
theorem impl_areFinite_main (lists_a : Option Addr) (lists_n : Nat) (lists_e : Nat) (H : AHeap) (K : Value → AHeap → Prop) (h : T_impl_areFinite lists_a lists_n lists_e H fun (r1 : Bool) (H' : AHeap) => K (.bool r1) H') : bodyK Try.prog E_impl_areFinite Try.f85 [.slice lists_a lists_n lists_e] H K := by
  rw [impl_areFinite_vc]
  obtain ⟨l_lists, i_lists, bd_22, bb_l_lists, hk⟩ := h
  obtain rfl := i_lists.eqn
  have e : (p_impl_areFinite l_lists) = _ := rfl
  have e := e.trans (p_impl_areFinite_eq l_lists)
  have g0 := Grow.refl H
  refine impl_areFinite_L1 _ _ _ (fun (μ : Nat) (t2 : Bool) (t9 : Int) (H_1 : AHeap) => H = H_1 ∧ (0 : Int) ≤ t9 ∧ t9 ≤ (l_lists.length : Int) ∧ (l_lists.length : Int) - t9 ≤ (μ : Int) ∧ p_impl_areFinite l_lists = p_impl_areFinite_l1 l_lists (μ + 1) t2 t9) (Int.toNat ((l_lists.length : Int) - (0 : Int))) _ _ _ _ _ _ _ _ _ _ _ _ _ _ _ _ _ _ H ?_ ?_
  · exact ⟨rfl, (by first | omega | (simp; done) | (simp; omega)), (by first | omega | (simp; done) | (simp; omega)), (by omega), e⟩
  · intro μ t2 t9 g4 g6 g10 g11 g12 g13 g14 g15 g16 g17 g18 g19 g20 g21 g22 g23 H_1 hI
    obtain ⟨rfl, v_1, v_2, hμ, e⟩ := hI
    rw [impl_areFinite_r1]
    have e := e.trans (p_impl_areFinite_l1_s l_lists μ t2 t9)
    have l_3 := g0.1
    refine Br.intro (fun c_4 => ?_) (fun c_4 => ?_)
    · have e := e.trans (cond_t c_4)
      have c_4' := of_decide_eq_true c_4
      obtain ⟨b_5, f_6, q_7⟩ := ((i_lists.grow g0)).pos (by first | omega | (simp only [List.length_set, List.length_replicate, List.length_append, List.length_cons, List.length_nil, List.length_take, List.length_drop, marks_length]; done) | (simp only [List.length_set, List.length_replicate, List.length_append, List.length_cons, List.length_nil, List.length_take, List.length_drop, marks_length]; omega))
      refine ⟨by omega, by omega, b_5, f_6, q_7, ?_⟩
      obtain ⟨a_8, n_9, e_10, r_11, i_12⟩ := (i_lists).rd (i := (t9 : Int).toNat) g0 q_7 (by omega)
      obtain rfl := i_12.eqn
      refine ⟨a_8, _, e_10, r_11, ?_⟩
      have z_13 := getD_len bb_l_lists (t9 : Int).toNat
      refine impl_areFinite_L2 _ _ _ _ _ _ _ _ _ _ (fun (μ2 : Nat) (t2_2 : Bool) (t15 : Int) (H_2 : AHeap) => H = H_2 ∧ (0 : Int) ≤ t15 ∧ t15 ≤ ((((l_lists).getD (t9 : Int).toNat [])).length : Int) ∧ ((((l_lists).getD (t9 : Int).toNat [])).length : Int) - t15 ≤ (μ2 : Int) ∧ p_impl_areFinite l_lists = p_impl_areFinite_l2 l_lists t2 t9 (fun (t2_2 : Bool) (t15 : Int) => (p_impl_areFinite_l1 l_lists μ t2_2 (t9 + 1))) (μ2 + 1) t2_2 t15) (Int.toNat (((((l_lists).getD (t9 : Int).toNat [])).length : Int) - (0 : Int))) _ _ _ _ _ _ _ _ _ _ H ?_ ?_
      · exact ⟨rfl, (by first | omega | (simp; done) | (simp; omega)), (by first | omega | (simp; done) | (simp; omega)), (by omega), e⟩
      · intro μ2 t2_2 t15 g6 g16 g17 g18 g19 g20 g21 g22 H_2 hI
        obtain ⟨rfl, v_14, v_15, hμ, e⟩ := hI
        rw [impl_areFinite_r2]
        have e := e.trans (p_impl_areFinite_l2_s l_lists t2 t9 (fun (t2_2 : Bool) (t15 : Int) => (p_impl_areFinite_l1 l_lists μ t2_2 (t9 + 1))) μ2 t2_2 t15)
        have l_16 := g0.1
        refine Br.intro (fun c_17 => ?_) (fun c_17 => ?_)
        · have e := e.trans (cond_t c_17)
          have c_17' := of_decide_eq_true c_17
          obtain ⟨b_18, f_19, q_20⟩ := ((i_12.grow g0)).pos (by first | omega | (simp only [List.length_set, List.length_replicate, List.length_append, List.length_cons, List.length_nil, List.length_take, List.length_drop, marks_length]; done) | (simp only [List.length_set, List.length_replicate, List.length_append, List.length_cons, List.length_nil, List.length_take, List.length_drop, marks_length]; omega))
          refine ⟨by omega, by omega, b_18, f_19, q_20, ?_⟩
          refine ⟨((((l_lists).getD (t9 : Int).toNat [])).getD (t15 : Int).toNat 0), (i_12).rd g0 q_20 (by omega) _, ?_⟩
          refine T_impl_IsFinite_i ?_
          refine Br.intro (fun c_21 => ?_) (fun c_21 => ?_)
          · have e := e.trans (cond_t c_21)
            have c_21n := nf_of_t c_21
            rw [impl_areFinite_x2_ret]
            rw [impl_areFinite_x1_ret]
            rw [e] at hk
            exact hk
          · have e := e.trans (cond_f c_21)
            have c_21n := nt_of_f c_21
            rw [show IntKind.wrap .i64 (t15 + 1) = (t15 + 1) from wrap64 (by omega) (by omega)]
            refine impl_areFinite_n2 (μ2 - 1) (by omega) ⟨rfl, (by first | omega | (simp only [List.length_append, List.length_cons, List.length_nil, List.length_set]; done) | (simp only [List.length_append, List.length_cons, List.length_nil, List.length_set]; omega)), (by first | omega | (simp only [List.length_append, List.length_cons, List.length_nil, List.length_set]; done) | (simp only [List.length_append, List.length_cons, List.length_nil, List.length_set]; omega)), (by omega), (by rw [show μ2 - 1 + 1 = μ2 from by omega]; exact e)⟩
        · have e := e.trans (cond_f c_17)
          have c_17' := of_decide_eq_false c_17
          rw [impl_areFinite_x2_2]
          rw [show IntKind.wrap .i64 (t9 + 1) = (t9 + 1) from wrap64 (by omega) (by omega)]
          refine impl_areFinite_n1 (μ - 1) (by omega) ⟨rfl, (by first | omega | (simp only [List.length_append, List.length_cons, List.length_nil, List.length_set]; done) | (simp only [List.length_append, List.length_cons, List.length_nil, List.length_set]; omega)), (by first | omega | (simp only [List.length_append, List.length_cons, List.length_nil, List.length_set]; done) | (simp only [List.length_append, List.length_cons, List.length_nil, List.length_set]; omega)), (by omega), (by rw [show μ - 1 + 1 = μ from by omega]; exact e)⟩
    · have e := e.trans (cond_f c_4)
      have c_4' := of_decide_eq_false c_4
      rw [impl_areFinite_x1_0]
      rw [e] at hk
      exact hk
theorem impl_areFinite_ok : FnOk Try.prog 85 S_impl_areFinite := by
  refine FnOk.body mix_ok E_impl_areFinite_ok Try.func85 rfl (by kernel_rfl) (by kernel_rfl) ?_ ?_ ?_ ?_ ?_
  · intro args H K K' h hk
    simp only [S_impl_areFinite] at *
    unfold F_impl_areFinite at *
    split at hk
    · obtain ⟨l_lists, i_lists, bd_22, bb_l_lists, k⟩ := hk
      exact ⟨l_lists, i_lists, bd_22, bb_l_lists, h _ _ k⟩
    · exact hk.elim
  · intro _ args H K hk
    simp only [S_impl_areFinite] at *
    unfold F_impl_areFinite at *
    split at hk
    · obtain ⟨l_lists, i_lists, bd_22, bb_l_lists, k⟩ := hk
      exact ⟨_, k, fun K' k' => ⟨l_lists, i_lists, bd_22, bb_l_lists, k'⟩⟩
    · exact hk.elim
  · intro args H K hk
    simp only [S_impl_areFinite] at *
    unfold F_impl_areFinite at *
    split at hk
    · obtain ⟨l_lists, i_lists, bd_22, bb_l_lists, k⟩ := hk
      exact ⟨_, _, k⟩
    · exact hk.elim
  · intro hq; cases hq
  · have mm := @impl_areFinite_main
    revert mm
    generalize bodyK Try.prog E_impl_areFinite Try.f85 = Q
    intro mm args H K hk
    simp only [S_impl_areFinite] at *
    unfold F_impl_areFinite at *
    split at hk
    · exact mm _ _ _ H K hk
    · exact hk.elim
def p_impl_isLong (l_list : List Nat) : Bool := (bif (p_impl_within (l_list.length : Int) (1 : Int) (128 : Int)) then (p_impl_areFinite ([l_list])) else false)
theorem p_impl_isLong_eq (l_list : List Nat) : p_impl_isLong l_list = (bif (p_impl_within (l_list.length : Int) (1 : Int) (128 : Int)) then (p_impl_areFinite ([l_list])) else false) := rfl
def T_impl_isLong (list_a : Option Addr) (list_n : Nat) (list_e : Nat) (H : AHeap) (K : Bool → AHeap → Prop) : Prop := ∃ (l_list : List Nat), IsL fF H list_a list_n l_list ∧ l_list.length < 1073741824 ∧ ((∀ H' : AHeap, Grow H H' → K (p_impl_isLong l_list) H'))
theorem T_impl_isLong_i {list_a : Option Addr} {list_n : Nat} {list_e : Nat} {H : AHeap} {K : Bool → AHeap → Prop} (h : ∃ (l_list : List Nat), IsL fF H list_a list_n l_list ∧ l_list.length < 1073741824 ∧ ((∀ H' : AHeap, Grow H H' → K (p_impl_isLong l_list) H'))) : T_impl_isLong list_a list_n list_e H K := h
theorem impl_isLong_t {l : List Nat} (h : p_impl_isLong l = true) : 1 ≤ (l.length : Int) ∧ (l.length : Int) ≤ 128 := by
  rw [p_impl_isLong_eq] at h
  cases h1 : p_impl_within (l.length : Int) 1 128
  · rw [h1] at h; cases h
  · exact impl_within_t h1
/-! impl_isLong: function 64 -/
def E_impl_isLong : Env := envOf [(52, S_impl_within), (85, S_impl_areFinite)]
def F_impl_isLong : List Value → AHeap → (Value → AHeap → Prop) → Prop
  | [.slice list_a list_n list_e], H, K => T_impl_isLong list_a list_n list_e H fun (r1 : Bool) (H' : AHeap) => K (.bool r1) H'
  | _, _, _ => False
def S_impl_isLong : FSpec := { F := F_impl_isLong, quiet := false, tame := true }
theorem impl_isLong_vc (list_a : Option Addr) (list_n : Nat) (list_e : Nat) (H : AHeap) (K : Value → AHeap → Prop) : bodyK Try.prog E_impl_isLong Try.f64 [.slice list_a list_n list_e] H K =
  (T_impl_within (list_n : Int) 1 128 H fun (r1 : Bool) (H1 : AHeap) => Br r1 (Al [.slice list_a list_n list_e] H1 fun b1 H2 => T_impl_areFinite (some ⟨b1, 0, none⟩) 1 1 H2 fun (r2 : Bool) (H3 : AHeap) => K (.bool r2) H3) (K (.bool false) H1)) := by kernel_rfl
theorem E_impl_isLong_ok : ∀ g, FnOk Try.prog g (E_impl_isLong g) := FnOk.envOf (by
  intro x hx
  simp only [List.mem_cons, List.not_mem_nil, or_false] at hx
  rcases hx with rfl | rfl
  · exact impl_within_ok
  · exact impl_areFinite_ok)
set_option maxHeartbeats 1000000 in
theorem impl_isLong_main (list_a : Option Addr) (list_n : Nat) (list_e : Nat) (H : AHeap) (K : Value → AHeap → Prop) (h : T_impl_isLong list_a list_n list_e H fun (r1 : Bool) (H' : AHeap) => K (.bool r1) H') : bodyK Try.prog E_impl_isLong Try.f64 [.slice list_a list_n list_e] H K := by
  rw [impl_isLong_vc]
  obtain ⟨l_list, i_list, bd_12, hk⟩ := h
  obtain rfl := i_list.eqn
  have e : (p_impl_isLong l_list) = _ := rfl
  have e := e.trans (p_impl_isLong_eq l_list)
  have g0 := Grow.refl H
  refine T_impl_within_i ?_
  refine Br.intro (fun c_1 => ?_) (fun c_1 => ?_)
  · have e := e.trans (cond_t c_1)
    have c_1' := impl_within_t c_1
    refine Al.intro (fun b_2 H_1 hb_3 hl_4 g_5 o_6 => ?_)
    have l_8 := g_5.1
    have g_9 := g0.trans g_5
    have l_10 := g_9.1
    have w_11 := o_6.lt
    refine T_impl_areFinite_i ⟨[l_list], ⟨_, o_6.rdAll rfl, LLc.cons (i_list.grow g_9) (LLc.nil _ _)⟩, (by first | omega | (simp only [List.length_set, List.length_replicate, List.length_append, List.length_cons, List.length_nil, List.length_take, List.length_drop, marks_length]; done) | (simp only [List.length_set, List.length_replicate, List.length_append, List.length_cons, List.length_nil, List.length_take, List.length_drop, marks_length]; omega)), (by first | assumption | (intro y hy; simp only [List.mem_cons, List.not_mem_nil, or_false] at hy; first | omega | (subst hy; omega) | (rcases hy with rfl | rfl <;> omega) | (rcases hy with rfl | rfl | rfl <;> omega))), ?_⟩
    rw [e] at hk
    exact hk  H_1 g_9 
  · have e := e.trans (cond_f c_1)
    rw [e] at hk
    exact hk  H g0 
theorem impl_isLong_ok : FnOk Try.prog 64 S_impl_isLong := by
  refine FnOk.body mix_ok E_impl_isLong_ok Try.func64 rfl (by kernel_rfl) (by kernel_rfl) ?_ ?_ ?_ ?_ ?_
  · intro args H K K' h hk
    simp only [S_impl_isLong] at *
    unfold F_impl_isLong at *
    split at hk
    · obtain ⟨l_list, i_list, bd_12, k⟩ := hk
      exact ⟨l_list, i_list, bd_12, (fun  H' gg  => h _ _ (k  H' gg ))⟩
    · exact hk.elim
  · intro hq; cases hq
  · intro args H K hk
    simp only [S_impl_isLong] at *
    unfold F_impl_isLong at *
    split at hk
    · obtain ⟨l_list, i_list, bd_12, k⟩ := hk
      exact ⟨_, _, k H (Grow.refl H)⟩
    · exact hk.elim
  · intro _ args H K hk
    simp only [S_impl_isLong] at *
    unfold F_impl_isLong at *
    split at hk
    · obtain ⟨l_list, i_list, bd_12, k⟩ := hk
      exact ⟨l_list, i_list, bd_12, (fun  H' gg  => ⟨gg, k  H' gg ⟩)⟩
    · exact hk.elim
  · have mm := @impl_isLong_main
    revert mm
    generalize bodyK Try.prog E_impl_isLong Try.f64 = Q
    intro mm args H K hk
    simp only [S_impl_isLong] at *
    unfold F_impl_isLong at *
    split at hk
    · exact mm _ _ _ H K hk
    · exact hk.elim
def p_impl_added_l1 (l_list : List Nat) : Nat → Nat → Int → Nat
  | 0, _, _ => 0
  | μ + 1, sum, t8 => (bif decide ((t8 : Int) < (l_list.length : Int)) then (p_impl_added_l1 l_list μ (fadd .f32 sum (((l_list).getD (t8 : Int).toNat 0))) (t8 + 1)) else sum)
theorem p_impl_added_l1_s (l_list : List Nat) (μ : Nat) (sum : Nat) (t8 : Int) : p_impl_added_l1 l_list (μ + 1) sum t8 = (bif decide ((t8 : Int) < (l_list.length : Int)) then (p_impl_added_l1 l_list μ (fadd .f32 sum (((l_list).getD (t8 : Int).toNat 0))) (t8 + 1)) else sum) := rfl
def p_impl_added (l_list : List Nat) : Nat := (p_impl_added_l1 l_list (Int.toNat ((l_list.length : Int) - (0 : Int)) + 1) 0 (0 : Int))
theorem p_impl_added_eq (l_list : List Nat) : p_impl_added l_list = (p_impl_added_l1 l_list (Int.toNat ((l_list.length : Int) - (0 : Int)) + 1) 0 (0 : Int)) := rfl
def T_impl_added (list_a : Option Addr) (list_n : Nat) (list_e : Nat) (H : AHeap) (K : Nat → AHeap → Prop) : Prop := ∃ (l_list : List Nat), IsL fF H list_a list_n l_list ∧ l_list.length < 1073741824 ∧ K (p_impl_added l_list) H
theorem T_impl_added_i {list_a : Option Addr} {list_n : Nat} {list_e : Nat} {H : AHeap} {K : Nat → AHeap → Prop} (h : ∃ (l_list : List Nat), IsL fF H list_a list_n l_list ∧ l_list.length < 1073741824 ∧ K (p_impl_added l_list) H) : T_impl_added list_a list_n list_e H K := h

/-! impl_added: function 87 -/
def E_impl_added : Env := envOf []
def F_impl_added : List Value → AHeap → (Value → AHeap → Prop) → Prop
  | [.slice list_a list_n list_e], H, K => T_impl_added list_a list_n list_e H fun (r1 : Nat) (H' : AHeap) => K (.float .f32 r1) H'
  | _, _, _ => False
def S_impl_added : FSpec := { F := F_impl_added, quiet := true, tame := false }
theorem impl_added_vc (list_a : Option Addr) (list_n : Nat) (list_e : Nat) (H : AHeap) (K : Value → AHeap → Prop) : bodyK Try.prog E_impl_added Try.f87 [.slice list_a list_n list_e] H K =
  (loopK (exK Try.prog E_impl_added (cl (cl (cr (cl (cr (cr (bodyC Try.f87)))))))) [.slice list_a list_n list_e, undef, .float .f32 0, .float .f32 0, undef, undef, .slice list_a list_n list_e, .int .i64 (list_n : Int), .int .i64 0, undef, undef, undef, undef, undef, undef, undef, undef] H (blockQ 0 (seqQ (exK Try.prog E_impl_added (cr (cr (cr (bodyC Try.f87))))) (retK Try.prog Try.f87 K)))) := by kernel_rfl
theorem impl_added_r1 (list_a : Option Addr) (list_e : Nat) (list_n : Nat) (sum : Nat) (t8 : Int) (g5 g9 g10 g11 g12 g13 g14 g15 : Value) (H : AHeap) (R : Post) : exK Try.prog E_impl_added (cl (cl (cr (cl (cr (cr (bodyC Try.f87))))))) [.slice list_a list_n list_e, undef, .float .f32 0, .float .f32 sum, undef, g5, .slice list_a list_n list_e, .int .i64 (list_n : Int), .int .i64 t8, g9, g10, g11, g12, g13, g14, g15, undef] H R =
  (Br (decide ((t8 : Int) < (list_n : Int))) ((0 : Int) ≤ t8 ∧ t8 < (list_n : Int) ∧ ∃ b1 f1, (list_a : Option Addr) = some ⟨b1, f1, none⟩ ∧ ∃ x1 : Nat,  rdC H b1 (f1 + (t8 : Int).toNat * 1) = some (.float .f32 x1) ∧ R .normal [.slice list_a list_n list_e, undef, .float .f32 0, .float .f32 (fadd .f32 sum x1), undef, .float .f32 x1, .slice list_a list_n list_e, .int .i64 (list_n : Int), .int .i64 (IntKind.wrap .i64 (t8 + 1)), .bool (decide ((t8 : Int) < (list_n : Int))), .pointer (some ⟨b1, f1 + (t8 : Int).toNat * 1, none⟩), .float .f32 x1, .float .f32 sum, .float .f32 x1, .float .f32 (fadd .f32 sum x1), .int .i64 (IntKind.wrap .i64 (t8 + 1)), undef] H) (R (.exit 0) [.slice list_a list_n list_e, undef, .float .f32 0, .float .f32 sum, undef, g5, .slice list_a list_n list_e, .int .i64 (list_n : Int), .int .i64 t8, .bool (decide ((t8 : Int) < (list_n : Int))), g10, g11, g12, g13, g14, g15, undef] H)) := by kernel_rfl
def impl_added_I1 (list_a : Option Addr) (list_e : Nat) (list_n : Nat) (Inv : Nat → Nat → Int → AHeap → Prop) : Nat → List Value → AHeap → Prop := fun μ tm H => ∃ (sum : Nat), ∃ (t8 : Int), ∃ g5 g9 g10 g11 g12 g13 g14 g15, tm = [.slice list_a list_n list_e, undef, .float .f32 0, .float .f32 sum, undef, g5, .slice list_a list_n list_e, .int .i64 (list_n : Int), .int .i64 t8, g9, g10, g11, g12, g13, g14, g15, undef] ∧ Inv μ sum t8 H
theorem impl_added_L1 (list_a : Option Addr) (list_e : Nat) (list_n : Nat) {Q : Post} (Inv : Nat → Nat → Int → AHeap → Prop) (ν : Nat) (sum : Nat) (t8 : Int) (g5 g9 g10 g11 g12 g13 g14 g15 : Value) (H : AHeap) (h0 : Inv ν sum t8 H)
    (hs : ∀ (μ : Nat) (sum : Nat) (t8 : Int) (g5 g9 g10 g11 g12 g13 g14 g15 : Value) (H : AHeap), Inv μ sum t8 H → exK Try.prog E_impl_added (cl (cl (cr (cl (cr (cr (bodyC Try.f87))))))) [.slice list_a list_n list_e, undef, .float .f32 0, .float .f32 sum, undef, g5, .slice list_a list_n list_e, .int .i64 (list_n : Int), .int .i64 t8, g9, g10, g11, g12, g13, g14, g15, undef] H (loopQ (impl_added_I1 list_a list_e list_n Inv) μ Q)) : loopK (exK Try.prog E_impl_added (cl (cl (cr (cl (cr (cr (bodyC Try.f87)))))))) [.slice list_a list_n list_e, undef, .float .f32 0, .float .f32 sum, undef, g5, .slice list_a list_n list_e, .int .i64 (list_n : Int), .int .i64 t8, g9, g10, g11, g12, g13, g14, g15, undef] H Q :=
  ⟨impl_added_I1 list_a list_e list_n Inv, ν, ⟨sum, t8, g5, g9, g10, g11, g12, g13, g14, g15, rfl, h0⟩, fun μ tm H h => by obtain ⟨sum, t8, g5, g9, g10, g11, g12, g13, g14, g15, rfl, hI⟩ := h; exact hs μ sum t8 g5 g9 g10 g11 g12 g13 g14 g15 H hI⟩
theorem impl_added_n1 {list_a : Option Addr} {list_e : Nat} {list_n : Nat} {Q : Post} {Inv : Nat → Nat → Int → AHeap → Prop} {μ : Nat} (μ' : Nat) {sum : Nat} {t8 : Int} {g5 g9 g10 g11 g12 g13 g14 g15 : Value} {H : AHeap} (hm : μ' < μ) (hI : Inv μ' sum t8 H) : loopQ (impl_added_I1 list_a list_e list_n Inv) μ Q .normal [.slice list_a list_n list_e, undef, .float .f32 0, .float .f32 sum, undef, g5, .slice list_a list_n list_e, .int .i64 (list_n : Int), .int .i64 t8, g9, g10, g11, g12, g13, g14, g15, undef] H := ⟨μ', hm, sum, t8, g5, g9, g10, g11, g12, g13, g14, g15, rfl, hI⟩
theorem impl_added_x1_0 (list_a : Option Addr) (list_e : Nat) (list_n : Nat) (sum : Nat) (t8 : Int) (g5 g9 g10 g11 g12 g13 g14 g15 : Value) (H : AHeap) (K : Value → AHeap → Prop)  {I : Nat → List Value → AHeap → Prop} {μ : Nat} : loopQ I μ (blockQ 0 (seqQ (exK Try.prog E_impl_added (cr (cr (cr (bodyC Try.f87))))) (retK Try.prog Try.f87 K))) (.exit 0) [.slice list_a list_n list_e, undef, .float .f32 0, .float .f32 sum, undef, g5, .slice list_a list_n list_e, .int .i64 (list_n : Int), .int .i64 t8, g9, g10, g11, g12, g13, g14, g15, undef] H =
  (K (.float .f32 sum) H) := by kernel_rfl
theorem E_impl_added_ok : ∀ g, FnOk Try.prog g (E_impl_added g) := FnOk.envOf (by
  intro x hx; cases hx)
set_option maxHeartbeats 1000000 in
theorem impl_added_main (list_a : Option Addr) (list_n : Nat) (list_e : Nat) (H : AHeap) (K : Value → AHeap → Prop) (h : T_impl_added list_a list_n list_e H fun (r1 : Nat) (H' : AHeap) => K (.float .f32 r1) H') : bodyK Try.prog E_impl_added Try.f87 [.slice list_a list_n list_e] H K := by
  rw [impl_added_vc]
  obtain ⟨l_list, i_list, bd_8, hk⟩ := h
  obtain rfl := i_list.eqn
  have e : (p_impl_added l_list) = _ := rfl
  have e := e.trans (p_impl_added_eq l_list)
  have g0 := Grow.refl H
  refine impl_added_L1 _ _ _ (fun (μ : Nat) (sum : Nat) (t8 : Int) (H_1 : AHeap) => H = H_1 ∧ (0 : Int) ≤ t8 ∧ t8 ≤ (l_list.length : Int) ∧ (l_list.length : Int) - t8 ≤ (μ : Int) ∧ p_impl_added l_list = p_impl_added_l1 l_list (μ + 1) sum t8) (Int.toNat ((l_list.length : Int) - (0 : Int))) _ _ _ _ _ _ _ _ _ _ H ?_ ?_
  · exact ⟨rfl, (by first | omega | (simp; done) | (simp; omega)), (by first | omega | (simp; done) | (simp; omega)), (by omega), e⟩
  · intro μ sum t8 g5 g9 g10 g11 g12 g13 g14 g15 H_1 hI
    obtain ⟨rfl, v_1, v_2, hμ, e⟩ := hI
    rw [impl_added_r1]
    have e := e.trans (p_impl_added_l1_s l_list μ sum t8)
    have l_3 := g0.1
    refine Br.intro (fun c_4 => ?_) (fun c_4 => ?_)
    · have e := e.trans (cond_t c_4)
      have c_4' := of_decide_eq_true c_4
      obtain ⟨b_5, f_6, q_7⟩ := ((i_list.grow g0)).pos (by first | omega | (simp only [List.length_set, List.length_replicate, List.length_append, List.length_cons, List.length_nil, List.length_take, List.length_drop, marks_length]; done) | (simp only [List.length_set, List.length_replicate, List.length_append, List.length_cons, List.length_nil, List.length_take, List.length_drop, marks_length]; omega))
      refine ⟨by omega, by omega, b_5, f_6, q_7, ?_⟩
      refine ⟨((l_list).getD (t8 : Int).toNat 0), (i_list).rd g0 q_7 (by omega) _, ?_⟩
      rw [show IntKind.wrap .i64 (t8 + 1) = (t8 + 1) from wrap64 (by omega) (by omega)]
      refine impl_added_n1 (μ - 1) (by omega) ⟨rfl, (by first | omega | (simp only [List.length_append, List.length_cons, List.length_nil, List.length_set]; done) | (simp only [List.length_append, List.length_cons, List.length_nil, List.length_set]; omega)), (by first | omega | (simp only [List.length_append, List.length_cons, List.length_nil, List.length_set]; done) | (simp only [List.length_append, List.length_cons, List.length_nil, List.length_set]; omega)), (by omega), (by rw [show μ - 1 + 1 = μ from by omega]; exact e)⟩
    · have e := e.trans (cond_f c_4)
      have c_4' := of_decide_eq_false c_4
      rw [impl_added_x1_0]
      rw [e] at hk
      exact hk
theorem impl_added_ok : FnOk Try.prog 87 S_impl_added := by
  refine FnOk.body mix_ok E_impl_added_ok Try.func87 rfl (by kernel_rfl) (by kernel_rfl) ?_ ?_ ?_ ?_ ?_
  · intro args H K K' h hk
    simp only [S_impl_added] at *
    unfold F_impl_added at *
    split at hk
    · obtain ⟨l_list, i_list, bd_8, k⟩ := hk
      exact ⟨l_list, i_list, bd_8, h _ _ k⟩
    · exact hk.elim
  · intro _ args H K hk
    simp only [S_impl_added] at *
    unfold F_impl_added at *
    split at hk
    · obtain ⟨l_list, i_list, bd_8, k⟩ := hk
      exact ⟨_, k, fun K' k' => ⟨l_list, i_list, bd_8, k'⟩⟩
    · exact hk.elim
  · intro args H K hk
    simp only [S_impl_added] at *
    unfold F_impl_added at *
    split at hk
    · obtain ⟨l_list, i_list, bd_8, k⟩ := hk
      exact ⟨_, _, k⟩
    · exact hk.elim
  · intro hq; cases hq
  · have mm := @impl_added_main
    revert mm
    generalize bodyK Try.prog E_impl_added Try.f87 = Q
    intro mm args H K hk
    simp only [S_impl_added] at *
    unfold F_impl_added at *
    split at hk
    · exact mm _ _ _ H K hk
    · exact hk.elim
def p_impl_mean (l_list : List Nat) : Nat := fdiv .f32 (p_impl_added l_list) (FloatKind.nearest .f32 (l_list.length : Int))
theorem p_impl_mean_eq (l_list : List Nat) : p_impl_mean l_list = fdiv .f32 (p_impl_added l_list) (FloatKind.nearest .f32 (l_list.length : Int)) := rfl
def T_impl_mean (list_a : Option Addr) (list_n : Nat) (list_e : Nat) (H : AHeap) (K : Nat → AHeap → Prop) : Prop := ∃ (l_list : List Nat), IsL fF H list_a list_n l_list ∧ l_list.length < 1073741824 ∧ K (p_impl_mean l_list) H
theorem T_impl_mean_i {list_a : Option Addr} {list_n : Nat} {list_e : Nat} {H : AHeap} {K : Nat → AHeap → Prop} (h : ∃ (l_list : List Nat), IsL fF H list_a list_n l_list ∧ l_list.length < 1073741824 ∧ K (p_impl_mean l_list) H) : T_impl_mean list_a list_n list_e H K := h

/-! impl_mean: function 67 -/
def E_impl_mean : Env := envOf [(87, S_impl_added)]
def F_impl_mean : List Value → AHeap → (Value → AHeap → Prop) → Prop
  | [.slice list_a list_n list_e], H, K => T_impl_mean list_a list_n list_e H fun (r1 : Nat) (H' : AHeap) => K (.float .f32 r1) H'
  | _, _, _ => False
def S_impl_mean : FSpec := { F := F_impl_mean, quiet := true, tame := false }
theorem impl_mean_vc (list_a : Option Addr) (list_n : Nat) (list_e : Nat) (H : AHeap) (K : Value → AHeap → Prop) : bodyK Try.prog E_impl_mean Try.f67 [.slice list_a list_n list_e] H K =
  (T_impl_added list_a list_n list_e H fun (r1 : Nat) (H1 : AHeap) => K (.float .f32 (fdiv .f32 r1 (FloatKind.nearest .f32 (list_n : Int)))) H1) := by kernel_rfl
theorem E_impl_mean_ok : ∀ g, FnOk Try.prog g (E_impl_mean g) := FnOk.envOf (by
  intro x hx
  simp only [List.mem_cons, List.not_mem_nil, or_false] at hx
  subst hx; exact impl_added_ok)
set_option maxHeartbeats 1000000 in
theorem impl_mean_main (list_a : Option Addr) (list_n : Nat) (list_e : Nat) (H : AHeap) (K : Value → AHeap → Prop) (h : T_impl_mean list_a list_n list_e H fun (r1 : Nat) (H' : AHeap) => K (.float .f32 r1) H') : bodyK Try.prog E_impl_mean Try.f67 [.slice list_a list_n list_e] H K := by
  rw [impl_mean_vc]
  obtain ⟨l_list, i_list, bd_1, hk⟩ := h
  obtain rfl := i_list.eqn
  have e : (p_impl_mean l_list) = _ := rfl
  have e := e.trans (p_impl_mean_eq l_list)
  have g0 := Grow.refl H
  refine T_impl_added_i ⟨_, (i_list.grow g0), (by first | omega | (simp only [List.length_set, List.length_replicate, List.length_append, List.length_cons, List.length_nil, List.length_take, List.length_drop, marks_length]; done) | (simp only [List.length_set, List.length_replicate, List.length_append, List.length_cons, List.length_nil, List.length_take, List.length_drop, marks_length]; omega)), ?_⟩
  rw [e] at hk
  exact hk
theorem impl_mean_ok : FnOk Try.prog 67 S_impl_mean := by
  refine FnOk.body mix_ok E_impl_mean_ok Try.func67 rfl (by kernel_rfl) (by kernel_rfl) ?_ ?_ ?_ ?_ ?_
  · intro args H K K' h hk
    simp only [S_impl_mean] at *
    unfold F_impl_mean at *
    split at hk
    · obtain ⟨l_list, i_list, bd_1, k⟩ := hk
      exact ⟨l_list, i_list, bd_1, h _ _ k⟩
    · exact hk.elim
  · intro _ args H K hk
    simp only [S_impl_mean] at *
    unfold F_impl_mean at *
    split at hk
    · obtain ⟨l_list, i_list, bd_1, k⟩ := hk
      exact ⟨_, k, fun K' k' => ⟨l_list, i_list, bd_1, k'⟩⟩
    · exact hk.elim
  · intro args H K hk
    simp only [S_impl_mean] at *
    unfold F_impl_mean at *
    split at hk
    · obtain ⟨l_list, i_list, bd_1, k⟩ := hk
      exact ⟨_, _, k⟩
    · exact hk.elim
  · intro hq; cases hq
  · have mm := @impl_mean_main
    revert mm
    generalize bodyK Try.prog E_impl_mean Try.f67 = Q
    intro mm args H K hk
    simp only [S_impl_mean] at *
    unfold F_impl_mean at *
    split at hk
    · exact mm _ _ _ H K hk
    · exact hk.elim
def p_impl_gainAt (l_list : List Nat) (m : Nat) (k : Int) : Nat := fadd .f32 (fmul .f32 (fmul .f32 (FloatKind.nearest .f32 k) (fsub .f32 ((p_impl_mean ((((l_list).drop (0 : Int).toNat).take ((k : Int) - 0).toNat)))) m)) (fsub .f32 ((p_impl_mean ((((l_list).drop (0 : Int).toNat).take ((k : Int) - 0).toNat)))) m)) (fmul .f32 (fmul .f32 (FloatKind.nearest .f32 (((l_list.length : Int) - k))) (fsub .f32 ((p_impl_mean ((((l_list).drop (k : Int).toNat).take (((l_list.length : Int) : Int) - k).toNat)))) m)) (fsub .f32 ((p_impl_mean ((((l_list).drop (k : Int).toNat).take (((l_list.length : Int) : Int) - k).toNat)))) m))
theorem p_impl_gainAt_eq (l_list : List Nat) (m : Nat) (k : Int) : p_impl_gainAt l_list m k = fadd .f32 (fmul .f32 (fmul .f32 (FloatKind.nearest .f32 k) (fsub .f32 ((p_impl_mean ((((l_list).drop (0 : Int).toNat).take ((k : Int) - 0).toNat)))) m)) (fsub .f32 ((p_impl_mean ((((l_list).drop (0 : Int).toNat).take ((k : Int) - 0).toNat)))) m)) (fmul .f32 (fmul .f32 (FloatKind.nearest .f32 (((l_list.length : Int) - k))) (fsub .f32 ((p_impl_mean ((((l_list).drop (k : Int).toNat).take (((l_list.length : Int) : Int) - k).toNat)))) m)) (fsub .f32 ((p_impl_mean ((((l_list).drop (k : Int).toNat).take (((l_list.length : Int) : Int) - k).toNat)))) m)) := rfl
def T_impl_gainAt (list_a : Option Addr) (list_n : Nat) (list_e : Nat) (m : Nat) (k : Int) (H : AHeap) (K : Nat → AHeap → Prop) : Prop := ∃ (l_list : List Nat), IsL fF H list_a list_n l_list ∧ l_list.length < 1073741824 ∧ 0 ≤ k ∧ k ≤ (l_list.length : Int) ∧ K (p_impl_gainAt l_list m k) H
theorem T_impl_gainAt_i {list_a : Option Addr} {list_n : Nat} {list_e : Nat} {m : Nat} {k : Int} {H : AHeap} {K : Nat → AHeap → Prop} (h : ∃ (l_list : List Nat), IsL fF H list_a list_n l_list ∧ l_list.length < 1073741824 ∧ 0 ≤ k ∧ k ≤ (l_list.length : Int) ∧ K (p_impl_gainAt l_list m k) H) : T_impl_gainAt list_a list_n list_e m k H K := h

/-! impl_gainAt: function 68 -/
def E_impl_gainAt : Env := envOf [(67, S_impl_mean)]
def F_impl_gainAt : List Value → AHeap → (Value → AHeap → Prop) → Prop
  | [.slice list_a list_n list_e, .float .f32 m, .int .i64 k], H, K => T_impl_gainAt list_a list_n list_e m k H fun (r1 : Nat) (H' : AHeap) => K (.float .f32 r1) H'
  | _, _, _ => False
def S_impl_gainAt : FSpec := { F := F_impl_gainAt, quiet := true, tame := false }
theorem impl_gainAt_vc (list_a : Option Addr) (list_n : Nat) (list_e : Nat) (m : Nat) (k : Int) (H : AHeap) (K : Value → AHeap → Prop) : bodyK Try.prog E_impl_gainAt Try.f68 [.slice list_a list_n list_e, .float .f32 m, .int .i64 k] H K =
  ((0 : Int) ≤ 0 ∧ 0 ≤ k ∧ k ≤ (list_n : Int) ∧ T_impl_mean ((list_a : Option Addr).map fun a => ⟨a.block, a.off + (0 : Int).toNat * 1, none⟩) (((k : Int) - 0).toNat) 0 H fun (r1 : Nat) (H1 : AHeap) => (0 : Int) ≤ k ∧ k ≤ (list_n : Int) ∧ (list_n : Int) ≤ (list_n : Int) ∧ T_impl_mean ((list_a : Option Addr).map fun a => ⟨a.block, a.off + (k : Int).toNat * 1, none⟩) ((((list_n : Int) : Int) - k).toNat) 0 H1 fun (r2 : Nat) (H2 : AHeap) => K (.float .f32 (fadd .f32 (fmul .f32 (fmul .f32 (FloatKind.nearest .f32 k) (fsub .f32 r1 m)) (fsub .f32 r1 m)) (fmul .f32 (fmul .f32 (FloatKind.nearest .f32 (IntKind.wrap .i64 ((list_n : Int) - k))) (fsub .f32 r2 m)) (fsub .f32 r2 m)))) H2) := by kernel_rfl
theorem E_impl_gainAt_ok : ∀ g, FnOk Try.prog g (E_impl_gainAt g) := FnOk.envOf (by
  intro x hx
  simp only [List.mem_cons, List.not_mem_nil, or_false] at hx
  subst hx; exact impl_mean_ok)
set_option maxHeartbeats 1000000 in
theorem impl_gainAt_main (list_a : Option Addr) (list_n : Nat) (list_e : Nat) (m : Nat) (k : Int) (H : AHeap) (K : Value → AHeap → Prop) (h : T_impl_gainAt list_a list_n list_e m k H fun (r1 : Nat) (H' : AHeap) => K (.float .f32 r1) H') : bodyK Try.prog E_impl_gainAt Try.f68 [.slice list_a list_n list_e, .float .f32 m, .int .i64 k] H K := by
  rw [impl_gainAt_vc]
  obtain ⟨l_list, i_list, bd_5, pr0, pr1, hk⟩ := h
  obtain rfl := i_list.eqn
  have e : (p_impl_gainAt l_list m k) = _ := rfl
  have e := e.trans (p_impl_gainAt_eq l_list m k)
  have g0 := Grow.refl H
  refine ⟨by omega, by omega, by omega, ?_⟩
  have i_1 := sub_isl (i_list.grow g0) (lo := 0) (hi := k) (by omega) (by omega) (by omega)
  have g_2 := Grow.refl H
  refine T_impl_mean_i ⟨_, (i_1.grow g_2), (by first | omega | (simp only [List.length_set, List.length_replicate, List.length_append, List.length_cons, List.length_nil, List.length_take, List.length_drop, marks_length]; done) | (simp only [List.length_set, List.length_replicate, List.length_append, List.length_cons, List.length_nil, List.length_take, List.length_drop, marks_length]; omega)), ?_⟩
  refine ⟨by omega, by omega, by omega, ?_⟩
  have i_3 := sub_isl (i_list.grow g_2) (lo := k) (hi := (l_list.length : Int)) (by omega) (by omega) (by omega)
  have g_4 := Grow.refl H
  refine T_impl_mean_i ⟨_, (i_3.grow g_4), (by first | omega | (simp only [List.length_set, List.length_replicate, List.length_append, List.length_cons, List.length_nil, List.length_take, List.length_drop, marks_length]; done) | (simp only [List.length_set, List.length_replicate, List.length_append, List.length_cons, List.length_nil, List.length_take, List.length_drop, marks_length]; omega)), ?_⟩
  rw [show IntKind.wrap .i64 ((l_list.length : Int) - k) = ((l_list.length : Int) - k) from wrap64 (by omega) (by omega)]
  rw [e] at hk
  exact hk
theorem impl_gainAt_ok : FnOk Try.prog 68 S_impl_gainAt := by
  refine FnOk.body mix_ok E_impl_gainAt_ok Try.func68 rfl (by kernel_rfl) (by kernel_rfl) ?_ ?_ ?_ ?_ ?_
  · intro args H K K' h hk
    simp only [S_impl_gainAt] at *
    unfold F_impl_gainAt at *
    split at hk
    · obtain ⟨l_list, i_list, bd_5, pr0, pr1, k⟩ := hk
      exact ⟨l_list, i_list, bd_5, pr0, pr1, h _ _ k⟩
    · exact hk.elim
  · intro _ args H K hk
    simp only [S_impl_gainAt] at *
    unfold F_impl_gainAt at *
    split at hk
    · obtain ⟨l_list, i_list, bd_5, pr0, pr1, k⟩ := hk
      exact ⟨_, k, fun K' k' => ⟨l_list, i_list, bd_5, pr0, pr1, k'⟩⟩
    · exact hk.elim
  · intro args H K hk
    simp only [S_impl_gainAt] at *
    unfold F_impl_gainAt at *
    split at hk
    · obtain ⟨l_list, i_list, bd_5, pr0, pr1, k⟩ := hk
      exact ⟨_, _, k⟩
    · exact hk.elim
  · intro hq; cases hq
  · have mm := @impl_gainAt_main
    revert mm
    generalize bodyK Try.prog E_impl_gainAt Try.f68 = Q
    intro mm args H K hk
    simp only [S_impl_gainAt] at *
    unfold F_impl_gainAt at *
    split at hk
    · exact mm _ _ _ _ _ H K hk
    · exact hk.elim
def p_impl_BestBreak_l1 (l_list : List Nat) : Nat → Int → Nat → Int → Int × Nat × Bool
  | 0, _, _, _ => (0, 0, false)
  | μ + 1, vat, best, k => (bif decide ((k : Int) < (l_list.length : Int)) then (bif flt .f32 best ((p_impl_gainAt l_list (p_impl_mean l_list) k)) then (p_impl_BestBreak_l1 l_list μ k ((p_impl_gainAt l_list (p_impl_mean l_list) k)) (k + 1)) else (p_impl_BestBreak_l1 l_list μ vat best (k + 1))) else (bif !(p_impl_IsFinite best) then ((0 : Int), 0, false) else (vat, best, true)))
theorem p_impl_BestBreak_l1_s (l_list : List Nat) (μ : Nat) (vat : Int) (best : Nat) (k : Int) : p_impl_BestBreak_l1 l_list (μ + 1) vat best k = (bif decide ((k : Int) < (l_list.length : Int)) then (bif flt .f32 best ((p_impl_gainAt l_list (p_impl_mean l_list) k)) then (p_impl_BestBreak_l1 l_list μ k ((p_impl_gainAt l_list (p_impl_mean l_list) k)) (k + 1)) else (p_impl_BestBreak_l1 l_list μ vat best (k + 1))) else (bif !(p_impl_IsFinite best) then ((0 : Int), 0, false) else (vat, best, true))) := rfl
def p_impl_BestBreak (l_list : List Nat) : Int × Nat × Bool := (bif !(p_impl_isLong l_list) then ((0 : Int), 0, false) else (bif decide (((l_list.length : Int) : Int) < 2) then ((0 : Int), 0, false) else (p_impl_BestBreak_l1 l_list (Int.toNat ((l_list.length : Int) - (2 : Int)) + 1) (1 : Int) ((p_impl_gainAt l_list (p_impl_mean l_list) (1 : Int))) (2 : Int))))
theorem p_impl_BestBreak_eq (l_list : List Nat) : p_impl_BestBreak l_list = (bif !(p_impl_isLong l_list) then ((0 : Int), 0, false) else (bif decide (((l_list.length : Int) : Int) < 2) then ((0 : Int), 0, false) else (p_impl_BestBreak_l1 l_list (Int.toNat ((l_list.length : Int) - (2 : Int)) + 1) (1 : Int) ((p_impl_gainAt l_list (p_impl_mean l_list) (1 : Int))) (2 : Int)))) := rfl
def T_impl_BestBreak (list_a : Option Addr) (list_n : Nat) (list_e : Nat) (H : AHeap) (K : Int → Nat → Bool → AHeap → Prop) : Prop := ∃ (l_list : List Nat), IsL fF H list_a list_n l_list ∧ l_list.length < 1073741824 ∧ ((∀ H' : AHeap, Grow H H' → K ((p_impl_BestBreak l_list).1) ((p_impl_BestBreak l_list).2.1) ((p_impl_BestBreak l_list).2.2) H'))
theorem T_impl_BestBreak_i {list_a : Option Addr} {list_n : Nat} {list_e : Nat} {H : AHeap} {K : Int → Nat → Bool → AHeap → Prop} (h : ∃ (l_list : List Nat), IsL fF H list_a list_n l_list ∧ l_list.length < 1073741824 ∧ ((∀ H' : AHeap, Grow H H' → K ((p_impl_BestBreak l_list).1) ((p_impl_BestBreak l_list).2.1) ((p_impl_BestBreak l_list).2.2) H'))) : T_impl_BestBreak list_a list_n list_e H K := h

/-! impl_BestBreak: function 38 -/
def E_impl_BestBreak : Env := envOf [(64, S_impl_isLong), (67, S_impl_mean), (68, S_impl_gainAt), (59, S_impl_IsFinite)]
def F_impl_BestBreak : List Value → AHeap → (Value → AHeap → Prop) → Prop
  | [.slice list_a list_n list_e], H, K => T_impl_BestBreak list_a list_n list_e H fun (r1 : Int) (r2 : Nat) (r3 : Bool) (H' : AHeap) => K (.tuple #[.int .i64 r1, .float .f32 r2, .bool r3]) H'
  | _, _, _ => False
def S_impl_BestBreak : FSpec := { F := F_impl_BestBreak, quiet := false, tame := true }
theorem impl_BestBreak_vc (list_a : Option Addr) (list_n : Nat) (list_e : Nat) (H : AHeap) (K : Value → AHeap → Prop) : bodyK Try.prog E_impl_BestBreak Try.f38 [.slice list_a list_n list_e] H K =
  (T_impl_isLong list_a list_n list_e H fun (r1 : Bool) (H1 : AHeap) => Br (!r1) (K (.tuple #[.int .i64 0, .float .f32 0, .bool false]) H1) (Br (decide (((list_n : Int) : Int) < 2)) (K (.tuple #[.int .i64 0, .float .f32 0, .bool false]) H1) (T_impl_mean list_a list_n list_e H1 fun (r2 : Nat) (H2 : AHeap) => T_impl_gainAt list_a list_n list_e r2 1 H2 fun (r3 : Nat) (H3 : AHeap) => loopK (exK Try.prog E_impl_BestBreak (cl (cl (cr (cl (cr (cr (cr (cr (bodyC Try.f38)))))))))) [.slice list_a list_n list_e, undef, .int .i64 0, .float .f32 0, .bool false, .float .f32 r2, .int .i64 1, .float .f32 r3, .int .i64 2, undef, .slice list_a list_n list_e, .bool r1, .bool (!r1), .bool false, .slice list_a list_n list_e, .int .i64 (list_n : Int), .bool (decide (((list_n : Int) : Int) < 2)), .bool (decide (((list_n : Int) : Int) < 2)), .slice list_a list_n list_e, .float .f32 r2, .slice list_a list_n list_e, .float .f32 r2, .float .f32 r3, undef, undef, undef, undef, undef, undef, undef, undef, undef, undef, undef, undef, undef, undef, undef, undef, undef, undef, undef, undef] H3 (blockQ 0 (seqQ (exK Try.prog E_impl_BestBreak (cr (cr (cr (cr (cr (bodyC Try.f38))))))) (retK Try.prog Try.f38 K)))))) := by kernel_rfl
theorem impl_BestBreak_r1 (list_a : Option Addr) (list_e : Nat) (list_n : Nat) (r1 : Bool) (r2 : Nat) (r3 : Nat) (vat : Int) (best : Nat) (k : Int) (g9 g23 g24 g25 g26 g27 g28 g29 g30 g31 g32 g33 g34 g35 g36 g37 : Value) (H : AHeap) (R : Post) : exK Try.prog E_impl_BestBreak (cl (cl (cr (cl (cr (cr (cr (cr (bodyC Try.f38))))))))) [.slice list_a list_n list_e, undef, .int .i64 0, .float .f32 0, .bool false, .float .f32 r2, .int .i64 vat, .float .f32 best, .int .i64 k, g9, .slice list_a list_n list_e, .bool r1, .bool (!r1), .bool false, .slice list_a list_n list_e, .int .i64 (list_n : Int), .bool (decide (((list_n : Int) : Int) < 2)), .bool (decide (((list_n : Int) : Int) < 2)), .slice list_a list_n list_e, .float .f32 r2, .slice list_a list_n list_e, .float .f32 r2, .float .f32 r3, g23, g24, g25, g26, g27, g28, g29, g30, g31, g32, g33, g34, g35, g36, g37, undef, undef, undef, undef, undef] H R =
  (Br (decide ((k : Int) < (list_n : Int))) (T_impl_gainAt list_a list_n list_e r2 k H fun (r4 : Nat) (H4 : AHeap) => Br (flt .f32 best r4) (R .normal [.slice list_a list_n list_e, undef, .int .i64 0, .float .f32 0, .bool false, .float .f32 r2, .int .i64 k, .float .f32 r4, .int .i64 (IntKind.wrap .i64 (k + 1)), .float .f32 r4, .slice list_a list_n list_e, .bool r1, .bool (!r1), .bool false, .slice list_a list_n list_e, .int .i64 (list_n : Int), .bool (decide (((list_n : Int) : Int) < 2)), .bool (decide (((list_n : Int) : Int) < 2)), .slice list_a list_n list_e, .float .f32 r2, .slice list_a list_n list_e, .float .f32 r2, .float .f32 r3, .int .i64 k, .slice list_a list_n list_e, .int .i64 (list_n : Int), .bool (decide ((k : Int) < (list_n : Int))), .int .i64 k, .int .i64 (IntKind.wrap .i64 (k + 1)), .slice list_a list_n list_e, .float .f32 r2, .int .i64 k, .float .f32 r4, .float .f32 r4, .float .f32 best, .bool (flt .f32 best r4), .int .i64 k, .float .f32 r4, undef, undef, undef, undef, undef] H4) (R .normal [.slice list_a list_n list_e, undef, .int .i64 0, .float .f32 0, .bool false, .float .f32 r2, .int .i64 vat, .float .f32 best, .int .i64 (IntKind.wrap .i64 (k + 1)), .float .f32 r4, .slice list_a list_n list_e, .bool r1, .bool (!r1), .bool false, .slice list_a list_n list_e, .int .i64 (list_n : Int), .bool (decide (((list_n : Int) : Int) < 2)), .bool (decide (((list_n : Int) : Int) < 2)), .slice list_a list_n list_e, .float .f32 r2, .slice list_a list_n list_e, .float .f32 r2, .float .f32 r3, .int .i64 k, .slice list_a list_n list_e, .int .i64 (list_n : Int), .bool (decide ((k : Int) < (list_n : Int))), .int .i64 k, .int .i64 (IntKind.wrap .i64 (k + 1)), .slice list_a list_n list_e, .float .f32 r2, .int .i64 k, .float .f32 r4, .float .f32 r4, .float .f32 best, .bool (flt .f32 best r4), g36, g37, undef, undef, undef, undef, undef] H4)) (R (.exit 0) [.slice list_a list_n list_e, undef, .int .i64 0, .float .f32 0, .bool false, .float .f32 r2, .int .i64 vat, .float .f32 best, .int .i64 k, g9, .slice list_a list_n list_e, .bool r1, .bool (!r1), .bool false, .slice list_a list_n list_e, .int .i64 (list_n : Int), .bool (decide (((list_n : Int) : Int) < 2)), .bool (decide (((list_n : Int) : Int) < 2)), .slice list_a list_n list_e, .float .f32 r2, .slice list_a list_n list_e, .float .f32 r2, .float .f32 r3, .int .i64 k, .slice list_a list_n list_e, .int .i64 (list_n : Int), .bool (decide ((k : Int) < (list_n : Int))), g27, g28, g29, g30, g31, g32, g33, g34, g35, g36, g37, undef, undef, undef, undef, undef] H)) := by kernel_rfl
def impl_BestBreak_I1 (list_a : Option Addr) (list_e : Nat) (list_n : Nat) (r1 : Bool) (r2 : Nat) (r3 : Nat) (Inv : Nat → Int → Nat → Int → AHeap → Prop) : Nat → List Value → AHeap → Prop := fun μ tm H => ∃ (vat : Int), ∃ (best : Nat), ∃ (k : Int), ∃ g9 g23 g24 g25 g26 g27 g28 g29 g30 g31 g32 g33 g34 g35 g36 g37, tm = [.slice list_a list_n list_e, undef, .int .i64 0, .float .f32 0, .bool false, .float .f32 r2, .int .i64 vat, .float .f32 best, .int .i64 k, g9, .slice list_a list_n list_e, .bool r1, .bool (!r1), .bool false, .slice list_a list_n list_e, .int .i64 (list_n : Int), .bool (decide (((list_n : Int) : Int) < 2)), .bool (decide (((list_n : Int) : Int) < 2)), .slice list_a list_n list_e, .float .f32 r2, .slice list_a list_n list_e, .float .f32 r2, .float .f32 r3, g23, g24, g25, g26, g27, g28, g29, g30, g31, g32, g33, g34, g35, g36, g37, undef, undef, undef, undef, undef] ∧ Inv μ vat best k H
theorem impl_BestBreak_L1 (list_a : Option Addr) (list_e : Nat) (list_n : Nat) (r1 : Bool) (r2 : Nat) (r3 : Nat) {Q : Post} (Inv : Nat → Int → Nat → Int → AHeap → Prop) (ν : Nat) (vat : Int) (best : Nat) (k : Int) (g9 g23 g24 g25 g26 g27 g28 g29 g30 g31 g32 g33 g34 g35 g36 g37 : Value) (H : AHeap) (h0 : Inv ν vat best k H)
    (hs : ∀ (μ : Nat) (vat : Int) (best : Nat) (k : Int) (g9 g23 g24 g25 g26 g27 g28 g29 g30 g31 g32 g33 g34 g35 g36 g37 : Value) (H : AHeap), Inv μ vat best k H → exK Try.prog E_impl_BestBreak (cl (cl (cr (cl (cr (cr (cr (cr (bodyC Try.f38))))))))) [.slice list_a list_n list_e, undef, .int .i64 0, .float .f32 0, .bool false, .float .f32 r2, .int .i64 vat, .float .f32 best, .int .i64 k, g9, .slice list_a list_n list_e, .bool r1, .bool (!r1), .bool false, .slice list_a list_n list_e, .int .i64 (list_n : Int), .bool (decide (((list_n : Int) : Int) < 2)), .bool (decide (((list_n : Int) : Int) < 2)), .slice list_a list_n list_e, .float .f32 r2, .slice list_a list_n list_e, .float .f32 r2, .float .f32 r3, g23, g24, g25, g26, g27, g28, g29, g30, g31, g32, g33, g34, g35, g36, g37, undef, undef, undef, undef, undef] H (loopQ (impl_BestBreak_I1 list_a list_e list_n r1 r2 r3 Inv) μ Q)) : loopK (exK Try.prog E_impl_BestBreak (cl (cl (cr (cl (cr (cr (cr (cr (bodyC Try.f38)))))))))) [.slice list_a list_n list_e, undef, .int .i64 0, .float .f32 0, .bool false, .float .f32 r2, .int .i64 vat, .float .f32 best, .int .i64 k, g9, .slice list_a list_n list_e, .bool r1, .bool (!r1), .bool false, .slice list_a list_n list_e, .int .i64 (list_n : Int), .bool (decide (((list_n : Int) : Int) < 2)), .bool (decide (((list_n : Int) : Int) < 2)), .slice list_a list_n list_e, .float .f32 r2, .slice list_a list_n list_e, .float .f32 r2, .float .f32 r3, g23, g24, g25, g26, g27, g28, g29, g30, g31, g32, g33, g34, g35, g36, g37, undef, undef, undef, undef, undef] H Q :=
  ⟨impl_BestBreak_I1 list_a list_e list_n r1 r2 r3 Inv, ν, ⟨vat, best, k, g9, g23, g24, g25, g26, g27, g28, g29, g30, g31, g32, g33, g34, g35, g36, g37, rfl, h0⟩, fun μ tm H h => by obtain ⟨vat, best, k, g9, g23, g24, g25, g26, g27, g28, g29, g30, g31, g32, g33, g34, g35, g36, g37, rfl, hI⟩ := h; exact hs μ vat best k g9 g23 g24 g25 g26 g27 g28 g29 g30 g31 g32 g33 g34 g35 g36 g37 H hI⟩
theorem impl_BestBreak_n1 {list_a : Option Addr} {list_e : Nat} {list_n : Nat} {r1 : Bool} {r2 : Nat} {r3 : Nat} {Q : Post} {Inv : Nat → Int → Nat → Int → AHeap → Prop} {μ : Nat} (μ' : Nat) {vat : Int} {best : Nat} {k : Int} {g9 g23 g24 g25 g26 g27 g28 g29 g30 g31 g32 g33 g34 g35 g36 g37 : Value} {H : AHeap} (hm : μ' < μ) (hI : Inv μ' vat best k H) : loopQ (impl_BestBreak_I1 list_a list_e list_n r1 r2 r3 Inv) μ Q .normal [.slice list_a list_n list_e, undef, .int .i64 0, .float .f32 0, .bool false, .float .f32 r2, .int .i64 vat, .float .f32 best, .int .i64 k, g9, .slice list_a list_n list_e, .bool r1, .bool (!r1), .bool false, .slice list_a list_n list_e, .int .i64 (list_n : Int), .bool (decide (((list_n : Int) : Int) < 2)), .bool (decide (((list_n : Int) : Int) < 2)), .slice list_a list_n list_e, .float .f32 r2, .slice list_a list_n list_e, .float .f32 r2, .float .f32 r3, g23, g24, g25, g26, g27, g28, g29, g30, g31, g32, g33, g34, g35, g36, g37, undef, undef, undef, undef, undef] H := ⟨μ', hm, vat, best, k, g9, g23, g24, g25, g26, g27, g28, g29, g30, g31, g32, g33, g34, g35, g36, g37, rfl, hI⟩
theorem impl_BestBreak_x1_0 (list_a : Option Addr) (list_e : Nat) (list_n : Nat) (r1 : Bool) (r2 : Nat) (r3 : Nat) (vat : Int) (best : Nat) (k : Int) (g9 g23 g24 g25 g26 g27 g28 g29 g30 g31 g32 g33 g34 g35 g36 g37 : Value) (H : AHeap) (K : Value → AHeap → Prop)  {I : Nat → List Value → AHeap → Prop} {μ : Nat} : loopQ I μ (blockQ 0 (seqQ (exK Try.prog E_impl_BestBreak (cr (cr (cr (cr (cr (bodyC Try.f38))))))) (retK Try.prog Try.f38 K))) (.exit 0) [.slice list_a list_n list_e, undef, .int .i64 0, .float .f32 0, .bool false, .float .f32 r2, .int .i64 vat, .float .f32 best, .int .i64 k, g9, .slice list_a list_n list_e, .bool r1, .bool (!r1), .bool false, .slice list_a list_n list_e, .int .i64 (list_n : Int), .bool (decide (((list_n : Int) : Int) < 2)), .bool (decide (((list_n : Int) : Int) < 2)), .slice list_a list_n list_e, .float .f32 r2, .slice list_a list_n list_e, .float .f32 r2, .float .f32 r3, g23, g24, g25, g26, g27, g28, g29, g30, g31, g32, g33, g34, g35, g36, g37, undef, undef, undef, undef, undef] H =
  (T_impl_IsFinite best H fun (r5 : Bool) (H5 : AHeap) => Br (!r5) (K (.tuple #[.int .i64 0, .float .f32 0, .bool false]) H5) (K (.tuple #[.int .i64 vat, .float .f32 best, .bool true]) H5)) := by kernel_rfl
theorem E_impl_BestBreak_ok : ∀ g, FnOk Try.prog g (E_impl_BestBreak g) := FnOk.envOf (by
  intro x hx
  simp only [List.mem_cons, List.not_mem_nil, or_false] at hx
  rcases hx with rfl | rfl | rfl | rfl
  · exact impl_isLong_ok
  · exact impl_mean_ok
  · exact impl_gainAt_ok
  · exact impl_IsFinite_ok)
set_option maxHeartbeats 1000000 in
theorem impl_BestBreak_main (list_a : Option Addr) (list_n : Nat) (list_e : Nat) (H : AHeap) (K : Value → AHeap → Prop) (h : T_impl_BestBreak list_a list_n list_e H fun (r1 : Int) (r2 : Nat) (r3 : Bool) (H' : AHeap) => K (.tuple #[.int .i64 r1, .float .f32 r2, .bool r3]) H') : bodyK Try.prog E_impl_BestBreak Try.f38 [.slice list_a list_n list_e] H K := by
  rw [impl_BestBreak_vc]
  obtain ⟨l_list, i_list, bd_13, hk⟩ := h
  obtain rfl := i_list.eqn
  have e : (p_impl_BestBreak l_list) = _ := rfl
  have e := e.trans (p_impl_BestBreak_eq l_list)
  have g0 := Grow.refl H
  refine T_impl_isLong_i ⟨_, (i_list.grow g0), (by first | omega | (simp only [List.length_set, List.length_replicate, List.length_append, List.length_cons, List.length_nil, List.length_take, List.length_drop, marks_length]; done) | (simp only [List.length_set, List.length_replicate, List.length_append, List.length_cons, List.length_nil, List.length_take, List.length_drop, marks_length]; omega)), fun  H_1 g_1  => ?_⟩
  have l_2 := g_1.1
  have g_3 := g0.trans g_1
  have l_4 := g_3.1
  refine Br.intro (fun c_5 => ?_) (fun c_5 => ?_)
  · have e := e.trans (cond_t c_5)
    have c_5n := nf_of_t c_5
    rw [e] at hk
    exact hk  H_1 g_3 
  · have e := e.trans (cond_f c_5)
    have c_5n := nt_of_f c_5
    have c_5n' := impl_isLong_t c_5n
    refine Br.intro (fun c_6 => ?_) (fun c_6 => ?_)
    · have e := e.trans (cond_t c_6)
      have c_6' := of_decide_eq_true c_6
      rw [e] at hk
      exact hk  H_1 g_3 
    · have e := e.trans (cond_f c_6)
      have c_6' := of_decide_eq_false c_6
      refine T_impl_mean_i ⟨_, (i_list.grow g_3), (by first | omega | (simp only [List.length_set, List.length_replicate, List.length_append, List.length_cons, List.length_nil, List.length_take, List.length_drop, marks_length]; done) | (simp only [List.length_set, List.length_replicate, List.length_append, List.length_cons, List.length_nil, List.length_take, List.length_drop, marks_length]; omega)), ?_⟩
      refine T_impl_gainAt_i ⟨_, (i_list.grow g_3), (by first | omega | (simp only [List.length_set, List.length_replicate, List.length_append, List.length_cons, List.length_nil, List.length_take, List.length_drop, marks_length]; done) | (simp only [List.length_set, List.length_replicate, List.length_append, List.length_cons, List.length_nil, List.length_take, List.length_drop, marks_length]; omega)), (by first | assumption | omega | (simp; omega)), (by first | assumption | omega | (simp; omega)), ?_⟩
      refine impl_BestBreak_L1 _ _ _ _ _ _ (fun (μ : Nat) (vat : Int) (best : Nat) (k : Int) (H_2 : AHeap) => H_1 = H_2 ∧ (2 : Int) ≤ k ∧ ((k ≤ (l_list.length : Int) ∨ k ≤ (2 : Int))) ∧ (l_list.length : Int) - k ≤ (μ : Int) ∧ p_impl_BestBreak l_list = p_impl_BestBreak_l1 l_list (μ + 1) vat best k) (Int.toNat ((l_list.length : Int) - (2 : Int))) _ _ _ _ _ _ _ _ _ _ _ _ _ _ _ _ _ _ _ H_1 ?_ ?_
      · exact ⟨rfl, (by first | omega | (simp; done) | (simp; omega)), (by first | omega | (simp; done) | (simp; omega)), (by omega), e⟩
      · intro μ vat best k g9 g23 g24 g25 g26 g27 g28 g29 g30 g31 g32 g33 g34 g35 g36 g37 H_2 hI
        obtain ⟨rfl, v_7, v_8, hμ, e⟩ := hI
        rw [impl_BestBreak_r1]
        have e := e.trans (p_impl_BestBreak_l1_s l_list μ vat best k)
        have l_9 := g_3.1
        refine Br.intro (fun c_10 => ?_) (fun c_10 => ?_)
        · have e := e.trans (cond_t c_10)
          have c_10' := of_decide_eq_true c_10
          refine T_impl_gainAt_i ⟨_, (i_list.grow g_3), (by first | omega | (simp only [List.length_set, List.length_replicate, List.length_append, List.length_cons, List.length_nil, List.length_take, List.length_drop, marks_length]; done) | (simp only [List.length_set, List.length_replicate, List.length_append, List.length_cons, List.length_nil, List.length_take, List.length_drop, marks_length]; omega)), (by first | assumption | omega | (simp; omega)), (by first | assumption | omega | (simp; omega)), ?_⟩
          refine Br.intro (fun c_11 => ?_) (fun c_11 => ?_)
          · have e := e.trans (cond_t c_11)
            rw [show IntKind.wrap .i64 (k + 1) = (k + 1) from wrap64 (by omega) (by omega)]
            refine impl_BestBreak_n1 (μ - 1) (by omega) ⟨rfl, (by first | omega | (simp only [List.length_append, List.length_cons, List.length_nil, List.length_set]; done) | (simp only [List.length_append, List.length_cons, List.length_nil, List.length_set]; omega)), (by first | omega | (simp only [List.length_append, List.length_cons, List.length_nil, List.length_set]; done) | (simp only [List.length_append, List.length_cons, List.length_nil, List.length_set]; omega)), (by omega), (by rw [show μ - 1 + 1 = μ from by omega]; exact e)⟩
          · have e := e.trans (cond_f c_11)
            rw [show IntKind.wrap .i64 (k + 1) = (k + 1) from wrap64 (by omega) (by omega)]
            refine impl_BestBreak_n1 (μ - 1) (by omega) ⟨rfl, (by first | omega | (simp only [List.length_append, List.length_cons, List.length_nil, List.length_set]; done) | (simp only [List.length_append, List.length_cons, List.length_nil, List.length_set]; omega)), (by first | omega | (simp only [List.length_append, List.length_cons, List.length_nil, List.length_set]; done) | (simp only [List.length_append, List.length_cons, List.length_nil, List.length_set]; omega)), (by omega), (by rw [show μ - 1 + 1 = μ from by omega]; exact e)⟩
        · have e := e.trans (cond_f c_10)
          have c_10' := of_decide_eq_false c_10
          rw [impl_BestBreak_x1_0]
          refine T_impl_IsFinite_i ?_
          refine Br.intro (fun c_12 => ?_) (fun c_12 => ?_)
          · have e := e.trans (cond_t c_12)
            have c_12n := nf_of_t c_12
            rw [e] at hk
            exact hk  H_1 g_3 
          · have e := e.trans (cond_f c_12)
            have c_12n := nt_of_f c_12
            rw [e] at hk
            exact hk  H_1 g_3 
theorem impl_BestBreak_ok : FnOk Try.prog 38 S_impl_BestBreak := by
  refine FnOk.body mix_ok E_impl_BestBreak_ok Try.func38 rfl (by kernel_rfl) (by kernel_rfl) ?_ ?_ ?_ ?_ ?_
  · intro args H K K' h hk
    simp only [S_impl_BestBreak] at *
    unfold F_impl_BestBreak at *
    split at hk
    · obtain ⟨l_list, i_list, bd_13, k⟩ := hk
      exact ⟨l_list, i_list, bd_13, (fun  H' gg  => h _ _ (k  H' gg ))⟩
    · exact hk.elim
  · intro hq; cases hq
  · intro args H K hk
    simp only [S_impl_BestBreak] at *
    unfold F_impl_BestBreak at *
    split at hk
    · obtain ⟨l_list, i_list, bd_13, k⟩ := hk
      exact ⟨_, _, k H (Grow.refl H)⟩
    · exact hk.elim
  · intro _ args H K hk
    simp only [S_impl_BestBreak] at *
    unfold F_impl_BestBreak at *
    split at hk
    · obtain ⟨l_list, i_list, bd_13, k⟩ := hk
      exact ⟨l_list, i_list, bd_13, (fun  H' gg  => ⟨gg, k  H' gg ⟩)⟩
    · exact hk.elim
  · have mm := @impl_BestBreak_main
    revert mm
    generalize bodyK Try.prog E_impl_BestBreak Try.f38 = Q
    intro mm args H K hk
    simp only [S_impl_BestBreak] at *
    unfold F_impl_BestBreak at *
    split at hk
    · exact mm _ _ _ H K hk
    · exact hk.elim
def p_laws_sameFloat (a : Nat) (b : Nat) : Bool := (bif !(feq .f64 a a) then (bif !(feq .f64 a a) then !(feq .f64 b b) else false) else (bif !(feq .f64 b b) then (bif !(feq .f64 a a) then !(feq .f64 b b) else false) else (bif feq .f64 a 0 then (bif feq .f64 b 0 then (flt .f64 0 (fdiv .f64 4607182418800017408 a)) == (flt .f64 0 (fdiv .f64 4607182418800017408 b)) else feq .f64 a b) else feq .f64 a b)))
theorem p_laws_sameFloat_eq (a : Nat) (b : Nat) : p_laws_sameFloat a b = (bif !(feq .f64 a a) then (bif !(feq .f64 a a) then !(feq .f64 b b) else false) else (bif !(feq .f64 b b) then (bif !(feq .f64 a a) then !(feq .f64 b b) else false) else (bif feq .f64 a 0 then (bif feq .f64 b 0 then (flt .f64 0 (fdiv .f64 4607182418800017408 a)) == (flt .f64 0 (fdiv .f64 4607182418800017408 b)) else feq .f64 a b) else feq .f64 a b))) := rfl
def T_laws_sameFloat (a : Nat) (b : Nat) (H : AHeap) (K : Bool → AHeap → Prop) : Prop := K (p_laws_sameFloat a b) H

theorem T_laws_sameFloat_i {a : Nat} {b : Nat} {H : AHeap} {K : Bool → AHeap → Prop} (h : K (p_laws_sameFloat a b) H) : T_laws_sameFloat a b H K := h
/-! laws_sameFloat: function 30 -/
def E_laws_sameFloat : Env := envOf []
def F_laws_sameFloat : List Value → AHeap → (Value → AHeap → Prop) → Prop
  | [.float .f64 a, .float .f64 b], H, K => T_laws_sameFloat a b H fun (r1 : Bool) (H' : AHeap) => K (.bool r1) H'
  | _, _, _ => False
def S_laws_sameFloat : FSpec := { F := F_laws_sameFloat, quiet := true, tame := false }
theorem laws_sameFloat_vc (a : Nat) (b : Nat) (H : AHeap) (K : Value → AHeap → Prop) : bodyK Try.prog E_laws_sameFloat Try.f30 [.float .f64 a, .float .f64 b] H K =
  (Br (!(feq .f64 a a)) (Br (!(feq .f64 a a)) (K (.bool (!(feq .f64 b b))) H) (K (.bool false) H)) (Br (!(feq .f64 b b)) (Br (!(feq .f64 a a)) (K (.bool (!(feq .f64 b b))) H) (K (.bool false) H)) (Br (feq .f64 a 0) (Br (feq .f64 b 0) (K (.bool ((flt .f64 0 (fdiv .f64 4607182418800017408 a)) == (flt .f64 0 (fdiv .f64 4607182418800017408 b)))) H) (K (.bool (feq .f64 a b)) H)) (K (.bool (feq .f64 a b)) H)))) := by kernel_rfl
theorem E_laws_sameFloat_ok : ∀ g, FnOk Try.prog g (E_laws_sameFloat g) := FnOk.envOf (by
  intro x hx; cases hx)
set_option maxHeartbeats 1000000 in
theorem laws_sameFloat_main (a : Nat) (b : Nat) (H : AHeap) (K : Value → AHeap → Prop) (h : T_laws_sameFloat a b H fun (r1 : Bool) (H' : AHeap) => K (.bool r1) H') : bodyK Try.prog E_laws_sameFloat Try.f30 [.float .f64 a, .float .f64 b] H K := by
  rw [laws_sameFloat_vc]
  unfold T_laws_sameFloat p_laws_sameFloat at h
  repeat' (first | exact h | (exfalso; simp_all; done) | (refine ⟨by decide, ?_⟩) | (refine Br.intro (fun hb => ?_) (fun hb => ?_) <;> (try simp only [hb, cond_true, cond_false, Bool.not_true, Bool.not_false] at h)))
theorem laws_sameFloat_ok : FnOk Try.prog 30 S_laws_sameFloat := by
  refine FnOk.body mix_ok E_laws_sameFloat_ok Try.func30 rfl (by kernel_rfl) (by kernel_rfl) ?_ ?_ ?_ ?_ ?_
  · intro args H K K' h hk
    simp only [S_laws_sameFloat] at *
    unfold F_laws_sameFloat at *
    split at hk
    · have k := hk
      exact h _ _ k
    · exact hk.elim
  · intro _ args H K hk
    simp only [S_laws_sameFloat] at *
    unfold F_laws_sameFloat at *
    split at hk
    · have k := hk
      exact ⟨_, k, fun K' k' => k'⟩
    · exact hk.elim
  · intro args H K hk
    simp only [S_laws_sameFloat] at *
    unfold F_laws_sameFloat at *
    split at hk
    · have k := hk
      exact ⟨_, _, k⟩
    · exact hk.elim
  · intro hq; cases hq
  · have mm := @laws_sameFloat_main
    revert mm
    generalize bodyK Try.prog E_laws_sameFloat Try.f30 = Q
    intro mm args H K hk
    simp only [S_laws_sameFloat] at *
    unfold F_laws_sameFloat at *
    split at hk
    · exact mm _ _ H K hk
    · exact hk.elim
def p_laws_eqFloat32S_l1 (l_a : List Nat) (l_b : List Nat) : Nat → Bool → Int → Bool
  | 0, _, _ => false
  | μ + 1, t4, i => (bif decide ((i : Int) < (l_a.length : Int)) then (bif !((p_laws_sameFloat (fwide (((l_a).getD (i : Int).toNat 0))) (fwide (((l_b).getD (i : Int).toNat 0))))) then false else (p_laws_eqFloat32S_l1 l_a l_b μ t4 (i + 1))) else true)
theorem p_laws_eqFloat32S_l1_s (l_a : List Nat) (l_b : List Nat) (μ : Nat) (t4 : Bool) (i : Int) : p_laws_eqFloat32S_l1 l_a l_b (μ + 1) t4 i = (bif decide ((i : Int) < (l_a.length : Int)) then (bif !((p_laws_sameFloat (fwide (((l_a).getD (i : Int).toNat 0))) (fwide (((l_b).getD (i : Int).toNat 0))))) then false else (p_laws_eqFloat32S_l1 l_a l_b μ t4 (i + 1))) else true) := rfl
def p_laws_eqFloat32S (l_a : List Nat) (l_b : List Nat) : Bool := (bif ((l_a.length : Int) : Int) != (l_b.length : Int) then false else (p_laws_eqFloat32S_l1 l_a l_b (Int.toNat ((l_a.length : Int) - (0 : Int)) + 1) false (0 : Int)))
theorem p_laws_eqFloat32S_eq (l_a : List Nat) (l_b : List Nat) : p_laws_eqFloat32S l_a l_b = (bif ((l_a.length : Int) : Int) != (l_b.length : Int) then false else (p_laws_eqFloat32S_l1 l_a l_b (Int.toNat ((l_a.length : Int) - (0 : Int)) + 1) false (0 : Int))) := rfl
def T_laws_eqFloat32S (a_a : Option Addr) (a_n : Nat) (a_e : Nat) (b_a : Option Addr) (b_n : Nat) (b_e : Nat) (H : AHeap) (K : Bool → AHeap → Prop) : Prop := ∃ (l_a : List Nat), ∃ (l_b : List Nat), IsL fF H a_a a_n l_a ∧ IsL fF H b_a b_n l_b ∧ l_a.length < 1073741824 ∧ l_b.length < 1073741824 ∧ K (p_laws_eqFloat32S l_a l_b) H
theorem T_laws_eqFloat32S_i {a_a : Option Addr} {a_n : Nat} {a_e : Nat} {b_a : Option Addr} {b_n : Nat} {b_e : Nat} {H : AHeap} {K : Bool → AHeap → Prop} (h : ∃ (l_a : List Nat), ∃ (l_b : List Nat), IsL fF H a_a a_n l_a ∧ IsL fF H b_a b_n l_b ∧ l_a.length < 1073741824 ∧ l_b.length < 1073741824 ∧ K (p_laws_eqFloat32S l_a l_b) H) : T_laws_eqFloat32S a_a a_n a_e b_a b_n b_e H K := h
theorem laws_sameFloat_self (y : Nat) : p_laws_sameFloat y y = true := by
  rw [p_laws_sameFloat_eq]
  cases feq .f64 y y <;> simp
theorem laws_eqFloat32S_go (l : List Nat) : ∀ (μ : Nat) (t : Bool) (i : Nat), l.length - i < μ → p_laws_eqFloat32S_l1 l l μ t (i : Int) = true := by
  intro μ
  induction μ with
  | zero => intro t i h; omega
  | succ μ ih =>
    intro t i hm
    rw [p_laws_eqFloat32S_l1_s]
    by_cases h : i < l.length
    · rw [decide_eq_true (show (i : Int) < (l.length : Int) by omega), cond_true, laws_sameFloat_self]
      simp only [Bool.not_true, cond_false]
      exact ih t (i + 1) (by omega)
    · rw [decide_eq_false (show ¬ (i : Int) < (l.length : Int) by omega), cond_false]
theorem laws_eqFloat32S_self (l : List Nat) : p_laws_eqFloat32S l l = true := by
  rw [p_laws_eqFloat32S_eq]
  have h0 : ((l.length : Int) != (l.length : Int)) = false := by simp
  rw [h0, cond_false]
  exact laws_eqFloat32S_go l _ false 0 (by omega)
/-! laws_eqFloat32S: function 24 -/
def E_laws_eqFloat32S : Env := envOf [(30, S_laws_sameFloat)]
def F_laws_eqFloat32S : List Value → AHeap → (Value → AHeap → Prop) → Prop
  | [.slice a_a a_n a_e, .slice b_a b_n b_e], H, K => T_laws_eqFloat32S a_a a_n a_e b_a b_n b_e H fun (r1 : Bool) (H' : AHeap) => K (.bool r1) H'
  | _, _, _ => False
def S_laws_eqFloat32S : FSpec := { F := F_laws_eqFloat32S, quiet := true, tame := false }
theorem laws_eqFloat32S_vc (a_a : Option Addr) (a_n : Nat) (a_e : Nat) (b_a : Option Addr) (b_n : Nat) (b_e : Nat) (H : AHeap) (K : Value → AHeap → Prop) : bodyK Try.prog E_laws_eqFloat32S Try.f24 [.slice a_a a_n a_e, .slice b_a b_n b_e] H K =
  (Br (((a_n : Int) : Int) != (b_n : Int)) (K (.bool false) H) (loopK (exK Try.prog E_laws_eqFloat32S (cl (cl (cr (cl (cr (cr (bodyC Try.f24)))))))) [.slice a_a a_n a_e, .slice b_a b_n b_e, undef, undef, .bool false, .int .i64 0, .slice a_a a_n a_e, .int .i64 (a_n : Int), .slice b_a b_n b_e, .int .i64 (b_n : Int), .bool (((a_n : Int) : Int) != (b_n : Int)), undef, undef, undef, undef, undef, undef, undef, undef, undef, undef, undef, undef, undef, undef, undef, undef, undef, undef] H (blockQ 0 (seqQ (exK Try.prog E_laws_eqFloat32S (cr (cr (cr (bodyC Try.f24))))) (retK Try.prog Try.f24 K))))) := by kernel_rfl
theorem laws_eqFloat32S_r1 (a_a : Option Addr) (a_e : Nat) (a_n : Nat) (b_a : Option Addr) (b_e : Nat) (b_n : Nat) (t4 : Bool) (i : Int) (g11 g12 g13 g14 g15 g16 g17 g18 g19 g20 g21 g22 g23 g24 g25 g26 g27 g28 : Value) (H : AHeap) (R : Post) : exK Try.prog E_laws_eqFloat32S (cl (cl (cr (cl (cr (cr (bodyC Try.f24))))))) [.slice a_a a_n a_e, .slice b_a b_n b_e, undef, undef, .bool t4, .int .i64 i, .slice a_a a_n a_e, .int .i64 (a_n : Int), .slice b_a b_n b_e, .int .i64 (b_n : Int), .bool (((a_n : Int) : Int) != (b_n : Int)), g11, g12, g13, g14, g15, g16, g17, g18, g19, g20, g21, g22, g23, g24, g25, g26, g27, g28] H R =
  (Br (decide ((i : Int) < (a_n : Int))) ((0 : Int) ≤ i ∧ i < (a_n : Int) ∧ ∃ b1 f1, (a_a : Option Addr) = some ⟨b1, f1, none⟩ ∧ ∃ x1 : Nat,  rdC H b1 (f1 + (i : Int).toNat * 1) = some (.float .f32 x1) ∧ (0 : Int) ≤ i ∧ i < (b_n : Int) ∧ ∃ b2 f2, (b_a : Option Addr) = some ⟨b2, f2, none⟩ ∧ ∃ x2 : Nat,  rdC H b2 (f2 + (i : Int).toNat * 1) = some (.float .f32 x2) ∧ T_laws_sameFloat (fwide x1) (fwide x2) H fun (r1 : Bool) (H1 : AHeap) => Br (!r1) (R .ret [.slice a_a a_n a_e, .slice b_a b_n b_e, undef, undef, .bool false, .int .i64 i, .slice a_a a_n a_e, .int .i64 (a_n : Int), .slice b_a b_n b_e, .int .i64 (b_n : Int), .bool (((a_n : Int) : Int) != (b_n : Int)), .int .i64 i, .slice a_a a_n a_e, .int .i64 (a_n : Int), .bool (decide ((i : Int) < (a_n : Int))), g15, g16, .slice a_a a_n a_e, .int .i64 i, .pointer (some ⟨b1, f1 + (i : Int).toNat * 1, none⟩), .float .f32 x1, .float .f64 (fwide x1), .slice b_a b_n b_e, .int .i64 i, .pointer (some ⟨b2, f2 + (i : Int).toNat * 1, none⟩), .float .f32 x2, .float .f64 (fwide x2), .bool r1, .bool (!r1)] H1) (R .normal [.slice a_a a_n a_e, .slice b_a b_n b_e, undef, undef, .bool t4, .int .i64 (IntKind.wrap .i64 (i + 1)), .slice a_a a_n a_e, .int .i64 (a_n : Int), .slice b_a b_n b_e, .int .i64 (b_n : Int), .bool (((a_n : Int) : Int) != (b_n : Int)), .int .i64 i, .slice a_a a_n a_e, .int .i64 (a_n : Int), .bool (decide ((i : Int) < (a_n : Int))), .int .i64 i, .int .i64 (IntKind.wrap .i64 (i + 1)), .slice a_a a_n a_e, .int .i64 i, .pointer (some ⟨b1, f1 + (i : Int).toNat * 1, none⟩), .float .f32 x1, .float .f64 (fwide x1), .slice b_a b_n b_e, .int .i64 i, .pointer (some ⟨b2, f2 + (i : Int).toNat * 1, none⟩), .float .f32 x2, .float .f64 (fwide x2), .bool r1, .bool (!r1)] H1)) (R (.exit 0) [.slice a_a a_n a_e, .slice b_a b_n b_e, undef, undef, .bool t4, .int .i64 i, .slice a_a a_n a_e, .int .i64 (a_n : Int), .slice b_a b_n b_e, .int .i64 (b_n : Int), .bool (((a_n : Int) : Int) != (b_n : Int)), .int .i64 i, .slice a_a a_n a_e, .int .i64 (a_n : Int), .bool (decide ((i : Int) < (a_n : Int))), g15, g16, g17, g18, g19, g20, g21, g22, g23, g24, g25, g26, g27, g28] H)) := by kernel_rfl
def laws_eqFloat32S_I1 (a_a : Option Addr) (a_e : Nat) (a_n : Nat) (b_a : Option Addr) (b_e : Nat) (b_n : Nat) (Inv : Nat → Bool → Int → AHeap → Prop) : Nat → List Value → AHeap → Prop := fun μ tm H => ∃ (t4 : Bool), ∃ (i : Int), ∃ g11 g12 g13 g14 g15 g16 g17 g18 g19 g20 g21 g22 g23 g24 g25 g26 g27 g28, tm = [.slice a_a a_n a_e, .slice b_a b_n b_e, undef, undef, .bool t4, .int .i64 i, .slice a_a a_n a_e, .int .i64 (a_n : Int), .slice b_a b_n b_e, .int .i64 (b_n : Int), .bool (((a_n : Int) : Int) != (b_n : Int)), g11, g12, g13, g14, g15, g16, g17, g18, g19, g20, g21, g22, g23, g24, g25, g26, g27, g28] ∧ Inv μ t4 i H
theorem laws_eqFloat32S_L1 (a_a : Option Addr) (a_e : Nat) (a_n : Nat) (b_a : Option Addr) (b_e : Nat) (b_n : Nat) {Q : Post} (Inv : Nat → Bool → Int → AHeap → Prop) (ν : Nat) (t4 : Bool) (i : Int) (g11 g12 g13 g14 g15 g16 g17 g18 g19 g20 g21 g22 g23 g24 g25 g26 g27 g28 : Value) (H : AHeap) (h0 : Inv ν t4 i H)
    (hs : ∀ (μ : Nat) (t4 : Bool) (i : Int) (g11 g12 g13 g14 g15 g16 g17 g18 g19 g20 g21 g22 g23 g24 g25 g26 g27 g28 : Value) (H : AHeap), Inv μ t4 i H → exK Try.prog E_laws_eqFloat32S (cl (cl (cr (cl (cr (cr (bodyC Try.f24))))))) [.slice a_a a_n a_e, .slice b_a b_n b_e, undef, undef, .bool t4, .int .i64 i, .slice a_a a_n a_e, .int .i64 (a_n : Int), .slice b_a b_n b_e, .int .i64 (b_n : Int), .bool (((a_n : Int) : Int) != (b_n : Int)), g11, g12, g13, g14, g15, g16, g17, g18, g19, g20, g21, g22, g23, g24, g25, g26, g27, g28] H (loopQ (laws_eqFloat32S_I1 a_a a_e a_n b_a b_e b_n Inv) μ Q)) : loopK (exK Try.prog E_laws_eqFloat32S (cl (cl (cr (cl (cr (cr (bodyC Try.f24)))))))) [.slice a_a a_n a_e, .slice b_a b_n b_e, undef, undef, .bool t4, .int .i64 i, .slice a_a a_n a_e, .int .i64 (a_n : Int), .slice b_a b_n b_e, .int .i64 (b_n : Int), .bool (((a_n : Int) : Int) != (b_n : Int)), g11, g12, g13, g14, g15, g16, g17, g18, g19, g20, g21, g22, g23, g24, g25, g26, g27, g28] H Q :=
  ⟨laws_eqFloat32S_I1 a_a a_e a_n b_a b_e b_n Inv, ν, ⟨t4, i, g11, g12, g13, g14, g15, g16, g17, g18, g19, g20, g21, g22, g23, g24, g25, g26, g27, g28, rfl, h0⟩, fun μ tm H h => by obtain ⟨t4, i, g11, g12, g13, g14, g15, g16, g17, g18, g19, g20, g21, g22, g23, g24, g25, g26, g27, g28, rfl, hI⟩ := h; exact hs μ t4 i g11 g12 g13 g14 g15 g16 g17 g18 g19 g20 g21 g22 g23 g24 g25 g26 g27 g28 H hI⟩
theorem laws_eqFloat32S_n1 {a_a : Option Addr} {a_e : Nat} {a_n : Nat} {b_a : Option Addr} {b_e : Nat} {b_n : Nat} {Q : Post} {Inv : Nat → Bool → Int → AHeap → Prop} {μ : Nat} (μ' : Nat) {t4 : Bool} {i : Int} {g11 g12 g13 g14 g15 g16 g17 g18 g19 g20 g21 g22 g23 g24 g25 g26 g27 g28 : Value} {H : AHeap} (hm : μ' < μ) (hI : Inv μ' t4 i H) : loopQ (laws_eqFloat32S_I1 a_a a_e a_n b_a b_e b_n Inv) μ Q .normal [.slice a_a a_n a_e, .slice b_a b_n b_e, undef, undef, .bool t4, .int .i64 i, .slice a_a a_n a_e, .int .i64 (a_n : Int), .slice b_a b_n b_e, .int .i64 (b_n : Int), .bool (((a_n : Int) : Int) != (b_n : Int)), g11, g12, g13, g14, g15, g16, g17, g18, g19, g20, g21, g22, g23, g24, g25, g26, g27, g28] H := ⟨μ', hm, t4, i, g11, g12, g13, g14, g15, g16, g17, g18, g19, g20, g21, g22, g23, g24, g25, g26, g27, g28, rfl, hI⟩
theorem laws_eqFloat32S_x1_0 (a_a : Option Addr) (a_e : Nat) (a_n : Nat) (b_a : Option Addr) (b_e : Nat) (b_n : Nat) (t4 : Bool) (i : Int) (g11 g12 g13 g14 g15 g16 g17 g18 g19 g20 g21 g22 g23 g24 g25 g26 g27 g28 : Value) (H : AHeap) (K : Value → AHeap → Prop)  {I : Nat → List Value → AHeap → Prop} {μ : Nat} : loopQ I μ (blockQ 0 (seqQ (exK Try.prog E_laws_eqFloat32S (cr (cr (cr (bodyC Try.f24))))) (retK Try.prog Try.f24 K))) (.exit 0) [.slice a_a a_n a_e, .slice b_a b_n b_e, undef, undef, .bool t4, .int .i64 i, .slice a_a a_n a_e, .int .i64 (a_n : Int), .slice b_a b_n b_e, .int .i64 (b_n : Int), .bool (((a_n : Int) : Int) != (b_n : Int)), g11, g12, g13, g14, g15, g16, g17, g18, g19, g20, g21, g22, g23, g24, g25, g26, g27, g28] H =
  (K (.bool true) H) := by kernel_rfl
theorem laws_eqFloat32S_x1_ret (a_a : Option Addr) (a_e : Nat) (a_n : Nat) (b_a : Option Addr) (b_e : Nat) (b_n : Nat) (t4 : Bool) (i : Int) (g11 g12 g13 g14 g15 g16 g17 g18 g19 g20 g21 g22 g23 g24 g25 g26 g27 g28 : Value) (H : AHeap) (K : Value → AHeap → Prop)  {I : Nat → List Value → AHeap → Prop} {μ : Nat} : loopQ I μ (blockQ 0 (seqQ (exK Try.prog E_laws_eqFloat32S (cr (cr (cr (bodyC Try.f24))))) (retK Try.prog Try.f24 K))) .ret [.slice a_a a_n a_e, .slice b_a b_n b_e, undef, undef, .bool t4, .int .i64 i, .slice a_a a_n a_e, .int .i64 (a_n : Int), .slice b_a b_n b_e, .int .i64 (b_n : Int), .bool (((a_n : Int) : Int) != (b_n : Int)), g11, g12, g13, g14, g15, g16, g17, g18, g19, g20, g21, g22, g23, g24, g25, g26, g27, g28] H =
  (K (.bool t4) H) := by kernel_rfl
theorem E_laws_eqFloat32S_ok : ∀ g, FnOk Try.prog g (E_laws_eqFloat32S g) := FnOk.envOf (by
  intro x hx
  simp only [List.mem_cons, List.not_mem_nil, or_false] at hx
  subst hx; exact laws_sameFloat_ok)
set_option maxHeartbeats 1000000 in
theorem laws_eqFloat32S_main (a_a : Option Addr) (a_n : Nat) (a_e : Nat) (b_a : Option Addr) (b_n : Nat) (b_e : Nat) (H : AHeap) (K : Value → AHeap → Prop) (h : T_laws_eqFloat32S a_a a_n a_e b_a b_n b_e H fun (r1 : Bool) (H' : AHeap) => K (.bool r1) H') : bodyK Try.prog E_laws_eqFloat32S Try.f24 [.slice a_a a_n a_e, .slice b_a b_n b_e] H K := by
  rw [laws_eqFloat32S_vc]
  obtain ⟨l_a, l_b, i_a, i_b, bd_13, bd_14, hk⟩ := h
  obtain rfl := i_a.eqn
  obtain rfl := i_b.eqn
  have e : (p_laws_eqFloat32S l_a l_b) = _ := rfl
  have e := e.trans (p_laws_eqFloat32S_eq l_a l_b)
  have g0 := Grow.refl H
  refine Br.intro (fun c_1 => ?_) (fun c_1 => ?_)
  · have e := e.trans (cond_t c_1)
    have c_1' := ine_t c_1
    rw [e] at hk
    exact hk
  · have e := e.trans (cond_f c_1)
    have c_1' := ine_f c_1
    refine laws_eqFloat32S_L1 _ _ _ _ _ _ (fun (μ : Nat) (t4 : Bool) (i : Int) (H_1 : AHeap) => H = H_1 ∧ (0 : Int) ≤ i ∧ i ≤ (l_a.length : Int) ∧ (l_a.length : Int) - i ≤ (μ : Int) ∧ p_laws_eqFloat32S l_a l_b = p_laws_eqFloat32S_l1 l_a l_b (μ + 1) t4 i) (Int.toNat ((l_a.length : Int) - (0 : Int))) _ _ _ _ _ _ _ _ _ _ _ _ _ _ _ _ _ _ _ _ H ?_ ?_
    · exact ⟨rfl, (by first | omega | (simp; done) | (simp; omega)), (by first | omega | (simp; done) | (simp; omega)), (by omega), e⟩
    · intro μ t4 i g11 g12 g13 g14 g15 g16 g17 g18 g19 g20 g21 g22 g23 g24 g25 g26 g27 g28 H_1 hI
      obtain ⟨rfl, v_2, v_3, hμ, e⟩ := hI
      rw [laws_eqFloat32S_r1]
      have e := e.trans (p_laws_eqFloat32S_l1_s l_a l_b μ t4 i)
      have l_4 := g0.1
      refine Br.intro (fun c_5 => ?_) (fun c_5 => ?_)
      · have e := e.trans (cond_t c_5)
        have c_5' := of_decide_eq_true c_5
        obtain ⟨b_6, f_7, q_8⟩ := ((i_a.grow g0)).pos (by first | omega | (simp only [List.length_set, List.length_replicate, List.length_append, List.length_cons, List.length_nil, List.length_take, List.length_drop, marks_length]; done) | (simp only [List.length_set, List.length_replicate, List.length_append, List.length_cons, List.length_nil, List.length_take, List.length_drop, marks_length]; omega))
        refine ⟨by omega, by omega, b_6, f_7, q_8, ?_⟩
        refine ⟨((l_a).getD (i : Int).toNat 0), (i_a).rd g0 q_8 (by omega) _, ?_⟩
        obtain ⟨b_9, f_10, q_11⟩ := ((i_b.grow g0)).pos (by first | omega | (simp only [List.length_set, List.length_replicate, List.length_append, List.length_cons, List.length_nil, List.length_take, List.length_drop, marks_length]; done) | (simp only [List.length_set, List.length_replicate, List.length_append, List.length_cons, List.length_nil, List.length_take, List.length_drop, marks_length]; omega))
        refine ⟨by omega, by omega, b_9, f_10, q_11, ?_⟩
        refine ⟨((l_b).getD (i : Int).toNat 0), (i_b).rd g0 q_11 (by omega) _, ?_⟩
        refine T_laws_sameFloat_i ?_
        refine Br.intro (fun c_12 => ?_) (fun c_12 => ?_)
        · have e := e.trans (cond_t c_12)
          have c_12n := nf_of_t c_12
          rw [laws_eqFloat32S_x1_ret]
          rw [e] at hk
          exact hk
        · have e := e.trans (cond_f c_12)
          have c_12n := nt_of_f c_12
          rw [show IntKind.wrap .i64 (i + 1) = (i + 1) from wrap64 (by omega) (by omega)]
          refine laws_eqFloat32S_n1 (μ - 1) (by omega) ⟨rfl, (by first | omega | (simp only [List.length_append, List.length_cons, List.length_nil, List.length_set]; done) | (simp only [List.length_append, List.length_cons, List.length_nil, List.length_set]; omega)), (by first | omega | (simp only [List.length_append, List.length_cons, List.length_nil, List.length_set]; done) | (simp only [List.length_append, List.length_cons, List.length_nil, List.length_set]; omega)), (by omega), (by rw [show μ - 1 + 1 = μ from by omega]; exact e)⟩
      · have e := e.trans (cond_f c_5)
        have c_5' := of_decide_eq_false c_5
        rw [laws_eqFloat32S_x1_0]
        rw [e] at hk
        exact hk
theorem laws_eqFloat32S_ok : FnOk Try.prog 24 S_laws_eqFloat32S := by
  refine FnOk.body mix_ok E_laws_eqFloat32S_ok Try.func24 rfl (by kernel_rfl) (by kernel_rfl) ?_ ?_ ?_ ?_ ?_
  · intro args H K K' h hk
    simp only [S_laws_eqFloat32S] at *
    unfold F_laws_eqFloat32S at *
    split at hk
    · obtain ⟨l_a, l_b, i_a, i_b, bd_13, bd_14, k⟩ := hk
      exact ⟨l_a, l_b, i_a, i_b, bd_13, bd_14, h _ _ k⟩
    · exact hk.elim
  · intro _ args H K hk
    simp only [S_laws_eqFloat32S] at *
    unfold F_laws_eqFloat32S at *
    split at hk
    · obtain ⟨l_a, l_b, i_a, i_b, bd_13, bd_14, k⟩ := hk
      exact ⟨_, k, fun K' k' => ⟨l_a, l_b, i_a, i_b, bd_13, bd_14, k'⟩⟩
    · exact hk.elim
  · intro args H K hk
    simp only [S_laws_eqFloat32S] at *
    unfold F_laws_eqFloat32S at *
    split at hk
    · obtain ⟨l_a, l_b, i_a, i_b, bd_13, bd_14, k⟩ := hk
      exact ⟨_, _, k⟩
    · exact hk.elim
  · intro hq; cases hq
  · have mm := @laws_eqFloat32S_main
    revert mm
    generalize bodyK Try.prog E_laws_eqFloat32S Try.f24 = Q
    intro mm args H K hk
    simp only [S_laws_eqFloat32S] at *
    unfold F_laws_eqFloat32S at *
    split at hk
    · exact mm _ _ _ _ _ _ H K hk
    · exact hk.elim
def p_laws_FnExactBestBreak (l_aList : List Nat) : Bool := (bif decide ((1048576 : Int) < (l_aList.length : Int)) then true else (bif ((p_impl_BestBreak l_aList).1 : Int) != (p_spec_BestBreak l_aList).1 then false else (bif !((p_laws_sameFloat (fwide ((p_impl_BestBreak l_aList).2.1)) (fwide ((p_spec_BestBreak l_aList).2.1)))) then false else (bif !(((p_impl_BestBreak l_aList).2.2) == ((p_spec_BestBreak l_aList).2.2)) then false else (bif !(p_laws_eqFloat32S l_aList l_aList) then false else true)))))
theorem p_laws_FnExactBestBreak_eq (l_aList : List Nat) : p_laws_FnExactBestBreak l_aList = (bif decide ((1048576 : Int) < (l_aList.length : Int)) then true else (bif ((p_impl_BestBreak l_aList).1 : Int) != (p_spec_BestBreak l_aList).1 then false else (bif !((p_laws_sameFloat (fwide ((p_impl_BestBreak l_aList).2.1)) (fwide ((p_spec_BestBreak l_aList).2.1)))) then false else (bif !(((p_impl_BestBreak l_aList).2.2) == ((p_spec_BestBreak l_aList).2.2)) then false else (bif !(p_laws_eqFloat32S l_aList l_aList) then false else true))))) := rfl
def T_laws_FnExactBestBreak (aList_a : Option Addr) (aList_n : Nat) (aList_e : Nat) (H : AHeap) (K : Bool → AHeap → Prop) : Prop := ∃ l_aList : List Nat, IsL fF H aList_a aList_n l_aList ∧ (∀ y ∈ l_aList, W32 y) ∧ l_aList.length ≤ 9223372036854775807 ∧ ∀ H' : AHeap, K true H'
theorem mean_go (l : List Nat) : ∀ (μ s : Nat) (i : Nat), l.length - i < μ → fdiv .f32 (p_impl_added_l1 l μ s (i : Int)) (FloatKind.nearest .f32 (l.length : Int)) = p_spec_l05Mean_l1 l μ s (i : Int) := by
  intro μ
  induction μ with
  | zero => intro s i h; omega
  | succ μ ih =>
    intro s i hm
    rw [p_impl_added_l1_s, p_spec_l05Mean_l1_s]
    by_cases h : i < l.length
    · rw [decide_eq_true (show (i : Int) < (l.length : Int) by omega), cond_true, cond_true]
      exact ih _ (i + 1) (by omega)
    · rw [decide_eq_false (show ¬ (i : Int) < (l.length : Int) by omega), cond_false, cond_false]
theorem mean_same (l : List Nat) : p_impl_mean l = p_spec_l05Mean l := by
  rw [p_impl_mean_eq, p_spec_l05Mean_eq, p_impl_added_eq]
  exact mean_go l _ 0 0 (by omega)
theorem spec_fin (x : Nat) : p_spec_l01Finite x = fin .f32 x := fin_asked x
theorem impl_fin (x : Nat) : p_impl_IsFinite x = fin .f32 x := fin_asked x
theorem w32_wd {x : Nat} (h : W32 x) : Wd .f32 x := ⟨h.1, h.2⟩
theorem wd_w32 {x : Nat} (h : Wd .f32 x) : W32 x := ⟨h.1, h.2⟩
theorem l02Finite_go (l : List Nat) : ∀ (μ : Nat) (t : Bool) (i : Nat), l.length - i < μ → p_spec_l02Finite_l1 l μ t (i : Int) = (l.drop i).all (fin .f32) := by
  intro μ
  induction μ with
  | zero => intro t i h; omega
  | succ μ ih =>
    intro t i hm
    rw [p_spec_l02Finite_l1_s]
    by_cases h : i < l.length
    · rw [decide_eq_true (show (i : Int) < (l.length : Int) by omega), cond_true, Int.toNat_natCast, spec_fin]
      rw [List.drop_eq_getElem_cons h, List.all_cons, List.getD_eq_getElem?_getD, List.getElem?_eq_getElem h, Option.getD_some]
      have := ih t (i + 1) (by omega)
      cases fin .f32 l[i]
      · rfl
      · simp only [Bool.not_true, cond_false, Bool.true_and]; exact this
    · rw [decide_eq_false (show ¬ (i : Int) < (l.length : Int) by omega), cond_false, List.drop_eq_nil_of_le (by omega)]; rfl
theorem l02Finite_all (l : List Nat) : p_spec_l02Finite l = l.all (fin .f32) := by
  rw [p_spec_l02Finite_eq]
  have := l02Finite_go l (Int.toNat ((l.length : Int) - (0 : Int)) + 1) false 0 (by omega)
  simpa using this
theorem areFinite_in (ls : List (List Nat)) (t2 : Bool) (t9 : Int) (k : Bool → Int → Bool) : ∀ (μ : Nat) (t : Bool) (i : Nat), i ≤ (ls.getD t9.toNat []).length → (ls.getD t9.toNat []).length - i < μ →
    p_impl_areFinite_l2 ls t2 t9 k μ t (i : Int) = bif ((ls.getD t9.toNat []).drop i).all (fin .f32) then k t ((ls.getD t9.toNat []).length : Int) else false := by
  intro μ
  generalize hl : ls.getD t9.toNat [] = l
  induction μ with
  | zero => intro t i _ h; omega
  | succ μ ih =>
    intro t i hi hm
    rw [p_impl_areFinite_l2_s, hl]
    by_cases h : i < l.length
    · rw [decide_eq_true (show (i : Int) < (l.length : Int) by omega), cond_true, Int.toNat_natCast, impl_fin]
      rw [List.drop_eq_getElem_cons h, List.all_cons, List.getD_eq_getElem?_getD, List.getElem?_eq_getElem h, Option.getD_some]
      have := ih t (i + 1) (by omega) (by omega)
      cases fin .f32 l[i]
      · rfl
      · simp only [Bool.not_true, cond_false, Bool.true_and]; exact this
    · rw [decide_eq_false (show ¬ (i : Int) < (l.length : Int) by omega), cond_false, List.drop_eq_nil_of_le (by omega), show i = l.length by omega]; rfl
theorem areFinite_go (ls : List (List Nat)) : ∀ (μ : Nat) (t : Bool) (i : Nat), ls.length - i < μ → p_impl_areFinite_l1 ls μ t (i : Int) = (ls.drop i).all (fun l => l.all (fin .f32)) := by
  intro μ
  induction μ with
  | zero => intro t i h; omega
  | succ μ ih =>
    intro t i hm
    rw [p_impl_areFinite_l1_s]
    by_cases h : i < ls.length
    · rw [decide_eq_true (show (i : Int) < (ls.length : Int) by omega), cond_true]
      have := areFinite_in ls t (i : Int) (fun t2 t15 => p_impl_areFinite_l1 ls μ t2 ((i : Int) + 1)) (Int.toNat ((((ls).getD ((i : Int) : Int).toNat []).length : Int) - (0 : Int)) + 1) t 0 (Nat.zero_le _) (by omega)
      refine Eq.trans this ?_
      rw [Int.toNat_natCast, List.drop_zero, List.drop_eq_getElem_cons h, List.all_cons, List.getD_eq_getElem?_getD, List.getElem?_eq_getElem h, Option.getD_some]
      have := ih t (i + 1) (by omega)
      cases ls[i].all (fin .f32)
      · rfl
      · simp only [cond_true, Bool.true_and]; exact this
    · rw [decide_eq_false (show ¬ (i : Int) < (ls.length : Int) by omega), cond_false, List.drop_eq_nil_of_le (by omega)]; rfl
theorem areFinite_all (ls : List (List Nat)) : p_impl_areFinite ls = ls.all (fun l => l.all (fin .f32)) := by
  rw [p_impl_areFinite_eq]
  have := areFinite_go ls (Int.toNat ((ls.length : Int) - (0 : Int)) + 1) false 0 (by omega)
  simpa using this
theorem finite_same (l : List Nat) : p_impl_areFinite [l] = p_spec_l02Finite l := by rw [areFinite_all, l02Finite_all]; simp
theorem long_same (l : List Nat) : p_impl_isLong l = p_spec_l03Long l := by
  rw [p_impl_isLong_eq, p_spec_l03Long_eq, finite_same]
  unfold p_impl_within
  cases decide ((1 : Int) ≤ (l.length : Int)) <;> cases decide (((l.length : Int) : Int) ≤ 128) <;> rfl
theorem long_t {l : List Nat} (h : p_spec_l03Long l = true) : 1 ≤ l.length ∧ l.length ≤ 128 ∧ l.all (fin .f32) = true := by
  rw [p_spec_l03Long_eq, l02Finite_all] at h
  by_cases h1 : (1 : Int) ≤ (l.length : Int)
  · rw [decide_eq_true h1, cond_true] at h
    by_cases h2 : (l.length : Int) ≤ 128
    · rw [decide_eq_true h2, cond_true] at h; exact ⟨by omega, by omega, h⟩
    · rw [decide_eq_false h2] at h; cases h
  · rw [decide_eq_false h1] at h; cases h
theorem fin_getD {l : List Nat} (h : l.all (fin .f32) = true) (i : Nat) : fin .f32 (l.getD i 0) = true := by
  rw [List.getD_eq_getElem?_getD]
  cases hx : l[i]? with
  | none => exact fin_zero _
  | some y => exact List.all_eq_true.1 h y (List.mem_of_getElem? hx)
theorem w32_zero : W32 0 := ⟨by decide, by decide +kernel⟩
theorem w32_getD {l : List Nat} (h : ∀ y ∈ l, W32 y) (i : Nat) : W32 (l.getD i 0) := by
  rw [List.getD_eq_getElem?_getD]
  cases hx : l[i]? with
  | none => exact w32_zero
  | some y => exact h y (List.mem_of_getElem? hx)
theorem added_nn {l : List Nat} (hl : l.all (fin .f32) = true) : ∀ (μ s : Nat) (i : Int), nn .f32 s → nn .f32 (p_impl_added_l1 l μ s i) := by
  intro μ
  induction μ with
  | zero => intro s i _; exact nn_fin (fin_zero _)
  | succ μ ih =>
    intro s i hs
    rw [p_impl_added_l1_s]
    cases decide (i < (l.length : Int))
    · exact hs
    · exact ih _ _ (nn_add_fin hs (fin_getD hl _))
theorem mean_nn {l : List Nat} (hl : l.all (fin .f32) = true) (h1 : 1 ≤ l.length) (h2 : l.length < 300) : nn .f32 (p_spec_l05Mean l) := by
  rw [← mean_same, p_impl_mean_eq, p_impl_added_eq]
  have := fin_small l.length h2
  refine nn_div_fin (added_nn hl _ _ _ (nn_fin (fin_zero _))) this.1 ?_
  intro h; have := this.2.2 h; omega
theorem all_take {l : List Nat} (h : l.all (fin .f32) = true) (a b : Nat) : ((l.drop a).take b).all (fin .f32) = true :=
  List.all_eq_true.2 fun x hx => List.all_eq_true.1 h x (List.mem_of_mem_drop (List.mem_of_mem_take hx))
/-- The gain of a cut. -/
def gain (l : List Nat) (m : Nat) (k : Int) : Nat := fadd .f32 (fmul .f32 (fmul .f32 (FloatKind.nearest .f32 k) (fsub .f32 (p_spec_l05Mean ((l.drop (0 : Int).toNat).take (k - 0).toNat)) m)) (fsub .f32 (p_spec_l05Mean ((l.drop (0 : Int).toNat).take (k - 0).toNat)) m))
  (fmul .f32 (fmul .f32 (FloatKind.nearest .f32 ((l.length : Int) - k)) (fsub .f32 (p_spec_l05Mean ((l.drop k.toNat).take ((l.length : Int) - k).toNat)) m)) (fsub .f32 (p_spec_l05Mean ((l.drop k.toNat).take ((l.length : Int) - k).toNat)) m))
theorem gain_impl (l : List Nat) (m : Nat) (k : Int) : p_impl_gainAt l m k = gain l m k := by rw [p_impl_gainAt_eq]; simp only [mean_same]; rfl
theorem gain_un {l : List Nat} {m : Nat} {k : Int} (h0 : 1 ≤ k) (h1 : k < l.length) (hl : l.length < 300) : un .f32 (gain l m k) := by
  have a := fin_small k.toNat (by omega)
  have b := fin_small ((l.length : Int) - k).toNat (by omega)
  rw [Int.toNat_of_nonneg (by omega)] at a
  rw [Int.toNat_of_nonneg (by omega)] at b
  exact un_add (un_sq a.2.1) (un_sq b.2.1)
theorem nn_add_un {k : FloatKind} {x y : Nat} (hx : nn k x) (hy : nn k y) (ux : un k x) (uy : un k y) : nn k (fadd k x y) := by
  have ux' : (k.format.read x).neg = false := ux.resolve_left (by unfold nn at hx; rw [hx]; simp)
  have uy' : (k.format.read y).neg = false := uy.resolve_left (by unfold nn at hy; rw [hy]; simp)
  unfold nn at hx hy
  cases h1 : k.format.read x <;> cases h2 : k.format.read y <;> rw [h1] at hx ux' <;> rw [h2] at hy uy'
  all_goals first | (cases hx; done) | (cases hy; done) | skip
  · exact nn_some (d := _) (by rw [h1, h2]; rfl) rfl
  · exact nn_some (d := _) (by rw [h1, h2]; rfl) rfl
  · exact nn_some (d := _) (by rw [h1, h2]; rfl) rfl
  · simp only [Ieee.Datum.neg] at ux' uy'
    subst ux'; subst uy'
    exact nn_some (d := .infinity false) (by rw [h1, h2]; rfl) rfl
theorem gain_nn {l : List Nat} {m : Nat} {k : Int} (h0 : 1 ≤ k) (h1 : k < l.length) (hl : l.length < 300) (hf : l.all (fin .f32) = true) (hm : fin .f32 m = true) : nn .f32 (gain l m k) := by
  have a := fin_small k.toNat (by omega)
  have b := fin_small ((l.length : Int) - k).toNat (by omega)
  rw [Int.toNat_of_nonneg (by omega)] at a
  rw [Int.toNat_of_nonneg (by omega)] at b
  have n1 : nn .f32 (fsub .f32 (p_spec_l05Mean ((l.drop (0 : Int).toNat).take (k - 0).toNat)) m) := nn_sub_fin (mean_nn (all_take hf _ _) (by simp; omega) (by simp; omega)) hm
  have n2 : nn .f32 (fsub .f32 (p_spec_l05Mean ((l.drop k.toNat).take ((l.length : Int) - k).toNat)) m) := nn_sub_fin (mean_nn (all_take hf _ _) (by simp; omega) (by simp; omega)) hm
  refine nn_add_un (nn_sq a.1 (fun h => ?_) n1) (nn_sq b.1 (fun h => ?_) n2) (un_sq a.2.1) (un_sq b.2.1)
  · have := a.2.2 h; omega
  · have := b.2.2 h; omega
theorem gain_fin {l : List Nat} {m : Nat} {k : Int} (h : fin .f32 (gain l m k) = true) : fin .f32 m = true :=
  (fin_of_sub (fin_of_mul (fin_of_add h).1).2).2
theorem break_inf (l : List Nat) : ∀ (μ : Nat) (vat : Int) (k : Int), p_impl_BestBreak_l1 l μ vat (FloatKind.f32.format.word false FloatKind.f32.format.infRung) k = (0, 0, false) := by
  intro μ
  induction μ with
  | zero => intro vat k; rfl
  | succ μ ih =>
    intro vat k
    rw [p_impl_BestBreak_l1_s, inf_flt, ih]
    have e : fin .f32 (FloatKind.f32.format.word false FloatKind.f32.format.infRung) = false := by decide +kernel
    rw [impl_fin, e]
    cases decide (k < (l.length : Int)) <;> rfl
theorem break_nan (l : List Nat) {x : Nat} (hx : (FloatKind.f32.format.read x).isNaN = true) : ∀ (μ : Nat) (vat : Int) (k : Int), p_impl_BestBreak_l1 l μ vat x k = (0, 0, false) := by
  intro μ
  induction μ with
  | zero => intro vat k; rfl
  | succ μ ih =>
    intro vat k
    rw [p_impl_BestBreak_l1_s, flt_nan1 hx, ih]
    have e : fin .f32 x = false := by
      obtain ⟨s, t, e⟩ := isNaN_spec _ hx
      unfold fin; rw [e]
    rw [impl_fin, e]
    cases decide (k < (l.length : Int)) <;> rfl
theorem wd_gain (l : List Nat) (m : Nat) (k : Int) : Wd .f32 (gain l m k) := Wd.add _ _ _
theorem break_go {l : List Nat} (hl : l.length < 300) (hf : l.all (fin .f32) = true) (hm : fin .f32 (p_spec_l05Mean l) = true) : ∀ (μ : Nat) (vat : Int) (best : Nat) (k : Int) (t2 : Int) (t3 : Nat) (t4 : Bool), 1 ≤ k → 1 ≤ vat → fin .f32 best = true → (l.length : Int) - k < μ →
    p_impl_BestBreak_l1 l μ vat best k = p_spec_l05Break_l1 l μ t2 t3 t4 vat best k := by
  intro μ
  induction μ with
  | zero =>
    intro vat best k t2 t3 t4 _ _ _ h
    rfl
  | succ μ ih =>
    intro vat best k t2 t3 t4 hk hv hb hμ
    rw [p_impl_BestBreak_l1_s, p_spec_l05Break_l1_s, mean_same, gain_impl]
    by_cases h : k < (l.length : Int)
    · rw [decide_eq_true h, cond_true, cond_true, wrap64 (n := (l.length : Int) - k) (by omega) (by omega)]
      show _ = (bif !(p_spec_l01Finite (gain l (p_spec_l05Mean l) k)) then _ else bif vat == 0 then p_spec_l05Break_l1 l μ t2 t3 t4 k (gain l (p_spec_l05Mean l) k) (k + 1) else bif flt .f32 best (gain l (p_spec_l05Mean l) k) then p_spec_l05Break_l1 l μ t2 t3 t4 k (gain l (p_spec_l05Mean l) k) (k + 1) else _)
      rw [spec_fin]
      have hz : (vat == 0) = false := by simp; omega
      rw [hz, cond_false]
      cases hg : fin .f32 (gain l (p_spec_l05Mean l) k)
      · have := inf_of (wd_gain _ _ _) (gain_un hk h hl) (gain_nn hk h hl hf hm) hg
        rw [this, flt_inf hb, break_inf]; rfl
      · rw [Bool.not_true, cond_false]
        cases flt .f32 best (gain l (p_spec_l05Mean l) k)
        · exact ih _ _ _ _ _ _ (by omega) hv hb (by omega)
        · exact ih _ _ _ _ _ _ (by omega) hk hg (by omega)
    · rw [decide_eq_false h, cond_false, cond_false, impl_fin, hb]; rfl
theorem break_same {l : List Nat} : p_impl_BestBreak l = p_spec_BestBreak l := by
  rw [p_impl_BestBreak_eq, p_spec_BestBreak_eq, long_same, p_spec_l05Break_eq]
  cases hl : p_spec_l03Long l
  · rfl
  · obtain ⟨h1, h2, h3⟩ := long_t hl
    by_cases h : (l.length : Int) < 2
    · rw [decide_eq_true h]; rfl
    · rw [decide_eq_false h, mean_same, gain_impl]
      simp only [Bool.not_true, cond_false]
      have e : Int.toNat ((l.length : Int) - 1) = Int.toNat ((l.length : Int) - 2) + 1 := by omega
      rw [p_spec_l05Break_l1_s, decide_eq_true (show (1 : Int) < (l.length : Int) by omega), cond_true, wrap64 (n := (l.length : Int) - 1) (by omega) (by omega)]
      show _ = (bif !(p_spec_l01Finite (gain l (p_spec_l05Mean l) 1)) then _ else bif (0 : Int) == 0 then p_spec_l05Break_l1 l (Int.toNat ((l.length : Int) - 1)) 0 0 false 1 (gain l (p_spec_l05Mean l) 1) (1 + 1) else _)
      rw [spec_fin, e]
      cases hg : fin .f32 (gain l (p_spec_l05Mean l) 1)
      · rw [Bool.not_false, cond_true]
        by_cases hn : (FloatKind.f32.format.read (gain l (p_spec_l05Mean l) 1)).isNaN = true
        · exact break_nan l hn _ _ _
        · have := inf_of (wd_gain _ _ _) (gain_un (by omega) (by omega) (by omega)) (by simpa [nn] using hn) hg
          rw [this]; exact break_inf l _ _ _
      · rw [Bool.not_true, cond_false]
        exact break_go (by omega) h3 (gain_fin hg) _ 1 _ 2 _ _ _ (by omega) (by omega) hg (by omega)
theorem laws_FnExactBestBreak_true (l_aList : List Nat) (q0 : (∀ y ∈ l_aList, W32 y)) : p_laws_FnExactBestBreak l_aList = true := by
  rw [p_laws_FnExactBestBreak_eq, break_same, laws_sameFloat_self, laws_eqFloat32S_self]
  cases decide ((1048576 : Int) < (l_aList.length : Int)) <;> simp
/-! laws_FnExactBestBreak: function 10 -/
def E_laws_FnExactBestBreak : Env := envOf [(22, S_laws_toFloat32S), (37, S_spec_BestBreak), (38, S_impl_BestBreak), (30, S_laws_sameFloat), (24, S_laws_eqFloat32S)]
def F_laws_FnExactBestBreak : List Value → AHeap → (Value → AHeap → Prop) → Prop
  | [.slice aList_a aList_n aList_e], H, K => T_laws_FnExactBestBreak aList_a aList_n aList_e H fun (r1 : Bool) (H' : AHeap) => K (.bool r1) H'
  | _, _, _ => False
def S_laws_FnExactBestBreak : FSpec := { F := F_laws_FnExactBestBreak, quiet := false, tame := false }
theorem laws_FnExactBestBreak_vc (aList_a : Option Addr) (aList_n : Nat) (aList_e : Nat) (H : AHeap) (K : Value → AHeap → Prop) : bodyK Try.prog E_laws_FnExactBestBreak Try.f10 [.slice aList_a aList_n aList_e] H K =
  (Br (decide ((1048576 : Int) < (aList_n : Int))) (K (.bool true) H) (T_laws_toFloat32S aList_a aList_n aList_e H fun (a1 : Option Addr) (r1 : Nat) (r2 : Nat) (H1 : AHeap) => T_spec_BestBreak a1 r1 r2 H1 fun (r3 : Int) (r4 : Nat) (r5 : Bool) (H2 : AHeap) => T_laws_toFloat32S aList_a aList_n aList_e H2 fun (a2 : Option Addr) (r6 : Nat) (r7 : Nat) (H3 : AHeap) => T_impl_BestBreak a2 r6 r7 H3 fun (r8 : Int) (r9 : Nat) (r10 : Bool) (H4 : AHeap) => Br ((r8 : Int) != r3) (K (.bool false) H4) (T_laws_sameFloat (fwide r9) (fwide r4) H4 fun (r11 : Bool) (H5 : AHeap) => Br (!r11) (K (.bool false) H5) (Br (!(r10 == r5)) (K (.bool false) H5) (T_laws_toFloat32S aList_a aList_n aList_e H5 fun (a3 : Option Addr) (r12 : Nat) (r13 : Nat) (H6 : AHeap) => T_laws_eqFloat32S a2 r6 r7 a3 r12 r13 H6 fun (r14 : Bool) (H7 : AHeap) => Br (!r14) (K (.bool false) H7) (K (.bool true) H7)))))) := by kernel_rfl
theorem E_laws_FnExactBestBreak_ok : ∀ g, FnOk Try.prog g (E_laws_FnExactBestBreak g) := FnOk.envOf (by
  intro x hx
  simp only [List.mem_cons, List.not_mem_nil, or_false] at hx
  rcases hx with rfl | rfl | rfl | rfl | rfl
  · exact laws_toFloat32S_ok
  · exact spec_BestBreak_ok
  · exact impl_BestBreak_ok
  · exact laws_sameFloat_ok
  · exact laws_eqFloat32S_ok)
set_option maxHeartbeats 1000000 in
theorem laws_FnExactBestBreak_main (aList_a : Option Addr) (aList_n : Nat) (aList_e : Nat) (H : AHeap) (K : Value → AHeap → Prop) (h : T_laws_FnExactBestBreak aList_a aList_n aList_e H fun (r1 : Bool) (H' : AHeap) => K (.bool r1) H') : bodyK Try.prog E_laws_FnExactBestBreak Try.f10 [.slice aList_a aList_n aList_e] H K := by
  rw [laws_FnExactBestBreak_vc]
  obtain ⟨l_aList, h_0, h_1, h_2, hk⟩ := h
  have i_aList := h_0
  obtain rfl := i_aList.eqn
  have hl := laws_FnExactBestBreak_true l_aList h_1
  have e : p_laws_FnExactBestBreak l_aList = _ := rfl
  have e := e.trans (p_laws_FnExactBestBreak_eq l_aList)
  have e := hl.symm.trans e
  have g0 := Grow.refl H
  refine Br.intro (fun c_1 => ?_) (fun c_1 => ?_)
  · have e := e.trans (cond_t c_1)
    have c_1' := of_decide_eq_true c_1
    first | exact hk _ | (exfalso; cases e; done) | (rw [← e]; exact hk _)
  · have e := e.trans (cond_f c_1)
    have c_1' := of_decide_eq_false c_1
    refine T_laws_toFloat32S_i ⟨_, (i_aList.grow g0), (by first | omega | (simp only [List.length_set, List.length_replicate, List.length_append, List.length_cons, List.length_nil, List.length_take, List.length_drop, marks_length]; done) | (simp only [List.length_set, List.length_replicate, List.length_append, List.length_cons, List.length_nil, List.length_take, List.length_drop, marks_length]; omega)), fun a_2 n_3 e_4 H_1 g_6 r_5 => ?_⟩
    have l_7 := g_6.1
    have g_8 := g0.trans g_6
    have l_9 := g_8.1
    obtain rfl := r_5.isL.eqn
    have u_10 := r_5.up
    have u_11 := r_5.lo
    refine T_spec_BestBreak_i ⟨_, r_5.isL, (by first | omega | (simp only [List.length_set, List.length_replicate, List.length_append, List.length_cons, List.length_nil, List.length_take, List.length_drop, marks_length]; done) | (simp only [List.length_set, List.length_replicate, List.length_append, List.length_cons, List.length_nil, List.length_take, List.length_drop, marks_length]; omega)), ?_⟩
    refine T_laws_toFloat32S_i ⟨_, (i_aList.grow g_8), (by first | omega | (simp only [List.length_set, List.length_replicate, List.length_append, List.length_cons, List.length_nil, List.length_take, List.length_drop, marks_length]; done) | (simp only [List.length_set, List.length_replicate, List.length_append, List.length_cons, List.length_nil, List.length_take, List.length_drop, marks_length]; omega)), fun a_13 n_14 e_15 H_2 g_17 r_16 => ?_⟩
    have l_18 := g_17.1
    have g_19 := g_8.trans g_17
    have l_20 := g_19.1
    have r_21 := r_5.grow g_17
    obtain rfl := r_16.isL.eqn
    have u_22 := r_16.up
    have u_23 := r_16.lo
    refine T_impl_BestBreak_i ⟨_, r_16.isL, (by first | omega | (simp only [List.length_set, List.length_replicate, List.length_append, List.length_cons, List.length_nil, List.length_take, List.length_drop, marks_length]; done) | (simp only [List.length_set, List.length_replicate, List.length_append, List.length_cons, List.length_nil, List.length_take, List.length_drop, marks_length]; omega)), fun  H_3 g_25  => ?_⟩
    have l_26 := g_25.1
    have g_27 := g_19.trans g_25
    have l_28 := g_27.1
    have r_29 := r_21.grow g_25
    have r_30 := r_16.grow g_25
    refine Br.intro (fun c_31 => ?_) (fun c_31 => ?_)
    · have e := e.trans (cond_t c_31)
      have c_31' := ine_t c_31
      first | exact hk _ | (exfalso; cases e; done) | (rw [← e]; exact hk _)
    · have e := e.trans (cond_f c_31)
      have c_31' := ine_f c_31
      refine T_laws_sameFloat_i ?_
      refine Br.intro (fun c_32 => ?_) (fun c_32 => ?_)
      · have e := e.trans (cond_t c_32)
        have c_32n := nf_of_t c_32
        first | exact hk _ | (exfalso; cases e; done) | (rw [← e]; exact hk _)
      · have e := e.trans (cond_f c_32)
        have c_32n := nt_of_f c_32
        refine Br.intro (fun c_33 => ?_) (fun c_33 => ?_)
        · have e := e.trans (cond_t c_33)
          have c_33n := nf_of_t c_33
          first | exact hk _ | (exfalso; cases e; done) | (rw [← e]; exact hk _)
        · have e := e.trans (cond_f c_33)
          have c_33n := nt_of_f c_33
          refine T_laws_toFloat32S_i ⟨_, (i_aList.grow g_27), (by first | omega | (simp only [List.length_set, List.length_replicate, List.length_append, List.length_cons, List.length_nil, List.length_take, List.length_drop, marks_length]; done) | (simp only [List.length_set, List.length_replicate, List.length_append, List.length_cons, List.length_nil, List.length_take, List.length_drop, marks_length]; omega)), fun a_34 n_35 e_36 H_4 g_38 r_37 => ?_⟩
          have l_39 := g_38.1
          have g_40 := g_27.trans g_38
          have l_41 := g_40.1
          have r_42 := r_29.grow g_38
          have r_43 := r_30.grow g_38
          obtain rfl := r_37.isL.eqn
          have u_44 := r_37.up
          have u_45 := r_37.lo
          refine T_laws_eqFloat32S_i ⟨_, _, r_43.isL, r_37.isL, (by first | omega | (simp only [List.length_set, List.length_replicate, List.length_append, List.length_cons, List.length_nil, List.length_take, List.length_drop, marks_length]; done) | (simp only [List.length_set, List.length_replicate, List.length_append, List.length_cons, List.length_nil, List.length_take, List.length_drop, marks_length]; omega)), (by first | omega | (simp only [List.length_set, List.length_replicate, List.length_append, List.length_cons, List.length_nil, List.length_take, List.length_drop, marks_length]; done) | (simp only [List.length_set, List.length_replicate, List.length_append, List.length_cons, List.length_nil, List.length_take, List.length_drop, marks_length]; omega)), ?_⟩
          refine Br.intro (fun c_47 => ?_) (fun c_47 => ?_)
          · have e := e.trans (cond_t c_47)
            have c_47n := nf_of_t c_47
            first | exact hk _ | (exfalso; cases e; done) | (rw [← e]; exact hk _)
          · have e := e.trans (cond_f c_47)
            have c_47n := nt_of_f c_47
            first | exact hk _ | (exfalso; cases e; done) | (rw [← e]; exact hk _)
theorem laws_FnExactBestBreak_ok : FnOk Try.prog 10 S_laws_FnExactBestBreak := by
  refine FnOk.body mix_ok E_laws_FnExactBestBreak_ok Try.func10 rfl (by kernel_rfl) (by kernel_rfl) ?_ ?_ ?_ ?_ ?_
  · intro args H K K' h hk
    simp only [S_laws_FnExactBestBreak] at *
    unfold F_laws_FnExactBestBreak at *
    split at hk
    · obtain ⟨l_aList, h_0, h_1, h_2, k⟩ := hk
      exact ⟨l_aList, h_0, h_1, h_2, (fun H' => h _ _ (k H'))⟩
    · exact hk.elim
  · intro hq; cases hq
  · intro args H K hk
    simp only [S_laws_FnExactBestBreak] at *
    unfold F_laws_FnExactBestBreak at *
    split at hk
    · obtain ⟨l_aList, h_0, h_1, h_2, k⟩ := hk
      exact ⟨_, _, k []⟩
    · exact hk.elim
  · intro hq; cases hq
  · have mm := @laws_FnExactBestBreak_main
    revert mm
    generalize bodyK Try.prog E_laws_FnExactBestBreak Try.f10 = Q
    intro mm args H K hk
    simp only [S_laws_FnExactBestBreak] at *
    unfold F_laws_FnExactBestBreak at *
    split at hk
    · exact mm _ _ _ H K hk
    · exact hk.elim
end Go.Proofs.Ytfofkmlohmodeab.Ai
