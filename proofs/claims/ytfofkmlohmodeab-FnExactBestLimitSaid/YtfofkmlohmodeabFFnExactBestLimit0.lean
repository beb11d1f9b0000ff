/- What functions of the program come to on the abstract machine, and that they do so; printed by a program of mine around proofs of mine. -/
import Derived.Test.YtfofkmlohmodeabProg
import Derived.Test.YtfofkmlohmodeabLibA
import Derived.Test.YtfofkmlohmodeabOpen
import Derived.Test.YtfofkmlohmodeabLibB
import Derived.Test.YtfofkmlohmodeabFl
set_option linter.unusedVariables false
set_option linter.unusedSimpArgs false
set_option maxRecDepth 100000
namespace Go.Proofs.Ytfofkmlohmodeab.Ai
open Go
attribute [local irreducible] bodyK
theorem mix_ok : Try.prog.follows .mixedOrders = true := by kernel_rfl
def p_laws_toFloat32S_l1 (l_a : List Nat) : Nat → Int → (List Nat) → (List Nat)
  | 0, _, _ => []
  | μ + 1, i, y1_1 => (bif decide ((i : Int) < (l_a.length : Int)) then (p_laws_toFloat32S_l1 l_a μ (i + 1) (((y1_1).set (i : Int).toNat ((((l_a).getD (i : Int).toNat 0)))))) else y1_1)
theorem p_laws_toFloat32S_l1_s (l_a : List Nat) (μ : Nat) (i : Int) (y1_1 : List Nat) : p_laws_toFloat32S_l1 l_a (μ + 1) i y1_1 = (bif decide ((i : Int) < (l_a.length : Int)) then (p_laws_toFloat32S_l1 l_a μ (i + 1) (((y1_1).set (i : Int).toNat ((((l_a).getD (i : Int).toNat 0)))))) else y1_1) := rfl
def p_laws_toFloat32S (l_a : List Nat) : (List Nat) := (p_laws_toFloat32S_l1 l_a (Int.toNat ((l_a.length : Int) - (0 : Int)) + 1) (0 : Int) (List.replicate (((l_a.length : Int)).toNat) 0))
theorem p_laws_toFloat32S_eq (l_a : List Nat) : p_laws_toFloat32S l_a = (p_laws_toFloat32S_l1 l_a (Int.toNat ((l_a.length : Int) - (0 : Int)) + 1) (0 : Int) (List.replicate (((l_a.length : Int)).toNat) 0)) := rfl
def T_laws_toFloat32S (a_a : Option Addr) (a_n : Nat) (a_e : Nat) (H : AHeap) (K : (Option Addr) → Nat → Nat → AHeap → Prop) : Prop := ∃ (l_a : List Nat), IsL fF H a_a a_n l_a ∧ l_a.length < 1073741824 ∧ ((∀ (r1_a : Option Addr) (r1_n r1_e : Nat), ∀ H' : AHeap, Grow H H' → OwnS fF H' H.length r1_a r1_n r1_e l_a → K r1_a r1_n r1_e H'))
theorem T_laws_toFloat32S_i {a_a : Option Addr} {a_n : Nat} {a_e : Nat} {H : AHeap} {K : (Option Addr) → Nat → Nat → AHeap → Prop} (h : ∃ (l_a : List Nat), IsL fF H a_a a_n l_a ∧ l_a.length < 1073741824 ∧ ((∀ (r1_a : Option Addr) (r1_n r1_e : Nat), ∀ H' : AHeap, Grow H H' → OwnS fF H' H.length r1_a r1_n r1_e l_a → K r1_a r1_n r1_e H'))) : T_laws_toFloat32S a_a a_n a_e H K := h
theorem laws_toFloat32S_go (l : List Nat) : ∀ (μ : Nat) (i : Nat) (ys : List Nat), ys.length = l.length → i ≤ l.length → l.length - i < μ →
    p_laws_toFloat32S_l1 l μ (i : Int) (l.take i ++ ys.drop i) = l := by
  intro μ
  induction μ with
  | zero => intro i ys _ _ h; omega
  | succ μ ih =>
    intro i ys hy hi hm
    rw [p_laws_toFloat32S_l1_s]
    by_cases h : i < l.length
    · rw [decide_eq_true (show (i : Int) < (l.length : Int) by omega), cond_true]
      have hx : l[i]? = some (l.getD i 0) := by rw [List.getD_eq_getElem?_getD, List.getElem?_eq_getElem h]; rfl
      rw [Int.toNat_natCast, set_front l ys i (by omega) hy.symm _ hx]
      exact ih (i + 1) ys hy (by omega) (by omega)
    · rw [decide_eq_false (show ¬ (i : Int) < (l.length : Int) by omega), cond_false]
      rw [List.take_of_length_le (by omega), List.drop_eq_nil_of_le (by omega), List.append_nil]
theorem laws_toFloat32S_id (l : List Nat) : p_laws_toFloat32S l = l := by
  rw [p_laws_toFloat32S_eq]
  have := laws_toFloat32S_go l (Int.toNat ((l.length : Int) - 0) + 1) 0 (List.replicate ((l.length : Int)).toNat 0) (by simp) (by omega) (by omega)
  simpa using this
/-! laws_toFloat32S: function 22 -/
def E_laws_toFloat32S : Env := envOf []
def F_laws_toFloat32S : List Value → AHeap → (Value → AHeap → Prop) → Prop
  | [.slice a_a a_n a_e], H, K => T_laws_toFloat32S a_a a_n a_e H fun (r1_a : Option Addr) (r1_n : Nat) (r1_e : Nat) (H' : AHeap) => K (.slice r1_a r1_n r1_e) H'
  | _, _, _ => False
def S_laws_toFloat32S : FSpec := { F := F_laws_toFloat32S, quiet := false, tame := true }
theorem laws_toFloat32S_vc (a_a : Option Addr) (a_n : Nat) (a_e : Nat) (H : AHeap) (K : Value → AHeap → Prop) : bodyK Try.prog E_laws_toFloat32S Try.f22 [.slice a_a a_n a_e] H K =
  ((0 : Int) ≤ (a_n : Int) ∧ (a_n : Int) = (a_n : Int) ∧ (a_n : Int) < (most : Int) ∧ Al (zerosOf (.float .f32 0) ((a_n : Int)).toNat) H fun b1 H1 => loopK (exK Try.prog E_laws_toFloat32S (cl (cl (cr (cl (cr (cr (bodyC Try.f22)))))))) [.slice a_a a_n a_e, undef, .slice none 0 0, .slice (some ⟨b1, 0, none⟩) (((a_n : Int)).toNat) 1, .int .i64 0, .slice a_a a_n a_e, .int .i64 (a_n : Int), .slice (some ⟨b1, 0, none⟩) (((a_n : Int)).toNat) 1, undef, undef, undef, undef, undef, undef, undef, undef, undef, undef, undef, undef, undef, undef] H1 (blockQ 0 (seqQ (exK Try.prog E_laws_toFloat32S (cr (cr (cr (bodyC Try.f22))))) (retK Try.prog Try.f22 K)))) := by kernel_rfl
theorem laws_toFloat32S_r1 (a_a : Option Addr) (a_e : Nat) (a_n : Nat) (b1 : Nat) (i : Int) (g8 g9 g10 g11 g12 g13 g14 g15 g16 g17 g18 g19 g20 : Value) (H : AHeap) (R : Post) : exK Try.prog E_laws_toFloat32S (cl (cl (cr (cl (cr (cr (bodyC Try.f22))))))) [.slice a_a a_n a_e, undef, .slice none 0 0, .slice (some ⟨b1, 0, none⟩) (((a_n : Int)).toNat) 1, .int .i64 i, .slice a_a a_n a_e, .int .i64 (a_n : Int), .slice (some ⟨b1, 0, none⟩) (((a_n : Int)).toNat) 1, g8, g9, g10, g11, g12, g13, g14, g15, g16, g17, g18, g19, g20, undef] H R =
  (Br (decide ((i : Int) < (a_n : Int))) ((0 : Int) ≤ i ∧ i < (a_n : Int) ∧ ∃ b2 f1, (a_a : Option Addr) = some ⟨b2, f1, none⟩ ∧ ∃ x1 : Nat,  rdC H b2 (f1 + (i : Int).toNat * 1) = some (.float .f32 x1) ∧ (0 : Int) ≤ i ∧ i < (((a_n : Int)).toNat : Int) ∧ ∃ b3 f2, (some ⟨b1, 0, none⟩ : Option Addr) = some ⟨b3, f2, none⟩ ∧ isOwn H b3 ∧ (∃ l, rdN H b3 (f2 + (i : Int).toNat * 1) 1 = some l) ∧ Lt (setC H b3 (f2 + (i : Int).toNat * 1) (.float .f32 x1)) fun H2 => R .normal [.slice a_a a_n a_e, undef, .slice none 0 0, .slice (some ⟨b1, 0, none⟩) (((a_n : Int)).toNat) 1, .int .i64 (IntKind.wrap .i64 (i + 1)), .slice a_a a_n a_e, .int .i64 (a_n : Int), .slice (some ⟨b1, 0, none⟩) (((a_n : Int)).toNat) 1, .int .i64 i, .slice a_a a_n a_e, .int .i64 (a_n : Int), .bool (decide ((i : Int) < (a_n : Int))), .int .i64 i, .int .i64 (IntKind.wrap .i64 (i + 1)), .slice (some ⟨b1, 0, none⟩) (((a_n : Int)).toNat) 1, .int .i64 i, .slice a_a a_n a_e, .int .i64 i, .pointer (some ⟨b2, f1 + (i : Int).toNat * 1, none⟩), .float .f32 x1, .pointer (some ⟨b3, f2 + (i : Int).toNat * 1, none⟩), undef] H2) (R (.exit 0) [.slice a_a a_n a_e, undef, .slice none 0 0, .slice (some ⟨b1, 0, none⟩) (((a_n : Int)).toNat) 1, .int .i64 i, .slice a_a a_n a_e, .int .i64 (a_n : Int), .slice (some ⟨b1, 0, none⟩) (((a_n : Int)).toNat) 1, .int .i64 i, .slice a_a a_n a_e, .int .i64 (a_n : Int), .bool (decide ((i : Int) < (a_n : Int))), g12, g13, g14, g15, g16, g17, g18, g19, g20, undef] H)) := by kernel_rfl
def laws_toFloat32S_I1 (a_a : Option Addr) (a_e : Nat) (a_n : Nat) (b1 : Nat) (Inv : Nat → Int → AHeap → Prop) : Nat → List Value → AHeap → Prop := fun μ tm H => ∃ (i : Int), ∃ g8 g9 g10 g11 g12 g13 g14 g15 g16 g17 g18 g19 g20, tm = [.slice a_a a_n a_e, undef, .slice none 0 0, .slice (some ⟨b1, 0, none⟩) (((a_n : Int)).toNat) 1, .int .i64 i, .slice a_a a_n a_e, .int .i64 (a_n : Int), .slice (some ⟨b1, 0, none⟩) (((a_n : Int)).toNat) 1, g8, g9, g10, g11, g12, g13, g14, g15, g16, g17, g18, g19, g20, undef] ∧ Inv μ i H
theorem laws_toFloat32S_L1 (a_a : Option Addr) (a_e : Nat) (a_n : Nat) (b1 : Nat) {Q : Post} (Inv : Nat → Int → AHeap → Prop) (ν : Nat) (i : Int) (g8 g9 g10 g11 g12 g13 g14 g15 g16 g17 g18 g19 g20 : Value) (H : AHeap) (h0 : Inv ν i H)
    (hs : ∀ (μ : Nat) (i : Int) (g8 g9 g10 g11 g12 g13 g14 g15 g16 g17 g18 g19 g20 : Value) (H : AHeap), Inv μ i H → exK Try.prog E_laws_toFloat32S (cl (cl (cr (cl (cr (cr (bodyC Try.f22))))))) [.slice a_a a_n a_e, undef, .slice none 0 0, .slice (some ⟨b1, 0, none⟩) (((a_n : Int)).toNat) 1, .int .i64 i, .slice a_a a_n a_e, .int .i64 (a_n : Int), .slice (some ⟨b1, 0, none⟩) (((a_n : Int)).toNat) 1, g8, g9, g10, g11, g12, g13, g14, g15, g16, g17, g18, g19, g20, undef] H (loopQ (laws_toFloat32S_I1 a_a a_e a_n b1 Inv) μ Q)) : loopK (exK Try.prog E_laws_toFloat32S (cl (cl (cr (cl (cr (cr (bodyC Try.f22)))))))) [.slice a_a a_n a_e, undef, .slice none 0 0, .slice (some ⟨b1, 0, none⟩) (((a_n : Int)).toNat) 1, .int .i64 i, .slice a_a a_n a_e, .int .i64 (a_n : Int), .slice (some ⟨b1, 0, none⟩) (((a_n : Int)).toNat) 1, g8, g9, g10, g11, g12, g13, g14, g15, g16, g17, g18, g19, g20, undef] H Q :=
  ⟨laws_toFloat32S_I1 a_a a_e a_n b1 Inv, ν, ⟨i, g8, g9, g10, g11, g12, g13, g14, g15, g16, g17, g18, g19, g20, rfl, h0⟩, fun μ tm H h => by obtain ⟨i, g8, g9, g10, g11, g12, g13, g14, g15, g16, g17, g18, g19, g20, rfl, hI⟩ := h; exact hs μ i g8 g9 g10 g11 g12 g13 g14 g15 g16 g17 g18 g19 g20 H hI⟩
theorem laws_toFloat32S_n1 {a_a : Option Addr} {a_e : Nat} {a_n : Nat} {b1 : Nat} {Q : Post} {Inv : Nat → Int → AHeap → Prop} {μ : Nat} (μ' : Nat) {i : Int} {g8 g9 g10 g11 g12 g13 g14 g15 g16 g17 g18 g19 g20 : Value} {H : AHeap} (hm : μ' < μ) (hI : Inv μ' i H) : loopQ (laws_toFloat32S_I1 a_a a_e a_n b1 Inv) μ Q .normal [.slice a_a a_n a_e, undef, .slice none 0 0, .slice (some ⟨b1, 0, none⟩) (((a_n : Int)).toNat) 1, .int .i64 i, .slice a_a a_n a_e, .int .i64 (a_n : Int), .slice (some ⟨b1, 0, none⟩) (((a_n : Int)).toNat) 1, g8, g9, g10, g11, g12, g13, g14, g15, g16, g17, g18, g19, g20, undef] H := ⟨μ', hm, i, g8, g9, g10, g11, g12, g13, g14, g15, g16, g17, g18, g19, g20, rfl, hI⟩
theorem laws_toFloat32S_x1_0 (a_a : Option Addr) (a_e : Nat) (a_n : Nat) (b1 : Nat) (i : Int) (g8 g9 g10 g11 g12 g13 g14 g15 g16 g17 g18 g19 g20 : Value) (H : AHeap) (K : Value → AHeap → Prop)  {I : Nat → List Value → AHeap → Prop} {μ : Nat} : loopQ I μ (blockQ 0 (seqQ (exK Try.prog E_laws_toFloat32S (cr (cr (cr (bodyC Try.f22))))) (retK Try.prog Try.f22 K))) (.exit 0) [.slice a_a a_n a_e, undef, .slice none 0 0, .slice (some ⟨b1, 0, none⟩) (((a_n : Int)).toNat) 1, .int .i64 i, .slice a_a a_n a_e, .int .i64 (a_n : Int), .slice (some ⟨b1, 0, none⟩) (((a_n : Int)).toNat) 1, g8, g9, g10, g11, g12, g13, g14, g15, g16, g17, g18, g19, g20, undef] H =
  (K (.slice (some ⟨b1, 0, none⟩) (((a_n : Int)).toNat) 1) H) := by kernel_rfl
theorem E_laws_toFloat32S_ok : ∀ g, FnOk Try.prog g (E_laws_toFloat32S g) := FnOk.envOf (by
  intro x hx; cases hx)
set_option maxHeartbeats 1000000 in
theorem laws_toFloat32S_main (a_a : Option Addr) (a_n : Nat) (a_e : Nat) (H : AHeap) (K : Value → AHeap → Prop) (h : T_laws_toFloat32S a_a a_n a_e H fun (r1_a : Option Addr) (r1_n : Nat) (r1_e : Nat) (H' : AHeap) => K (.slice r1_a r1_n r1_e) H') : bodyK Try.prog E_laws_toFloat32S Try.f22 [.slice a_a a_n a_e] H K := by
  rw [laws_toFloat32S_vc]
  obtain ⟨l_a, i_a, bd_29, hk⟩ := h
  have hk : (∀ (r1_a : Option Addr) (r1_n r1_e : Nat), ∀ H' : AHeap, Grow H H' → OwnS fF H' H.length r1_a r1_n r1_e (p_laws_toFloat32S l_a) → (fun (r1_a : Option Addr) (r1_n : Nat) (r1_e : Nat) (H' : AHeap) => K (.slice r1_a r1_n r1_e) H') r1_a r1_n r1_e H') := by rw [laws_toFloat32S_id l_a]; exact hk
  obtain rfl := i_a.eqn
  have e : (p_laws_toFloat32S l_a) = _ := rfl
  have e := e.trans (p_laws_toFloat32S_eq l_a)
  have g0 := Grow.refl H
  refine ⟨by omega, rfl, (by have := most_eq; omega), ?_⟩
  refine Al.intro (fun b_1 H_1 hb_2 hl_3 g_4 o_5 => ?_)
  rw [zeros_map fF 0 _ rfl] at o_5
  have l_7 := g_4.1
  have g_8 := g0.trans g_4
  have l_9 := g_8.1
  have w_28 := o_5.lt
  refine laws_toFloat32S_L1 _ _ _ _ (fun (μ : Nat) (i : Int) (H_2 : AHeap) => ∃ (y1_1 : List Nat), Own H_2 b_1 (y1_1.map fF) ∧ y1_1.length = ((l_a.length : Int)).toNat ∧ Grow H H_2 ∧ (0 : Int) ≤ i ∧ i ≤ (l_a.length : Int) ∧ (l_a.length : Int) - i ≤ (μ : Int) ∧ p_laws_toFloat32S l_a = p_laws_toFloat32S_l1 l_a (μ + 1) i y1_1) (Int.toNat ((l_a.length : Int) - (0 : Int))) _ _ _ _ _ _ _ _ _ _ _ _ _ _ H_1 ?_ ?_
  · exact ⟨_, o_5, (by first | rfl | (simp; done)), g_8, (by first | omega | (simp; done) | (simp; omega)), (by first | omega | (simp; done) | (simp; omega)), (by omega), e⟩
  · intro μ i g8 g9 g10 g11 g12 g13 g14 g15 g16 g17 g18 g19 g20 H_2 hI
    obtain ⟨y1_1, o_10, y_11, g_12, v_13, v_14, hμ, e⟩ := hI
    rw [laws_toFloat32S_r1]
    have e := e.trans (p_laws_toFloat32S_l1_s l_a μ i y1_1)
    have w_15 := o_10.lt
    have l_16 := g_12.1
    refine Br.intro (fun c_17 => ?_) (fun c_17 => ?_)
    · have e := e.trans (cond_t c_17)
      have c_17' := of_decide_eq_true c_17
      obtain ⟨b_18, f_19, q_20⟩ := ((i_a.grow g_12)).pos (by first | omega | (simp only [List.length_set, List.length_replicate, List.length_append, List.length_cons, List.length_nil, List.length_take, List.length_drop, marks_length]; done) | (simp only [List.length_set, List.length_replicate, List.length_append, List.length_cons, List.length_nil, List.length_take, List.length_drop, marks_length]; omega))
      refine ⟨by omega, by omega, b_18, f_19, q_20, ?_⟩
      refine ⟨((l_a).getD (i : Int).toNat 0), (i_a).rd g_12 q_20 (by omega) _, ?_⟩
      refine ⟨by omega, (by omega), _, _, rfl, ?_⟩
      refine Lt.set o_10 (by simp only [List.length_map]; (first | omega | (simp only [List.length_set, List.length_replicate, List.length_append, List.length_cons, List.length_nil, List.length_take, List.length_drop, marks_length]; done) | (simp only [List.length_set, List.length_replicate, List.length_append, List.length_cons, List.length_nil, List.length_take, List.length_drop, marks_length]; omega))) (fun H_3 hl_21 o_23 k_22 => ?_)
      have o_23 := map_set o_23
      have l_24 := k_22.1
      have g_25 := g_12.keep (b := b_1) (by omega) k_22
      have l_26 := g_25.1
      have w_27 := o_23.lt
      rw [show IntKind.wrap .i64 (i + 1) = (i + 1) from wrap64 (by omega) (by omega)]
      refine laws_toFloat32S_n1 (μ - 1) (by omega) ⟨_, o_23, (by first | assumption | omega | (simp only [List.length_set]; first | rfl | assumption | omega)), g_25, (by first | omega | (simp only [List.length_append, List.length_cons, List.length_nil, List.length_set]; done) | (simp only [List.length_append, List.length_cons, List.length_nil, List.length_set]; omega)), (by first | omega | (simp only [List.length_append, List.length_cons, List.length_nil, List.length_set]; done) | (simp only [List.length_append, List.length_cons, List.length_nil, List.length_set]; omega)), (by omega), (by rw [show μ - 1 + 1 = μ from by omega]; exact e)⟩
    · have e := e.trans (cond_f c_17)
      have c_17' := of_decide_eq_false c_17
      rw [laws_toFloat32S_x1_0]
      rw [e] at hk
      exact hk _ _ _ H_2 g_12 (o_10.ownS (by first | (simp only [List.length_replicate]; done) | omega | (simp; omega)) (by omega))
theorem laws_toFloat32S_ok : FnOk Try.prog 22 S_laws_toFloat32S := by
  refine FnOk.body mix_ok E_laws_toFloat32S_ok Try.func22 rfl (by kernel_rfl) (by kernel_rfl) ?_ ?_ ?_ ?_ ?_
  · intro args H K K' h hk
    simp only [S_laws_toFloat32S] at *
    unfold F_laws_toFloat32S at *
    split at hk
    · obtain ⟨l_a, i_a, bd_29, k⟩ := hk
      exact ⟨l_a, i_a, bd_29, (fun r1_a r1_n r1_e H' gg ow0 => h _ _ (k r1_a r1_n r1_e H' gg ow0))⟩
    · exact hk.elim
  · intro hq; cases hq
  · intro args H K hk
    simp only [S_laws_toFloat32S] at *
    unfold F_laws_toFloat32S at *
    split at hk
    · obtain ⟨l_a, i_a, bd_29, k⟩ := hk
      exact liveS fun a n e H1 g o => ⟨_, _, k a n e H1 g o⟩
    · exact hk.elim
  · intro _ args H K hk
    simp only [S_laws_toFloat32S] at *
    unfold F_laws_toFloat32S at *
    split at hk
    · obtain ⟨l_a, i_a, bd_29, k⟩ := hk
      exact ⟨l_a, i_a, bd_29, (fun r1_a r1_n r1_e H' gg ow0 => ⟨gg, k r1_a r1_n r1_e H' gg ow0⟩)⟩
    · exact hk.elim
  · have mm := @laws_toFloat32S_main
    revert mm
    generalize bodyK Try.prog E_laws_toFloat32S Try.f22 = Q
    intro mm args H K hk
    simp only [S_laws_toFloat32S] at *
    unfold F_laws_toFloat32S at *
    split at hk
    · exact mm _ _ _ H K hk
    · exact hk.elim
def p_spec_l01Finite (x : Nat) : Bool := feq .f32 (fsub .f32 x x) 0
theorem p_spec_l01Finite_eq (x : Nat) : p_spec_l01Finite x = feq .f32 (fsub .f32 x x) 0 := rfl
def T_spec_l01Finite (x : Nat) (H : AHeap) (K : Bool → AHeap → Prop) : Prop := K (p_spec_l01Finite x) H

theorem T_spec_l01Finite_i {x : Nat} {H : AHeap} {K : Bool → AHeap → Prop} (h : K (p_spec_l01Finite x) H) : T_spec_l01Finite x H K := h
/-! spec_l01Finite: function 56 -/
def E_spec_l01Finite : Env := envOf []
def F_spec_l01Finite : List Value → AHeap → (Value → AHeap → Prop) → Prop
  | [.float .f32 x], H, K => T_spec_l01Finite x H fun (r1 : Bool) (H' : AHeap) => K (.bool r1) H'
  | _, _, _ => False
def S_spec_l01Finite : FSpec := { F := F_spec_l01Finite, quiet := true, tame := false }
theorem spec_l01Finite_vc (x : Nat) (H : AHeap) (K : Value → AHeap → Prop) : bodyK Try.prog E_spec_l01Finite Try.f56 [.float .f32 x] H K =
  (K (.bool (feq .f32 (fsub .f32 x x) 0)) H) := by kernel_rfl
theorem E_spec_l01Finite_ok : ∀ g, FnOk Try.prog g (E_spec_l01Finite g) := FnOk.envOf (by
  intro x hx; cases hx)
set_option maxHeartbeats 1000000 in
theorem spec_l01Finite_main (x : Nat) (H : AHeap) (K : Value → AHeap → Prop) (h : T_spec_l01Finite x H fun (r1 : Bool) (H' : AHeap) => K (.bool r1) H') : bodyK Try.prog E_spec_l01Finite Try.f56 [.float .f32 x] H K := by
  rw [spec_l01Finite_vc]
  unfold T_spec_l01Finite p_spec_l01Finite at h
  repeat' (first | exact h | (exfalso; simp_all; done) | (refine ⟨by decide, ?_⟩) | (refine Br.intro (fun hb => ?_) (fun hb => ?_) <;> (try simp only [hb, cond_true, cond_false, Bool.not_true, Bool.not_false] at h)))
theorem spec_l01Finite_ok : FnOk Try.prog 56 S_spec_l01Finite := by
  refine FnOk.body mix_ok E_spec_l01Finite_ok Try.func56 rfl (by kernel_rfl) (by kernel_rfl) ?_ ?_ ?_ ?_ ?_
  · intro args H K K' h hk
    simp only [S_spec_l01Finite] at *
    unfold F_spec_l01Finite at *
    split at hk
    · have k := hk
      exact h _ _ k
    · exact hk.elim
  · intro _ args H K hk
    simp only [S_spec_l01Finite] at *
    unfold F_spec_l01Finite at *
    split at hk
    · have k := hk
      exact ⟨_, k, fun K' k' => k'⟩
    · exact hk.elim
  · intro args H K hk
    simp only [S_spec_l01Finite] at *
    unfold F_spec_l01Finite at *
    split at hk
    · have k := hk
      exact ⟨_, _, k⟩
    · exact hk.elim
  · intro hq; cases hq
  · have mm := @spec_l01Finite_main
    revert mm
    generalize bodyK Try.prog E_spec_l01Finite Try.f56 = Q
    intro mm args H K hk
    simp only [S_spec_l01Finite] at *
    unfold F_spec_l01Finite at *
    split at hk
    · exact mm _ H K hk
    · exact hk.elim
def p_spec_l02Finite_l1 (l_list : List Nat) : Nat → Bool → Int → Bool
  | 0, _, _ => false
  | μ + 1, t2, i => (bif decide ((i : Int) < (l_list.length : Int)) then (bif !((p_spec_l01Finite (((l_list).getD (i : Int).toNat 0)))) then false else (p_spec_l02Finite_l1 l_list μ t2 (i + 1))) else true)
theorem p_spec_l02Finite_l1_s (l_list : List Nat) (μ : Nat) (t2 : Bool) (i : Int) : p_spec_l02Finite_l1 l_list (μ + 1) t2 i = (bif decide ((i : Int) < (l_list.length : Int)) then (bif !((p_spec_l01Finite (((l_list).getD (i : Int).toNat 0)))) then false else (p_spec_l02Finite_l1 l_list μ t2 (i + 1))) else true) := rfl
def p_spec_l02Finite (l_list : List Nat) : Bool := (p_spec_l02Finite_l1 l_list (Int.toNat ((l_list.length : Int) - (0 : Int)) + 1) false (0 : Int))
theorem p_spec_l02Finite_eq (l_list : List Nat) : p_spec_l02Finite l_list = (p_spec_l02Finite_l1 l_list (Int.toNat ((l_list.length : Int) - (0 : Int)) + 1) false (0 : Int)) := rfl
def T_spec_l02Finite (list_a : Option Addr) (list_n : Nat) (list_e : Nat) (H : AHeap) (K : Bool → AHeap → Prop) : Prop := ∃ (l_list : List Nat), IsL fF H list_a list_n l_list ∧ l_list.length < 1073741824 ∧ K (p_spec_l02Finite l_list) H
theorem T_spec_l02Finite_i {list_a : Option Addr} {list_n : Nat} {list_e : Nat} {H : AHeap} {K : Bool → AHeap → Prop} (h : ∃ (l_list : List Nat), IsL fF H list_a list_n l_list ∧ l_list.length < 1073741824 ∧ K (p_spec_l02Finite l_list) H) : T_spec_l02Finite list_a list_n list_e H K := h

/-! spec_l02Finite: function 74 -/
def E_spec_l02Finite : Env := envOf [(56, S_spec_l01Finite)]
def F_spec_l02Finite : List Value → AHeap → (Value → AHeap → Prop) → Prop
  | [.slice list_a list_n list_e], H, K => T_spec_l02Finite list_a list_n list_e H fun (r1 : Bool) (H' : AHeap) => K (.bool r1) H'
  | _, _, _ => False
def S_spec_l02Finite : FSpec := { F := F_spec_l02Finite, quiet := true, tame := false }
theorem spec_l02Finite_vc (list_a : Option Addr) (list_n : Nat) (list_e : Nat) (H : AHeap) (K : Value → AHeap → Prop) : bodyK Try.prog E_spec_l02Finite Try.f74 [.slice list_a list_n list_e] H K =
  (loopK (exK Try.prog E_spec_l02Finite (cl (cl (cr (cl (cr (bodyC Try.f74))))))) [.slice list_a list_n list_e, undef, .bool false, .int .i64 0, undef, undef, undef, undef, undef, undef, undef, undef, undef, undef, undef, undef] H (blockQ 0 (seqQ (exK Try.prog E_spec_l02Finite (cr (cr (bodyC Try.f74)))) (retK Try.prog Try.f74 K)))) := by kernel_rfl
theorem spec_l02Finite_r1 (list_a : Option Addr) (list_e : Nat) (list_n : Nat) (t2 : Bool) (i : Int) (g4 g5 g6 g7 g8 g9 g10 g11 g12 g13 g14 g15 : Value) (H : AHeap) (R : Post) : exK Try.prog E_spec_l02Finite (cl (cl (cr (cl (cr (bodyC Try.f74)))))) [.slice list_a list_n list_e, undef, .bool t2, .int .i64 i, g4, g5, g6, g7, g8, g9, g10, g11, g12, g13, g14, g15] H R =
  (Br (decide ((i : Int) < (list_n : Int))) ((0 : Int) ≤ i ∧ i < (list_n : Int) ∧ ∃ b1 f1, (list_a : Option Addr) = some ⟨b1, f1, none⟩ ∧ ∃ x1 : Nat,  rdC H b1 (f1 + (i : Int).toNat * 1) = some (.float .f32 x1) ∧ T_spec_l01Finite x1 H fun (r1 : Bool) (H1 : AHeap) => Br (!r1) (R .ret [.slice list_a list_n list_e, undef, .bool false, .int .i64 i, .int .i64 i, .slice list_a list_n list_e, .int .i64 (list_n : Int), .bool (decide ((i : Int) < (list_n : Int))), g8, g9, .slice list_a list_n list_e, .int .i64 i, .pointer (some ⟨b1, f1 + (i : Int).toNat * 1, none⟩), .float .f32 x1, .bool r1, .bool (!r1)] H1) (R .normal [.slice list_a list_n list_e, undef, .bool t2, .int .i64 (IntKind.wrap .i64 (i + 1)), .int .i64 i, .slice list_a list_n list_e, .int .i64 (list_n : Int), .bool (decide ((i : Int) < (list_n : Int))), .int .i64 i, .int .i64 (IntKind.wrap .i64 (i + 1)), .slice list_a list_n list_e, .int .i64 i, .pointer (some ⟨b1, f1 + (i : Int).toNat * 1, none⟩), .float .f32 x1, .bool r1, .bool (!r1)] H1)) (R (.exit 0) [.slice list_a list_n list_e, undef, .bool t2, .int .i64 i, .int .i64 i, .slice list_a list_n list_e, .int .i64 (list_n : Int), .bool (decide ((i : Int) < (list_n : Int))), g8, g9, g10, g11, g12, g13, g14, g15] H)) := by kernel_rfl
def spec_l02Finite_I1 (list_a : Option Addr) (list_e : Nat) (list_n : Nat) (Inv : Nat → Bool → Int → AHeap → Prop) : Nat → List Value → AHeap → Prop := fun μ tm H => ∃ (t2 : Bool), ∃ (i : Int), ∃ g4 g5 g6 g7 g8 g9 g10 g11 g12 g13 g14 g15, tm = [.slice list_a list_n list_e, undef, .bool t2, .int .i64 i, g4, g5, g6, g7, g8, g9, g10, g11, g12, g13, g14, g15] ∧ Inv μ t2 i H
theorem spec_l02Finite_L1 (list_a : Option Addr) (list_e : Nat) (list_n : Nat) {Q : Post} (Inv : Nat → Bool → Int → AHeap → Prop) (ν : Nat) (t2 : Bool) (i : Int) (g4 g5 g6 g7 g8 g9 g10 g11 g12 g13 g14 g15 : Value) (H : AHeap) (h0 : Inv ν t2 i H)
    (hs : ∀ (μ : Nat) (t2 : Bool) (i : Int) (g4 g5 g6 g7 g8 g9 g10 g11 g12 g13 g14 g15 : Value) (H : AHeap), Inv μ t2 i H → exK Try.prog E_spec_l02Finite (cl (cl (cr (cl (cr (bodyC Try.f74)))))) [.slice list_a list_n list_e, undef, .bool t2, .int .i64 i, g4, g5, g6, g7, g8, g9, g10, g11, g12, g13, g14, g15] H (loopQ (spec_l02Finite_I1 list_a list_e list_n Inv) μ Q)) : loopK (exK Try.prog E_spec_l02Finite (cl (cl (cr (cl (cr (bodyC Try.f74))))))) [.slice list_a list_n list_e, undef, .bool t2, .int .i64 i, g4, g5, g6, g7, g8, g9, g10, g11, g12, g13, g14, g15] H Q :=
  ⟨spec_l02Finite_I1 list_a list_e list_n Inv, ν, ⟨t2, i, g4, g5, g6, g7, g8, g9, g10, g11, g12, g13, g14, g15, rfl, h0⟩, fun μ tm H h => by obtain ⟨t2, i, g4, g5, g6, g7, g8, g9, g10, g11, g12, g13, g14, g15, rfl, hI⟩ := h; exact hs μ t2 i g4 g5 g6 g7 g8 g9 g10 g11 g12 g13 g14 g15 H hI⟩
theorem spec_l02Finite_n1 {list_a : Option Addr} {list_e : Nat} {list_n : Nat} {Q : Post} {Inv : Nat → Bool → Int → AHeap → Prop} {μ : Nat} (μ' : Nat) {t2 : Bool} {i : Int} {g4 g5 g6 g7 g8 g9 g10 g11 g12 g13 g14 g15 : Value} {H : AHeap} (hm : μ' < μ) (hI : Inv μ' t2 i H) : loopQ (spec_l02Finite_I1 list_a list_e list_n Inv) μ Q .normal [.slice list_a list_n list_e, undef, .bool t2, .int .i64 i, g4, g5, g6, g7, g8, g9, g10, g11, g12, g13, g14, g15] H := ⟨μ', hm, t2, i, g4, g5, g6, g7, g8, g9, g10, g11, g12, g13, g14, g15, rfl, hI⟩
theorem spec_l02Finite_x1_0 (list_a : Option Addr) (list_e : Nat) (list_n : Nat) (t2 : Bool) (i : Int) (g4 g5 g6 g7 g8 g9 g10 g11 g12 g13 g14 g15 : Value) (H : AHeap) (K : Value → AHeap → Prop)  {I : Nat → List Value → AHeap → Prop} {μ : Nat} : loopQ I μ (blockQ 0 (seqQ (exK Try.prog E_spec_l02Finite (cr (cr (bodyC Try.f74)))) (retK Try.prog Try.f74 K))) (.exit 0) [.slice list_a list_n list_e, undef, .bool t2, .int .i64 i, g4, g5, g6, g7, g8, g9, g10, g11, g12, g13, g14, g15] H =
  (K (.bool true) H) := by kernel_rfl
theorem spec_l02Finite_x1_ret (list_a : Option Addr) (list_e : Nat) (list_n : Nat) (t2 : Bool) (i : Int) (g4 g5 g6 g7 g8 g9 g10 g11 g12 g13 g14 g15 : Value) (H : AHeap) (K : Value → AHeap → Prop)  {I : Nat → List Value → AHeap → Prop} {μ : Nat} : loopQ I μ (blockQ 0 (seqQ (exK Try.prog E_spec_l02Finite (cr (cr (bodyC Try.f74)))) (retK Try.prog Try.f74 K))) .ret [.slice list_a list_n list_e, undef, .bool t2, .int .i64 i, g4, g5, g6, g7, g8, g9, g10, g11, g12, g13, g14, g15] H =
  (K (.bool t2) H) := by kernel_rfl
theorem E_spec_l02Finite_ok : ∀ g, FnOk Try.prog g (E_spec_l02Finite g) := FnOk.envOf (by
  intro x hx
  simp only [List.mem_cons, List.not_mem_nil, or_false] at hx
  subst hx; exact spec_l01Finite_ok)
set_option maxHeartbeats 1000000 in
theorem spec_l02Finite_main (list_a : Option Addr) (list_n : Nat) (list_e : Nat) (H : AHeap) (K : Value → AHeap → Prop) (h : T_spec_l02Finite list_a list_n list_e H fun (r1 : Bool) (H' : AHeap) => K (.bool r1) H') : bodyK Try.prog E_spec_l02Finite Try.f74 [.slice list_a list_n list_e] H K := by
  rw [spec_l02Finite_vc]
  obtain ⟨l_list, i_list, bd_9, hk⟩ := h
  obtain rfl := i_list.eqn
  have e : (p_spec_l02Finite l_list) = _ := rfl
  have e := e.trans (p_spec_l02Finite_eq l_list)
  have g0 := Grow.refl H
  refine spec_l02Finite_L1 _ _ _ (fun (μ : Nat) (t2 : Bool) (i : Int) (H_1 : AHeap) => H = H_1 ∧ (0 : Int) ≤ i ∧ i ≤ (l_list.length : Int) ∧ (l_list.length : Int) - i ≤ (μ : Int) ∧ p_spec_l02Finite l_list = p_spec_l02Finite_l1 l_list (μ + 1) t2 i) (Int.toNat ((l_list.length : Int) - (0 : Int))) _ _ _ _ _ _ _ _ _ _ _ _ _ _ H ?_ ?_
  · exact ⟨rfl, (by first | omega | (simp; done) | (simp; omega)), (by first | omega | (simp; done) | (simp; omega)), (by omega), e⟩
  · intro μ t2 i g4 g5 g6 g7 g8 g9 g10 g11 g12 g13 g14 g15 H_1 hI
    obtain ⟨rfl, v_1, v_2, hμ, e⟩ := hI
    rw [spec_l02Finite_r1]
    have e := e.trans (p_spec_l02Finite_l1_s l_list μ t2 i)
    have l_3 := g0.1
    refine Br.intro (fun c_4 => ?_) (fun c_4 => ?_)
    · have e := e.trans (cond_t c_4)
      have c_4' := of_decide_eq_true c_4
      obtain ⟨b_5, f_6, q_7⟩ := ((i_list.grow g0)).pos (by first | omega | (simp only [List.length_set, List.length_replicate, List.length_append, List.length_cons, List.length_nil, List.length_take, List.length_drop, marks_length]; done) | (simp only [List.length_set, List.length_replicate, List.length_append, List.length_cons, List.length_nil, List.length_take, List.length_drop, marks_length]; omega))
      refine ⟨by omega, by omega, b_5, f_6, q_7, ?_⟩
      refine ⟨((l_list).getD (i : Int).toNat 0), (i_list).rd g0 q_7 (by omega) _, ?_⟩
      refine T_spec_l01Finite_i ?_
      refine Br.intro (fun c_8 => ?_) (fun c_8 => ?_)
      · have e := e.trans (cond_t c_8)
        have c_8n := nf_of_t c_8
        rw [spec_l02Finite_x1_ret]
        rw [e] at hk
        exact hk
      · have e := e.trans (cond_f c_8)
        have c_8n := nt_of_f c_8
        rw [show IntKind.wrap .i64 (i + 1) = (i + 1) from wrap64 (by omega) (by omega)]
        refine spec_l02Finite_n1 (μ - 1) (by omega) ⟨rfl, (by first | omega | (simp only [List.length_append, List.length_cons, List.length_nil, List.length_set]; done) | (simp only [List.length_append, List.length_cons, List.length_nil, List.length_set]; omega)), (by first | omega | (simp only [List.length_append, List.length_cons, List.length_nil, List.length_set]; done) | (simp only [List.length_append, List.length_cons, List.length_nil, List.length_set]; omega)), (by omega), (by rw [show μ - 1 + 1 = μ from by omega]; exact e)⟩
    · have e := e.trans (cond_f c_4)
      have c_4' := of_decide_eq_false c_4
      rw [spec_l02Finite_x1_0]
      rw [e] at hk
      exact hk
theorem spec_l02Finite_ok : FnOk Try.prog 74 S_spec_l02Finite := by
  refine FnOk.body mix_ok E_spec_l02Finite_ok Try.func74 rfl (by kernel_rfl) (by kernel_rfl) ?_ ?_ ?_ ?_ ?_
  · intro args H K K' h hk
    simp only [S_spec_l02Finite] at *
    unfold F_spec_l02Finite at *
    split at hk
    · obtain ⟨l_list, i_list, bd_9, k⟩ := hk
      exact ⟨l_list, i_list, bd_9, h _ _ k⟩
    · exact hk.elim
  · intro _ args H K hk
    simp only [S_spec_l02Finite] at *
    unfold F_spec_l02Finite at *
    split at hk
    · obtain ⟨l_list, i_list, bd_9, k⟩ := hk
      exact ⟨_, k, fun K' k' => ⟨l_list, i_list, bd_9, k'⟩⟩
    · exact hk.elim
  · intro args H K hk
    simp only [S_spec_l02Finite] at *
    unfold F_spec_l02Finite at *
    split at hk
    · obtain ⟨l_list, i_list, bd_9, k⟩ := hk
      exact ⟨_, _, k⟩
    · exact hk.elim
  · intro hq; cases hq
  · have mm := @spec_l02Finite_main
    revert mm
    generalize bodyK Try.prog E_spec_l02Finite Try.f74 = Q
    intro mm args H K hk
    simp only [S_spec_l02Finite] at *
    unfold F_spec_l02Finite at *
    split at hk
    · exact mm _ _ _ H K hk
    · exact hk.elim
def p_spec_l03Long (l_list : List Nat) : Bool := (bif decide ((1 : Int) ≤ (l_list.length : Int)) then (bif decide (((l_list.length : Int) : Int) ≤ 128) then (p_spec_l02Finite l_list) else false) else false)
theorem p_spec_l03Long_eq (l_list : List Nat) : p_spec_l03Long l_list = (bif decide ((1 : Int) ≤ (l_list.length : Int)) then (bif decide (((l_list.length : Int) : Int) ≤ 128) then (p_spec_l02Finite l_list) else false) else false) := rfl
def T_spec_l03Long (list_a : Option Addr) (list_n : Nat) (list_e : Nat) (H : AHeap) (K : Bool → AHeap → Prop) : Prop := ∃ (l_list : List Nat), IsL fF H list_a list_n l_list ∧ l_list.length < 1073741824 ∧ K (p_spec_l03Long l_list) H
theorem T_spec_l03Long_i {list_a : Option Addr} {list_n : Nat} {list_e : Nat} {H : AHeap} {K : Bool → AHeap → Prop} (h : ∃ (l_list : List Nat), IsL fF H list_a list_n l_list ∧ l_list.length < 1073741824 ∧ K (p_spec_l03Long l_list) H) : T_spec_l03Long list_a list_n list_e H K := h

/-! spec_l03Long: function 61 -/
def E_spec_l03Long : Env := envOf [(74, S_spec_l02Finite)]
def F_spec_l03Long : List Value → AHeap → (Value → AHeap → Prop) → Prop
  | [.slice list_a list_n list_e], H, K => T_spec_l03Long list_a list_n list_e H fun (r1 : Bool) (H' : AHeap) => K (.bool r1) H'
  | _, _, _ => False
def S_spec_l03Long : FSpec := { F := F_spec_l03Long, quiet := true, tame := false }
theorem spec_l03Long_vc (list_a : Option Addr) (list_n : Nat) (list_e : Nat) (H : AHeap) (K : Value → AHeap → Prop) : bodyK Try.prog E_spec_l03Long Try.f61 [.slice list_a list_n list_e] H K =
  (Br (decide ((1 : Int) ≤ (list_n : Int))) (Br (decide (((list_n : Int) : Int) ≤ 128)) (T_spec_l02Finite list_a list_n list_e H fun (r1 : Bool) (H1 : AHeap) => K (.bool r1) H1) (K (.bool false) H)) (K (.bool false) H)) := by kernel_rfl
theorem E_spec_l03Long_ok : ∀ g, FnOk Try.prog g (E_spec_l03Long g) := FnOk.envOf (by
  intro x hx
  simp only [List.mem_cons, List.not_mem_nil, or_false] at hx
  subst hx; exact spec_l02Finite_ok)
set_option maxHeartbeats 1000000 in
theorem spec_l03Long_main (list_a : Option Addr) (list_n : Nat) (list_e : Nat) (H : AHeap) (K : Value → AHeap → Prop) (h : T_spec_l03Long list_a list_n list_e H fun (r1 : Bool) (H' : AHeap) => K (.bool r1) H') : bodyK Try.prog E_spec_l03Long Try.f61 [.slice list_a list_n list_e] H K := by
  rw [spec_l03Long_vc]
  obtain ⟨l_list, i_list, bd_3, hk⟩ := h
  obtain rfl := i_list.eqn
  have e : (p_spec_l03Long l_list) = _ := rfl
  have e := e.trans (p_spec_l03Long_eq l_list)
  have g0 := Grow.refl H
  refine Br.intro (fun c_1 => ?_) (fun c_1 => ?_)
  · have e := e.trans (cond_t c_1)
    have c_1' := of_decide_eq_true c_1
    refine Br.intro (fun c_2 => ?_) (fun c_2 => ?_)
    · have e := e.trans (cond_t c_2)
      have c_2' := of_decide_eq_true c_2
      refine T_spec_l02Finite_i ⟨_, (i_list.grow g0), (by first | omega | (simp only [List.length_set, List.length_replicate, List.length_append, List.length_cons, List.length_nil, List.length_take, List.length_drop, marks_length]; done) | (simp only [List.length_set, List.length_replicate, List.length_append, List.length_cons, List.length_nil, List.length_take, List.length_drop, marks_length]; omega)), ?_⟩
      rw [e] at hk
      exact hk
    · have e := e.trans (cond_f c_2)
      have c_2' := of_decide_eq_false c_2
      rw [e] at hk
      exact hk
  · have e := e.trans (cond_f c_1)
    have c_1' := of_decide_eq_false c_1
    rw [e] at hk
    exact hk
theorem spec_l03Long_ok : FnOk Try.prog 61 S_spec_l03Long := by
  refine FnOk.body mix_ok E_spec_l03Long_ok Try.func61 rfl (by kernel_rfl) (by kernel_rfl) ?_ ?_ ?_ ?_ ?_
  · intro args H K K' h hk
    simp only [S_spec_l03Long] at *
    unfold F_spec_l03Long at *
    split at hk
    · obtain ⟨l_list, i_list, bd_3, k⟩ := hk
      exact ⟨l_list, i_list, bd_3, h _ _ k⟩
    · exact hk.elim
  · intro _ args H K hk
    simp only [S_spec_l03Long] at *
    unfold F_spec_l03Long at *
    split at hk
    · obtain ⟨l_list, i_list, bd_3, k⟩ := hk
      exact ⟨_, k, fun K' k' => ⟨l_list, i_list, bd_3, k'⟩⟩
    · exact hk.elim
  · intro args H K hk
    simp only [S_spec_l03Long] at *
    unfold F_spec_l03Long at *
    split at hk
    · obtain ⟨l_list, i_list, bd_3, k⟩ := hk
      exact ⟨_, _, k⟩
    · exact hk.elim
  · intro hq; cases hq
  · have mm := @spec_l03Long_main
    revert mm
    generalize bodyK Try.prog E_spec_l03Long Try.f61 = Q
    intro mm args H K hk
    simp only [S_spec_l03Long] at *
    unfold F_spec_l03Long at *
    split at hk
    · exact mm _ _ _ H K hk
    · exact hk.elim
def p_spec_l02Above (x : Nat) : Bool := (bif (p_spec_l01Finite x) then flt .f32 0 x else false)
theorem p_spec_l02Above_eq (x : Nat) : p_spec_l02Above x = (bif (p_spec_l01Finite x) then flt .f32 0 x else false) := rfl
def T_spec_l02Above (x : Nat) (H : AHeap) (K : Bool → AHeap → Prop) : Prop := K (p_spec_l02Above x) H

theorem T_spec_l02Above_i {x : Nat} {H : AHeap} {K : Bool → AHeap → Prop} (h : K (p_spec_l02Above x) H) : T_spec_l02Above x H K := h
/-! spec_l02Above: function 69 -/
def E_spec_l02Above : Env := envOf [(56, S_spec_l01Finite)]
def F_spec_l02Above : List Value → AHeap → (Value → AHeap → Prop) → Prop
  | [.float .f32 x], H, K => T_spec_l02Above x H fun (r1 : Bool) (H' : AHeap) => K (.bool r1) H'
  | _, _, _ => False
def S_spec_l02Above : FSpec := { F := F_spec_l02Above, quiet := true, tame := false }
theorem spec_l02Above_vc (x : Nat) (H : AHeap) (K : Value → AHeap → Prop) : bodyK Try.prog E_spec_l02Above Try.f69 [.float .f32 x] H K =
  (T_spec_l01Finite x H fun (r1 : Bool) (H1 : AHeap) => Br r1 (K (.bool (flt .f32 0 x)) H1) (K (.bool false) H1)) := by kernel_rfl
theorem E_spec_l02Above_ok : ∀ g, FnOk Try.prog g (E_spec_l02Above g) := FnOk.envOf (by
  intro x hx
  simp only [List.mem_cons, List.not_mem_nil, or_false] at hx
  subst hx; exact spec_l01Finite_ok)
set_option maxHeartbeats 1000000 in
theorem spec_l02Above_main (x : Nat) (H : AHeap) (K : Value → AHeap → Prop) (h : T_spec_l02Above x H fun (r1 : Bool) (H' : AHeap) => K (.bool r1) H') : bodyK Try.prog E_spec_l02Above Try.f69 [.float .f32 x] H K := by
  rw [spec_l02Above_vc]
  simp only [T_spec_l01Finite]
  unfold T_spec_l02Above p_spec_l02Above at h
  repeat' (first | exact h | (exfalso; simp_all; done) | (refine ⟨by decide, ?_⟩) | (refine Br.intro (fun hb => ?_) (fun hb => ?_) <;> (try simp only [hb, cond_true, cond_false, Bool.not_true, Bool.not_false] at h)))
theorem spec_l02Above_ok : FnOk Try.prog 69 S_spec_l02Above := by
  refine FnOk.body mix_ok E_spec_l02Above_ok Try.func69 rfl (by kernel_rfl) (by kernel_rfl) ?_ ?_ ?_ ?_ ?_
  · intro args H K K' h hk
    simp only [S_spec_l02Above] at *
    unfold F_spec_l02Above at *
    split at hk
    · have k := hk
      exact h _ _ k
    · exact hk.elim
  · intro _ args H K hk
    simp only [S_spec_l02Above] at *
    unfold F_spec_l02Above at *
    split at hk
    · have k := hk
      exact ⟨_, k, fun K' k' => k'⟩
    · exact hk.elim
  · intro args H K hk
    simp only [S_spec_l02Above] at *
    unfold F_spec_l02Above at *
    split at hk
    · have k := hk
      exact ⟨_, _, k⟩
    · exact hk.elim
  · intro hq; cases hq
  · have mm := @spec_l02Above_main
    revert mm
    generalize bodyK Try.prog E_spec_l02Above Try.f69 = Q
    intro mm args H K hk
    simp only [S_spec_l02Above] at *
    unfold F_spec_l02Above at *
    split at hk
    · exact mm _ H K hk
    · exact hk.elim
def p_spec_l03Size (x : Nat) : Nat := (bif fle .f32 x 0 then fsub .f32 0 x else x)
theorem p_spec_l03Size_eq (x : Nat) : p_spec_l03Size x = (bif fle .f32 x 0 then fsub .f32 0 x else x) := rfl
def T_spec_l03Size (x : Nat) (H : AHeap) (K : Nat → AHeap → Prop) : Prop := K (p_spec_l03Size x) H

theorem T_spec_l03Size_i {x : Nat} {H : AHeap} {K : Nat → AHeap → Prop} (h : K (p_spec_l03Size x) H) : T_spec_l03Size x H K := h
/-! spec_l03Size: function 78 -/
def E_spec_l03Size : Env := envOf []
def F_spec_l03Size : List Value → AHeap → (Value → AHeap → Prop) → Prop
  | [.float .f32 x], H, K => T_spec_l03Size x H fun (r1 : Nat) (H' : AHeap) => K (.float .f32 r1) H'
  | _, _, _ => False
def S_spec_l03Size : FSpec := { F := F_spec_l03Size, quiet := true, tame := false }
theorem spec_l03Size_vc (x : Nat) (H : AHeap) (K : Value → AHeap → Prop) : bodyK Try.prog E_spec_l03Size Try.f78 [.float .f32 x] H K =
  (Br (fle .f32 x 0) (K (.float .f32 (fsub .f32 0 x)) H) (K (.float .f32 x) H)) := by kernel_rfl
theorem E_spec_l03Size_ok : ∀ g, FnOk Try.prog g (E_spec_l03Size g) := FnOk.envOf (by
  intro x hx; cases hx)
set_option maxHeartbeats 1000000 in
theorem spec_l03Size_main (x : Nat) (H : AHeap) (K : Value → AHeap → Prop) (h : T_spec_l03Size x H fun (r1 : Nat) (H' : AHeap) => K (.float .f32 r1) H') : bodyK Try.prog E_spec_l03Size Try.f78 [.float .f32 x] H K := by
  rw [spec_l03Size_vc]
  unfold T_spec_l03Size p_spec_l03Size at h
  repeat' (first | exact h | (exfalso; simp_all; done) | (refine ⟨by decide, ?_⟩) | (refine Br.intro (fun hb => ?_) (fun hb => ?_) <;> (try simp only [hb, cond_true, cond_false, Bool.not_true, Bool.not_false] at h)))
theorem spec_l03Size_ok : FnOk Try.prog 78 S_spec_l03Size := by
  refine FnOk.body mix_ok E_spec_l03Size_ok Try.func78 rfl (by kernel_rfl) (by kernel_rfl) ?_ ?_ ?_ ?_ ?_
  · intro args H K K' h hk
    simp only [S_spec_l03Size] at *
    unfold F_spec_l03Size at *
    split at hk
    · have k := hk
      exact h _ _ k
    · exact hk.elim
  · intro _ args H K hk
    simp only [S_spec_l03Size] at *
    unfold F_spec_l03Size at *
    split at hk
    · have k := hk
      exact ⟨_, k, fun K' k' => k'⟩
    · exact hk.elim
  · intro args H K hk
    simp only [S_spec_l03Size] at *
    unfold F_spec_l03Size at *
    split at hk
    · have k := hk
      exact ⟨_, _, k⟩
    · exact hk.elim
  · intro hq; cases hq
  · have mm := @spec_l03Size_main
    revert mm
    generalize bodyK Try.prog E_spec_l03Size Try.f78 = Q
    intro mm args H K hk
    simp only [S_spec_l03Size] at *
    unfold F_spec_l03Size at *
    split at hk
    · exact mm _ H K hk
    · exact hk.elim
def p_spec_l05Risk_l1 (l_list : List Nat) (noise : Nat) (limit : Nat) : Nat → Int → Nat → Int → Nat
  | 0, _, _, _ => 0
  | μ + 1, n, sum, t12 => (bif decide ((t12 : Int) < (l_list.length : Int)) then (bif !(flt .f32 limit ((p_spec_l03Size (((l_list).getD (t12 : Int).toNat 0))))) then (p_spec_l05Risk_l1 l_list noise limit μ (n + 1) (fadd .f32 sum (fmin .f32 (fmul .f32 (((l_list).getD (t12 : Int).toNat 0)) (((l_list).getD (t12 : Int).toNat 0))) (fmul .f32 limit limit))) (t12 + 1)) else (p_spec_l05Risk_l1 l_list noise limit μ n (fadd .f32 sum (fmin .f32 (fmul .f32 (((l_list).getD (t12 : Int).toNat 0)) (((l_list).getD (t12 : Int).toNat 0))) (fmul .f32 limit limit))) (t12 + 1))) else fadd .f32 (fmul .f32 (fmul .f32 noise noise) (FloatKind.nearest .f32 (IntKind.wrap .i64 ((l_list.length : Int) - (IntKind.wrap .i64 (2 * n)))))) sum)
theorem p_spec_l05Risk_l1_s (l_list : List Nat) (noise : Nat) (limit : Nat) (μ : Nat) (n : Int) (sum : Nat) (t12 : Int) : p_spec_l05Risk_l1 l_list noise limit (μ + 1) n sum t12 = (bif decide ((t12 : Int) < (l_list.length : Int)) then (bif !(flt .f32 limit ((p_spec_l03Size (((l_list).getD (t12 : Int).toNat 0))))) then (p_spec_l05Risk_l1 l_list noise limit μ (n + 1) (fadd .f32 sum (fmin .f32 (fmul .f32 (((l_list).getD (t12 : Int).toNat 0)) (((l_list).getD (t12 : Int).toNat 0))) (fmul .f32 limit limit))) (t12 + 1)) else (p_spec_l05Risk_l1 l_list noise limit μ n (fadd .f32 sum (fmin .f32 (fmul .f32 (((l_list).getD (t12 : Int).toNat 0)) (((l_list).getD (t12 : Int).toNat 0))) (fmul .f32 limit limit))) (t12 + 1))) else fadd .f32 (fmul .f32 (fmul .f32 noise noise) (FloatKind.nearest .f32 (IntKind.wrap .i64 ((l_list.length : Int) - (IntKind.wrap .i64 (2 * n)))))) sum) := rfl
def p_spec_l05Risk (l_list : List Nat) (noise : Nat) (limit : Nat) : Nat := (p_spec_l05Risk_l1 l_list noise limit (Int.toNat ((l_list.length : Int) - (0 : Int)) + 1) (0 : Int) 0 (0 : Int))
theorem p_spec_l05Risk_eq (l_list : List Nat) (noise : Nat) (limit : Nat) : p_spec_l05Risk l_list noise limit = (p_spec_l05Risk_l1 l_list noise limit (Int.toNat ((l_list.length : Int) - (0 : Int)) + 1) (0 : Int) 0 (0 : Int)) := rfl
def T_spec_l05Risk (list_a : Option Addr) (list_n : Nat) (list_e : Nat) (noise : Nat) (limit : Nat) (H : AHeap) (K : Nat → AHeap → Prop) : Prop := ∃ (l_list : List Nat), IsL fF H list_a list_n l_list ∧ l_list.length < 1073741824 ∧ K (p_spec_l05Risk l_list noise limit) H
theorem T_spec_l05Risk_i {list_a : Option Addr} {list_n : Nat} {list_e : Nat} {noise : Nat} {limit : Nat} {H : AHeap} {K : Nat → AHeap → Prop} (h : ∃ (l_list : List Nat), IsL fF H list_a list_n l_list ∧ l_list.length < 1073741824 ∧ K (p_spec_l05Risk l_list noise limit) H) : T_spec_l05Risk list_a list_n list_e noise limit H K := h

/-! spec_l05Risk: function 70 -/
def E_spec_l05Risk : Env := envOf [(78, S_spec_l03Size)]
def F_spec_l05Risk : List Value → AHeap → (Value → AHeap → Prop) → Prop
  | [.slice list_a list_n list_e, .float .f32 noise, .float .f32 limit], H, K => T_spec_l05Risk list_a list_n list_e noise limit H fun (r1 : Nat) (H' : AHeap) => K (.float .f32 r1) H'
  | _, _, _ => False
def S_spec_l05Risk : FSpec := { F := F_spec_l05Risk, quiet := true, tame := false }
theorem spec_l05Risk_vc (list_a : Option Addr) (list_n : Nat) (list_e : Nat) (noise : Nat) (limit : Nat) (H : AHeap) (K : Value → AHeap → Prop) : bodyK Try.prog E_spec_l05Risk Try.f70 [.slice list_a list_n list_e, .float .f32 noise, .float .f32 limit] H K =
  (loopK (exK Try.prog E_spec_l05Risk (cl (cl (cr (cl (cr (cr (cr (bodyC Try.f70))))))))) [.slice list_a list_n list_e, .float .f32 noise, .float .f32 limit, undef, undef, undef, .float .f32 0, .int .i64 0, .float .f32 0, undef, .slice list_a list_n list_e, .int .i64 (list_n : Int), .int .i64 0, undef, undef, undef, undef, undef, undef, undef, undef, undef, undef, undef, undef, undef, undef, undef, undef, undef, undef, undef, undef, undef, undef, undef, undef, undef, undef, undef, undef, undef, undef, undef, undef, undef, undef, undef, undef, undef, undef, undef, undef] H (blockQ 0 (seqQ (exK Try.prog E_spec_l05Risk (cr (cr (cr (cr (bodyC Try.f70)))))) (retK Try.prog Try.f70 K)))) := by kernel_rfl
theorem spec_l05Risk_r1 (limit : Nat) (list_a : Option Addr) (list_e : Nat) (list_n : Nat) (noise : Nat) (n : Int) (sum : Nat) (t12 : Int) (g9 g13 g14 g15 g16 g17 g18 g19 g20 g21 g22 g23 g24 g25 g26 g27 g28 g29 g30 g31 g32 g33 g34 g35 g36 g37 g38 g39 g40 : Value) (H : AHeap) (R : Post) : exK Try.prog E_spec_l05Risk (cl (cl (cr (cl (cr (cr (cr (bodyC Try.f70)))))))) [.slice list_a list_n list_e, .float .f32 noise, .float .f32 limit, undef, undef, undef, .float .f32 0, .int .i64 n, .float .f32 sum, g9, .slice list_a list_n list_e, .int .i64 (list_n : Int), .int .i64 t12, g13, g14, g15, g16, g17, g18, g19, g20, g21, g22, g23, g24, g25, g26, g27, g28, g29, g30, g31, g32, g33, g34, g35, g36, g37, g38, g39, g40, undef, undef, undef, undef, undef, undef, undef, undef, undef, undef, undef, undef] H R =
  (Br (decide ((t12 : Int) < (list_n : Int))) ((0 : Int) ≤ t12 ∧ t12 < (list_n : Int) ∧ ∃ b1 f1, (list_a : Option Addr) = some ⟨b1, f1, none⟩ ∧ ∃ x1 : Nat,  rdC H b1 (f1 + (t12 : Int).toNat * 1) = some (.float .f32 x1) ∧ T_spec_l03Size x1 H fun (r1 : Nat) (H1 : AHeap) => Br (!(flt .f32 limit r1)) ((0 : Int) ≤ t12 ∧ t12 < (list_n : Int) ∧ ∃ b2 f2, (list_a : Option Addr) = some ⟨b2, f2, none⟩ ∧ ∃ x2 : Nat,  rdC H1 b2 (f2 + (t12 : Int).toNat * 1) = some (.float .f32 x2) ∧ (0 : Int) ≤ t12 ∧ t12 < (list_n : Int) ∧ ∃ b3 f3, (list_a : Option Addr) = some ⟨b3, f3, none⟩ ∧ ∃ x3 : Nat,  rdC H1 b3 (f3 + (t12 : Int).toNat * 1) = some (.float .f32 x3) ∧ R .normal [.slice list_a list_n list_e, .float .f32 noise, .float .f32 limit, undef, undef, undef, .float .f32 0, .int .i64 (IntKind.wrap .i64 (n + 1)), .float .f32 (fadd .f32 sum (fmin .f32 (fmul .f32 x2 x3) (fmul .f32 limit limit))), .int .i64 t12, .slice list_a list_n list_e, .int .i64 (list_n : Int), .int .i64 (IntKind.wrap .i64 (t12 + 1)), .bool (decide ((t12 : Int) < (list_n : Int))), .int .i64 t12, .slice list_a list_n list_e, .int .i64 t12, .pointer (some ⟨b1, f1 + (t12 : Int).toNat * 1, none⟩), .float .f32 x1, .float .f32 r1, .float .f32 limit, .bool (flt .f32 limit r1), .bool (!(flt .f32 limit r1)), .int .i64 n, .int .i64 (IntKind.wrap .i64 (n + 1)), .float .f32 sum, .slice list_a list_n list_e, .int .i64 t12, .pointer (some ⟨b2, f2 + (t12 : Int).toNat * 1, none⟩), .float .f32 x2, .slice list_a list_n list_e, .int .i64 t12, .pointer (some ⟨b3, f3 + (t12 : Int).toNat * 1, none⟩), .float .f32 x3, .float .f32 (fmul .f32 x2 x3), .float .f32 limit, .float .f32 limit, .float .f32 (fmul .f32 limit limit), .float .f32 (fmin .f32 (fmul .f32 x2 x3) (fmul .f32 limit limit)), .float .f32 (fadd .f32 sum (fmin .f32 (fmul .f32 x2 x3) (fmul .f32 limit limit))), .int .i64 (IntKind.wrap .i64 (t12 + 1)), undef, undef, undef, undef, undef, undef, undef, undef, undef, undef, undef, undef] H1) ((0 : Int) ≤ t12 ∧ t12 < (list_n : Int) ∧ ∃ b4 f4, (list_a : Option Addr) = some ⟨b4, f4, none⟩ ∧ ∃ x4 : Nat,  rdC H1 b4 (f4 + (t12 : Int).toNat * 1) = some (.float .f32 x4) ∧ (0 : Int) ≤ t12 ∧ t12 < (list_n : Int) ∧ ∃ b5 f5, (list_a : Option Addr) = some ⟨b5, f5, none⟩ ∧ ∃ x5 : Nat,  rdC H1 b5 (f5 + (t12 : Int).toNat * 1) = some (.float .f32 x5) ∧ R .normal [.slice list_a list_n list_e, .float .f32 noise, .float .f32 limit, undef, undef, undef, .float .f32 0, .int .i64 n, .float .f32 (fadd .f32 sum (fmin .f32 (fmul .f32 x4 x5) (fmul .f32 limit limit))), .int .i64 t12, .slice list_a list_n list_e, .int .i64 (list_n : Int), .int .i64 (IntKind.wrap .i64 (t12 + 1)), .bool (decide ((t12 : Int) < (list_n : Int))), .int .i64 t12, .slice list_a list_n list_e, .int .i64 t12, .pointer (some ⟨b1, f1 + (t12 : Int).toNat * 1, none⟩), .float .f32 x1, .float .f32 r1, .float .f32 limit, .bool (flt .f32 limit r1), .bool (!(flt .f32 limit r1)), g23, g24, .float .f32 sum, .slice list_a list_n list_e, .int .i64 t12, .pointer (some ⟨b4, f4 + (t12 : Int).toNat * 1, none⟩), .float .f32 x4, .slice list_a list_n list_e, .int .i64 t12, .pointer (some ⟨b5, f5 + (t12 : Int).toNat * 1, none⟩), .float .f32 x5, .float .f32 (fmul .f32 x4 x5), .float .f32 limit, .float .f32 limit, .float .f32 (fmul .f32 limit limit), .float .f32 (fmin .f32 (fmul .f32 x4 x5) (fmul .f32 limit limit)), .float .f32 (fadd .f32 sum (fmin .f32 (fmul .f32 x4 x5) (fmul .f32 limit limit))), .int .i64 (IntKind.wrap .i64 (t12 + 1)), undef, undef, undef, undef, undef, undef, undef, undef, undef, undef, undef, undef] H1)) (R (.exit 0) [.slice list_a list_n list_e, .float .f32 noise, .float .f32 limit, undef, undef, undef, .float .f32 0, .int .i64 n, .float .f32 sum, g9, .slice list_a list_n list_e, .int .i64 (list_n : Int), .int .i64 t12, .bool (decide ((t12 : Int) < (list_n : Int))), g14, g15, g16, g17, g18, g19, g20, g21, g22, g23, g24, g25, g26, g27, g28, g29, g30, g31, g32, g33, g34, g35, g36, g37, g38, g39, g40, undef, undef, undef, undef, undef, undef, undef, undef, undef, undef, undef, undef] H)) := by kernel_rfl
def spec_l05Risk_I1 (limit : Nat) (list_a : Option Addr) (list_e : Nat) (list_n : Nat) (noise : Nat) (Inv : Nat → Int → Nat → Int → AHeap → Prop) : Nat → List Value → AHeap → Prop := fun μ tm H => ∃ (n : Int), ∃ (sum : Nat), ∃ (t12 : Int), ∃ g9 g13 g14 g15 g16 g17 g18 g19 g20 g21 g22 g23 g24 g25 g26 g27 g28 g29 g30 g31 g32 g33 g34 g35 g36 g37 g38 g39 g40, tm = [.slice list_a list_n list_e, .float .f32 noise, .float .f32 limit, undef, undef, undef, .float .f32 0, .int .i64 n, .float .f32 sum, g9, .slice list_a list_n list_e, .int .i64 (list_n : Int), .int .i64 t12, g13, g14, g15, g16, g17, g18, g19, g20, g21, g22, g23, g24, g25, g26, g27, g28, g29, g30, g31, g32, g33, g34, g35, g36, g37, g38, g39, g40, undef, undef, undef, undef, undef, undef, undef, undef, undef, undef, undef, undef] ∧ Inv μ n sum t12 H
theorem spec_l05Risk_L1 (limit : Nat) (list_a : Option Addr) (list_e : Nat) (list_n : Nat) (noise : Nat) {Q : Post} (Inv : Nat → Int → Nat → Int → AHeap → Prop) (ν : Nat) (n : Int) (sum : Nat) (t12 : Int) (g9 g13 g14 g15 g16 g17 g18 g19 g20 g21 g22 g23 g24 g25 g26 g27 g28 g29 g30 g31 g32 g33 g34 g35 g36 g37 g38 g39 g40 : Value) (H : AHeap) (h0 : Inv ν n sum t12 H)
    (hs : ∀ (μ : Nat) (n : Int) (sum : Nat) (t12 : Int) (g9 g13 g14 g15 g16 g17 g18 g19 g20 g21 g22 g23 g24 g25 g26 g27 g28 g29 g30 g31 g32 g33 g34 g35 g36 g37 g38 g39 g40 : Value) (H : AHeap), Inv μ n sum t12 H → exK Try.prog E_spec_l05Risk (cl (cl (cr (cl (cr (cr (cr (bodyC Try.f70)))))))) [.slice list_a list_n list_e, .float .f32 noise, .float .f32 limit, undef, undef, undef, .float .f32 0, .int .i64 n, .float .f32 sum, g9, .slice list_a list_n list_e, .int .i64 (list_n : Int), .int .i64 t12, g13, g14, g15, g16, g17, g18, g19, g20, g21, g22, g23, g24, g25, g26, g27, g28, g29, g30, g31, g32, g33, g34, g35, g36, g37, g38, g39, g40, undef, undef, undef, undef, undef, undef, undef, undef, undef, undef, undef, undef] H (loopQ (spec_l05Risk_I1 limit list_a list_e list_n noise Inv) μ Q)) : loopK (exK Try.prog E_spec_l05Risk (cl (cl (cr (cl (cr (cr (cr (bodyC Try.f70))))))))) [.slice list_a list_n list_e, .float .f32 noise, .float .f32 limit, undef, undef, undef, .float .f32 0, .int .i64 n, .float .f32 sum, g9, .slice list_a list_n list_e, .int .i64 (list_n : Int), .int .i64 t12, g13, g14, g15, g16, g17, g18, g19, g20, g21, g22, g23, g24, g25, g26, g27, g28, g29, g30, g31, g32, g33, g34, g35, g36, g37, g38, g39, g40, undef, undef, undef, undef, undef, undef, undef, undef, undef, undef, undef, undef] H Q :=
  ⟨spec_l05Risk_I1 limit list_a list_e list_n noise Inv, ν, ⟨n, sum, t12, g9, g13, g14, g15, g16, g17, g18, g19, g20, g21, g22, g23, g24, g25, g26, g27, g28, g29, g30, g31, g32, g33, g34, g35, g36, g37, g38, g39, g40, rfl, h0⟩, fun μ tm H h => by obtain ⟨n, sum, t12, g9, g13, g14, g15, g16, g17, g18, g19, g20, g21, g22, g23, g24, g25, g26, g27, g28, g29, g30, g31, g32, g33, g34, g35, g36, g37, g38, g39, g40, rfl, hI⟩ := h; exact hs μ n sum t12 g9 g13 g14 g15 g16 g17 g18 g19 g20 g21 g22 g23 g24 g25 g26 g27 g28 g29 g30 g31 g32 g33 g34 g35 g36 g37 g38 g39 g40 H hI⟩
theorem spec_l05Risk_n1 {limit : Nat} {list_a : Option Addr} {list_e : Nat} {list_n : Nat} {noise : Nat} {Q : Post} {Inv : Nat → Int → Nat → Int → AHeap → Prop} {μ : Nat} (μ' : Nat) {n : Int} {sum : Nat} {t12 : Int} {g9 g13 g14 g15 g16 g17 g18 g19 g20 g21 g22 g23 g24 g25 g26 g27 g28 g29 g30 g31 g32 g33 g34 g35 g36 g37 g38 g39 g40 : Value} {H : AHeap} (hm : μ' < μ) (hI : Inv μ' n sum t12 H) : loopQ (spec_l05Risk_I1 limit list_a list_e list_n noise Inv) μ Q .normal [.slice list_a list_n list_e, .float .f32 noise, .float .f32 limit, undef, undef, undef, .float .f32 0, .int .i64 n, .float .f32 sum, g9, .slice list_a list_n list_e, .int .i64 (list_n : Int), .int .i64 t12, g13, g14, g15, g16, g17, g18, g19, g20, g21, g22, g23, g24, g25, g26, g27, g28, g29, g30, g31, g32, g33, g34, g35, g36, g37, g38, g39, g40, undef, undef, undef, undef, undef, undef, undef, undef, undef, undef, undef, undef] H := ⟨μ', hm, n, sum, t12, g9, g13, g14, g15, g16, g17, g18, g19, g20, g21, g22, g23, g24, g25, g26, g27, g28, g29, g30, g31, g32, g33, g34, g35, g36, g37, g38, g39, g40, rfl, hI⟩
theorem spec_l05Risk_x1_0 (limit : Nat) (list_a : Option Addr) (list_e : Nat) (list_n : Nat) (noise : Nat) (n : Int) (sum : Nat) (t12 : Int) (g9 g13 g14 g15 g16 g17 g18 g19 g20 g21 g22 g23 g24 g25 g26 g27 g28 g29 g30 g31 g32 g33 g34 g35 g36 g37 g38 g39 g40 : Value) (H : AHeap) (K : Value → AHeap → Prop)  {I : Nat → List Value → AHeap → Prop} {μ : Nat} : loopQ I μ (blockQ 0 (seqQ (exK Try.prog E_spec_l05Risk (cr (cr (cr (cr (bodyC Try.f70)))))) (retK Try.prog Try.f70 K))) (.exit 0) [.slice list_a list_n list_e, .float .f32 noise, .float .f32 limit, undef, undef, undef, .float .f32 0, .int .i64 n, .float .f32 sum, g9, .slice list_a list_n list_e, .int .i64 (list_n : Int), .int .i64 t12, g13, g14, g15, g16, g17, g18, g19, g20, g21, g22, g23, g24, g25, g26, g27, g28, g29, g30, g31, g32, g33, g34, g35, g36, g37, g38, g39, g40, undef, undef, undef, undef, undef, undef, undef, undef, undef, undef, undef, undef] H =
  (K (.float .f32 (fadd .f32 (fmul .f32 (fmul .f32 noise noise) (FloatKind.nearest .f32 (IntKind.wrap .i64 ((list_n : Int) - (IntKind.wrap .i64 (2 * n)))))) sum)) H) := by kernel_rfl
theorem E_spec_l05Risk_ok : ∀ g, FnOk Try.prog g (E_spec_l05Risk g) := FnOk.envOf (by
  intro x hx
  simp only [List.mem_cons, List.not_mem_nil, or_false] at hx
  subst hx; exact spec_l03Size_ok)
set_option maxHeartbeats 1000000 in
theorem spec_l05Risk_main (list_a : Option Addr) (list_n : Nat) (list_e : Nat) (noise : Nat) (limit : Nat) (H : AHeap) (K : Value → AHeap → Prop) (h : T_spec_l05Risk list_a list_n list_e noise limit H fun (r1 : Nat) (H' : AHeap) => K (.float .f32 r1) H') : bodyK Try.prog E_spec_l05Risk Try.f70 [.slice list_a list_n list_e, .float .f32 noise, .float .f32 limit] H K := by
  rw [spec_l05Risk_vc]
  obtain ⟨l_list, i_list, bd_23, hk⟩ := h
  obtain rfl := i_list.eqn
  have e : (p_spec_l05Risk l_list noise limit) = _ := rfl
  have e := e.trans (p_spec_l05Risk_eq l_list noise limit)
  have g0 := Grow.refl H
  refine spec_l05Risk_L1 _ _ _ _ _ (fun (μ : Nat) (n : Int) (sum : Nat) (t12 : Int) (H_1 : AHeap) => H = H_1 ∧ (0 : Int) ≤ t12 ∧ t12 ≤ (l_list.length : Int) ∧ 0 ≤ n ∧ n ≤ t12 ∧ (l_list.length : Int) - t12 ≤ (μ : Int) ∧ p_spec_l05Risk l_list noise limit = p_spec_l05Risk_l1 l_list noise limit (μ + 1) n sum t12) (Int.toNat ((l_list.length : Int) - (0 : Int))) _ _ _ _ _ _ _ _ _ _ _ _ _ _ _ _ _ _ _ _ _ _ _ _ _ _ _ _ _ _ _ _ H ?_ ?_
  · exact ⟨rfl, (by first | omega | (simp; done) | (simp; omega)), (by first | omega | (simp; done) | (simp; omega)), (by first | omega | (simp; done) | (simp; omega)), (by first | omega | (simp; done) | (simp; omega)), (by omega), e⟩
  · intro μ n sum t12 g9 g13 g14 g15 g16 g17 g18 g19 g20 g21 g22 g23 g24 g25 g26 g27 g28 g29 g30 g31 g32 g33 g34 g35 g36 g37 g38 g39 g40 H_1 hI
    obtain ⟨rfl, v_1, v_2, v_3, v_4, hμ, e⟩ := hI
    rw [spec_l05Risk_r1]
    have e := e.trans (p_spec_l05Risk_l1_s l_list noise limit μ n sum t12)
    have l_5 := g0.1
    refine Br.intro (fun c_6 => ?_) (fun c_6 => ?_)
    · have e := e.trans (cond_t c_6)
      have c_6' := of_decide_eq_true c_6
      obtain ⟨b_7, f_8, q_9⟩ := ((i_list.grow g0)).pos (by first | omega | (simp only [List.length_set, List.length_replicate, List.length_append, List.length_cons, List.length_nil, List.length_take, List.length_drop, marks_length]; done) | (simp only [List.length_set, List.length_replicate, List.length_append, List.length_cons, List.length_nil, List.length_take, List.length_drop, marks_length]; omega))
      refine ⟨by omega, by omega, b_7, f_8, q_9, ?_⟩
      refine ⟨((l_list).getD (t12 : Int).toNat 0), (i_list).rd g0 q_9 (by omega) _, ?_⟩
      refine T_spec_l03Size_i ?_
      refine Br.intro (fun c_10 => ?_) (fun c_10 => ?_)
      · have e := e.trans (cond_t c_10)
        have c_10n := nf_of_t c_10
        rw [show IntKind.wrap .i64 (n + 1) = (n + 1) from wrap64 (by omega) (by omega)]
        obtain ⟨b_11, f_12, q_13⟩ := ((i_list.grow g0)).pos (by first | omega | (simp only [List.length_set, List.length_replicate, List.length_append, List.length_cons, List.length_nil, List.length_take, List.length_drop, marks_length]; done) | (simp only [List.length_set, List.length_replicate, List.length_append, List.length_cons, List.length_nil, List.length_take, List.length_drop, marks_length]; omega))
        refine ⟨by omega, by omega, b_11, f_12, q_13, ?_⟩
        refine ⟨((l_list).getD (t12 : Int).toNat 0), (i_list).rd g0 q_13 (by omega) _, ?_⟩
        obtain ⟨b_14, f_15, q_16⟩ := ((i_list.grow g0)).pos (by first | omega | (simp only [List.length_set, List.length_replicate, List.length_append, List.length_cons, List.length_nil, List.length_take, List.length_drop, marks_length]; done) | (simp only [List.length_set, List.length_replicate, List.length_append, List.length_cons, List.length_nil, List.length_take, List.length_drop, marks_length]; omega))
        refine ⟨by omega, by omega, b_14, f_15, q_16, ?_⟩
        refine ⟨((l_list).getD (t12 : Int).toNat 0), (i_list).rd g0 q_16 (by omega) _, ?_⟩
        rw [show IntKind.wrap .i64 (t12 + 1) = (t12 + 1) from wrap64 (by omega) (by omega)]
        refine spec_l05Risk_n1 (μ - 1) (by omega) ⟨rfl, (by first | omega | (simp only [List.length_append, List.length_cons, List.length_nil, List.length_set]; done) | (simp only [List.length_append, List.length_cons, List.length_nil, List.length_set]; omega)), (by first | omega | (simp only [List.length_append, List.length_cons, List.length_nil, List.length_set]; done) | (simp only [List.length_append, List.length_cons, List.length_nil, List.length_set]; omega)), (by first | omega | (simp only [List.length_append, List.length_cons, List.length_nil, List.length_set]; done) | (simp only [List.length_append, List.length_cons, List.length_nil, List.length_set]; omega)), (by first | omega | (simp only [List.length_append, List.length_cons, List.length_nil, List.length_set]; done) | (simp only [List.length_append, List.length_cons, List.length_nil, List.length_set]; omega)), (by omega), (by rw [show μ - 1 + 1 = μ from by omega]; exact e)⟩
      · have e := e.trans (cond_f c_10)
        have c_10n := nt_of_f c_10
        obtain ⟨b_17, f_18, q_19⟩ := ((i_list.grow g0)).pos (by first | omega | (simp only [List.length_set, List.length_replicate, List.length_append, List.length_cons, List.length_nil, List.length_take, List.length_drop, marks_length]; done) | (simp only [List.length_set, List.length_replicate, List.length_append, List.length_cons, List.length_nil, List.length_take, List.length_drop, marks_length]; omega))
        refine ⟨by omega, by omega, b_17, f_18, q_19, ?_⟩
        refine ⟨((l_list).getD (t12 : Int).toNat 0), (i_list).rd g0 q_19 (by omega) _, ?_⟩
        obtain ⟨b_20, f_21, q_22⟩ := ((i_list.grow g0)).pos (by first | omega | (simp only [List.length_set, List.length_replicate, List.length_append, List.length_cons, List.length_nil, List.length_take, List.length_drop, marks_length]; done) | (simp only [List.length_set, List.length_replicate, List.length_append, List.length_cons, List.length_nil, List.length_take, List.length_drop, marks_length]; omega))
        refine ⟨by omega, by omega, b_20, f_21, q_22, ?_⟩
        refine ⟨((l_list).getD (t12 : Int).toNat 0), (i_list).rd g0 q_22 (by omega) _, ?_⟩
        rw [show IntKind.wrap .i64 (t12 + 1) = (t12 + 1) from wrap64 (by omega) (by omega)]
        refine spec_l05Risk_n1 (μ - 1) (by omega) ⟨rfl, (by first | omega | (simp only [List.length_append, List.length_cons, List.length_nil, List.length_set]; done) | (simp only [List.length_append, List.length_cons, List.length_nil, List.length_set]; omega)), (by first | omega | (simp only [List.length_append, List.length_cons, List.length_nil, List.length_set]; done) | (simp only [List.length_append, List.length_cons, List.length_nil, List.length_set]; omega)), (by first | omega | (simp only [List.length_append, List.length_cons, List.length_nil, List.length_set]; done) | (simp only [List.length_append, List.length_cons, List.length_nil, List.length_set]; omega)), (by first | omega | (simp only [List.length_append, List.length_cons, List.length_nil, List.length_set]; done) | (simp only [List.length_append, List.length_cons, List.length_nil, List.length_set]; omega)), (by omega), (by rw [show μ - 1 + 1 = μ from by omega]; exact e)⟩
    · have e := e.trans (cond_f c_6)
      have c_6' := of_decide_eq_false c_6
      rw [spec_l05Risk_x1_0]
      rw [e] at hk
      exact hk
theorem spec_l05Risk_ok : FnOk Try.prog 70 S_spec_l05Risk := by
  refine FnOk.body mix_ok E_spec_l05Risk_ok Try.func70 rfl (by kernel_rfl) (by kernel_rfl) ?_ ?_ ?_ ?_ ?_
  · intro args H K K' h hk
    simp only [S_spec_l05Risk] at *
    unfold F_spec_l05Risk at *
    split at hk
    · obtain ⟨l_list, i_list, bd_23, k⟩ := hk
      exact ⟨l_list, i_list, bd_23, h _ _ k⟩
    · exact hk.elim
  · intro _ args H K hk
    simp only [S_spec_l05Risk] at *
    unfold F_spec_l05Risk at *
    split at hk
    · obtain ⟨l_list, i_list, bd_23, k⟩ := hk
      exact ⟨_, k, fun K' k' => ⟨l_list, i_list, bd_23, k'⟩⟩
    · exact hk.elim
  · intro args H K hk
    simp only [S_spec_l05Risk] at *
    unfold F_spec_l05Risk at *
    split at hk
    · obtain ⟨l_list, i_list, bd_23, k⟩ := hk
      exact ⟨_, _, k⟩
    · exact hk.elim
  · intro hq; cases hq
  · have mm := @spec_l05Risk_main
    revert mm
    generalize bodyK Try.prog E_spec_l05Risk Try.f70 = Q
    intro mm args H K hk
    simp only [S_spec_l05Risk] at *
    unfold F_spec_l05Risk at *
    split at hk
    · exact mm _ _ _ _ _ H K hk
    · exact hk.elim
def p_spec_BestLimit_l1 (l_list : List Nat) (noise : Nat) : Nat → Nat → Nat → Bool → Nat → Nat → Int → Nat × Nat × Bool
  | 0, _, _, _, _, _, _ => (0, 0, false)
  | μ + 1, t4, t5, t6, best, least, t28 => (bif decide ((t28 : Int) < (l_list.length : Int)) then (bif !((p_spec_l01Finite ((p_spec_l05Risk l_list noise ((p_spec_l03Size (((l_list).getD (t28 : Int).toNat 0)))))))) then (0, 0, false) else (bif flt .f32 ((p_spec_l05Risk l_list noise ((p_spec_l03Size (((l_list).getD (t28 : Int).toNat 0)))))) least then (p_spec_BestLimit_l1 l_list noise μ t4 t5 t6 ((p_spec_l03Size (((l_list).getD (t28 : Int).toNat 0)))) ((p_spec_l05Risk l_list noise ((p_spec_l03Size (((l_list).getD (t28 : Int).toNat 0)))))) (t28 + 1)) else (p_spec_BestLimit_l1 l_list noise μ t4 t5 t6 best least (t28 + 1)))) else (best, least, true))
theorem p_spec_BestLimit_l1_s (l_list : List Nat) (noise : Nat) (μ : Nat) (t4 : Nat) (t5 : Nat) (t6 : Bool) (best : Nat) (least : Nat) (t28 : Int) : p_spec_BestLimit_l1 l_list noise (μ + 1) t4 t5 t6 best least t28 = (bif decide ((t28 : Int) < (l_list.length : Int)) then (bif !((p_spec_l01Finite ((p_spec_l05Risk l_list noise ((p_spec_l03Size (((l_list).getD (t28 : Int).toNat 0)))))))) then (0, 0, false) else (bif flt .f32 ((p_spec_l05Risk l_list noise ((p_spec_l03Size (((l_list).getD (t28 : Int).toNat 0)))))) least then (p_spec_BestLimit_l1 l_list noise μ t4 t5 t6 ((p_spec_l03Size (((l_list).getD (t28 : Int).toNat 0)))) ((p_spec_l05Risk l_list noise ((p_spec_l03Size (((l_list).getD (t28 : Int).toNat 0)))))) (t28 + 1)) else (p_spec_BestLimit_l1 l_list noise μ t4 t5 t6 best least (t28 + 1)))) else (best, least, true)) := rfl
def p_spec_BestLimit (l_list : List Nat) (noise : Nat) : Nat × Nat × Bool := (bif !(p_spec_l03Long l_list) then (0, 0, false) else (bif !(p_spec_l02Above noise) then (0, 0, false) else (bif !((p_spec_l01Finite (p_spec_l05Risk l_list noise 0))) then (0, 0, false) else (p_spec_BestLimit_l1 l_list noise (Int.toNat ((l_list.length : Int) - (0 : Int)) + 1) 0 0 false 0 (p_spec_l05Risk l_list noise 0) (0 : Int)))))
theorem p_spec_BestLimit_eq (l_list : List Nat) (noise : Nat) : p_spec_BestLimit l_list noise = (bif !(p_spec_l03Long l_list) then (0, 0, false) else (bif !(p_spec_l02Above noise) then (0, 0, false) else (bif !((p_spec_l01Finite (p_spec_l05Risk l_list noise 0))) then (0, 0, false) else (p_spec_BestLimit_l1 l_list noise (Int.toNat ((l_list.length : Int) - (0 : Int)) + 1) 0 0 false 0 (p_spec_l05Risk l_list noise 0) (0 : Int))))) := rfl
def T_spec_BestLimit (list_a : Option Addr) (list_n : Nat) (list_e : Nat) (noise : Nat) (H : AHeap) (K : Nat → Nat → Bool → AHeap → Prop) : Prop := ∃ (l_list : List Nat), IsL fF H list_a list_n l_list ∧ l_list.length < 1073741824 ∧ K ((p_spec_BestLimit l_list noise).1) ((p_spec_BestLimit l_list noise).2.1) ((p_spec_BestLimit l_list noise).2.2) H
theorem T_spec_BestLimit_i {list_a : Option Addr} {list_n : Nat} {list_e : Nat} {noise : Nat} {H : AHeap} {K : Nat → Nat → Bool → AHeap → Prop} (h : ∃ (l_list : List Nat), IsL fF H list_a list_n l_list ∧ l_list.length < 1073741824 ∧ K ((p_spec_BestLimit l_list noise).1) ((p_spec_BestLimit l_list noise).2.1) ((p_spec_BestLimit l_list noise).2.2) H) : T_spec_BestLimit list_a list_n list_e noise H K := h

/-! spec_BestLimit: function 46 -/
def E_spec_BestLimit : Env := envOf [(61, S_spec_l03Long), (69, S_spec_l02Above), (70, S_spec_l05Risk), (56, S_spec_l01Finite), (78, S_spec_l03Size)]
def F_spec_BestLimit : List Value → AHeap → (Value → AHeap → Prop) → Prop
  | [.slice list_a list_n list_e, .float .f32 noise], H, K => T_spec_BestLimit list_a list_n list_e noise H fun (r1 : Nat) (r2 : Nat) (r3 : Bool) (H' : AHeap) => K (.tuple #[.float .f32 r1, .float .f32 r2, .bool r3]) H'
  | _, _, _ => False
def S_spec_BestLimit : FSpec := { F := F_spec_BestLimit, quiet := true, tame := false }
theorem spec_BestLimit_vc (list_a : Option Addr) (list_n : Nat) (list_e : Nat) (noise : Nat) (H : AHeap) (K : Value → AHeap → Prop) : bodyK Try.prog E_spec_BestLimit Try.f46 [.slice list_a list_n list_e, .float .f32 noise] H K =
  (T_spec_l03Long list_a list_n list_e H fun (r1 : Bool) (H1 : AHeap) => Br (!r1) (K (.tuple #[.float .f32 0, .float .f32 0, .bool false]) H1) (T_spec_l02Above noise H1 fun (r2 : Bool) (H2 : AHeap) => Br (!r2) (K (.tuple #[.float .f32 0, .float .f32 0, .bool false]) H2) (T_spec_l05Risk list_a list_n list_e noise 0 H2 fun (r3 : Nat) (H3 : AHeap) => T_spec_l01Finite r3 H3 fun (r4 : Bool) (H4 : AHeap) => Br (!r4) (K (.tuple #[.float .f32 0, .float .f32 0, .bool false]) H4) (loopK (exK Try.prog E_spec_BestLimit (cl (cl (cr (cl (cr (cr (cr (cr (cr (bodyC Try.f46))))))))))) [.slice list_a list_n list_e, .float .f32 noise, undef, undef, .float .f32 0, .float .f32 0, .bool false, .float .f32 0, .float .f32 r3, undef, undef, undef, .slice list_a list_n list_e, .bool r1, .bool (!r1), .bool false, .float .f32 noise, .bool r2, .bool (!r2), .bool (!r2), .slice list_a list_n list_e, .float .f32 noise, .float .f32 r3, .float .f32 r3, .bool r4, .bool (!r4), .slice list_a list_n list_e, .int .i64 (list_n : Int), .int .i64 0, undef, undef, undef, undef, undef, undef, undef, undef, undef, undef, undef, undef, undef, undef, undef, undef, undef, undef, undef, undef, undef, undef] H4 (blockQ 0 (seqQ (exK Try.prog E_spec_BestLimit (cr (cr (cr (cr (cr (cr (bodyC Try.f46)))))))) (retK Try.prog Try.f46 K))))))) := by kernel_rfl
theorem spec_BestLimit_r1 (list_a : Option Addr) (list_e : Nat) (list_n : Nat) (noise : Nat) (r1 : Bool) (r2 : Bool) (r3 : Nat) (r4 : Bool) (t4 : Nat) (t5 : Nat) (t6 : Bool) (best : Nat) (least : Nat) (t28 : Int) (g9 g10 g11 g29 g30 g31 g32 g33 g34 g35 g36 g37 g38 g39 g40 g41 g42 g43 g44 g45 g46 g47 g48 : Value) (H : AHeap) (R : Post) : exK Try.prog E_spec_BestLimit (cl (cl (cr (cl (cr (cr (cr (cr (cr (bodyC Try.f46)))))))))) [.slice list_a list_n list_e, .float .f32 noise, undef, undef, .float .f32 t4, .float .f32 t5, .bool t6, .float .f32 best, .float .f32 least, g9, g10, g11, .slice list_a list_n list_e, .bool r1, .bool (!r1), .bool false, .float .f32 noise, .bool r2, .bool (!r2), .bool (!r2), .slice list_a list_n list_e, .float .f32 noise, .float .f32 r3, .float .f32 r3, .bool r4, .bool (!r4), .slice list_a list_n list_e, .int .i64 (list_n : Int), .int .i64 t28, g29, g30, g31, g32, g33, g34, g35, g36, g37, g38, g39, g40, g41, g42, g43, g44, g45, g46, g47, g48, undef, undef] H R =
  (Br (decide ((t28 : Int) < (list_n : Int))) ((0 : Int) ≤ t28 ∧ t28 < (list_n : Int) ∧ ∃ b1 f1, (list_a : Option Addr) = some ⟨b1, f1, none⟩ ∧ ∃ x1 : Nat,  rdC H b1 (f1 + (t28 : Int).toNat * 1) = some (.float .f32 x1) ∧ T_spec_l03Size x1 H fun (r5 : Nat) (H5 : AHeap) => T_spec_l05Risk list_a list_n list_e noise r5 H5 fun (r6 : Nat) (H6 : AHeap) => T_spec_l01Finite r6 H6 fun (r7 : Bool) (H7 : AHeap) => Br (!r7) (R .ret [.slice list_a list_n list_e, .float .f32 noise, undef, undef, .float .f32 0, .float .f32 0, .bool false, .float .f32 best, .float .f32 least, .int .i64 t28, .float .f32 r5, .float .f32 r6, .slice list_a list_n list_e, .bool r1, .bool (!r1), .bool false, .float .f32 noise, .bool r2, .bool (!r2), .bool (!r2), .slice list_a list_n list_e, .float .f32 noise, .float .f32 r3, .float .f32 r3, .bool r4, .bool (!r4), .slice list_a list_n list_e, .int .i64 (list_n : Int), .int .i64 t28, .bool (decide ((t28 : Int) < (list_n : Int))), .int .i64 t28, .slice list_a list_n list_e, .int .i64 t28, .pointer (some ⟨b1, f1 + (t28 : Int).toNat * 1, none⟩), .float .f32 x1, .float .f32 r5, .slice list_a list_n list_e, .float .f32 noise, .float .f32 r5, .float .f32 r6, .float .f32 r6, .bool r7, .bool (!r7), g43, g44, g45, g46, g47, g48, undef, undef] H7) (Br (flt .f32 r6 least) (R .normal [.slice list_a list_n list_e, .float .f32 noise, undef, undef, .float .f32 t4, .float .f32 t5, .bool t6, .float .f32 r5, .float .f32 r6, .int .i64 t28, .float .f32 r5, .float .f32 r6, .slice list_a list_n list_e, .bool r1, .bool (!r1), .bool false, .float .f32 noise, .bool r2, .bool (!r2), .bool (!r2), .slice list_a list_n list_e, .float .f32 noise, .float .f32 r3, .float .f32 r3, .bool r4, .bool (!r4), .slice list_a list_n list_e, .int .i64 (list_n : Int), .int .i64 (IntKind.wrap .i64 (t28 + 1)), .bool (decide ((t28 : Int) < (list_n : Int))), .int .i64 t28, .slice list_a list_n list_e, .int .i64 t28, .pointer (some ⟨b1, f1 + (t28 : Int).toNat * 1, none⟩), .float .f32 x1, .float .f32 r5, .slice list_a list_n list_e, .float .f32 noise, .float .f32 r5, .float .f32 r6, .float .f32 r6, .bool r7, .bool (!r7), .float .f32 r6, .float .f32 least, .bool (flt .f32 r6 least), .float .f32 r5, .float .f32 r6, .int .i64 (IntKind.wrap .i64 (t28 + 1)), undef, undef] H7) (R .normal [.slice list_a list_n list_e, .float .f32 noise, undef, undef, .float .f32 t4, .float .f32 t5, .bool t6, .float .f32 best, .float .f32 least, .int .i64 t28, .float .f32 r5, .float .f32 r6, .slice list_a list_n list_e, .bool r1, .bool (!r1), .bool false, .float .f32 noise, .bool r2, .bool (!r2), .bool (!r2), .slice list_a list_n list_e, .float .f32 noise, .float .f32 r3, .float .f32 r3, .bool r4, .bool (!r4), .slice list_a list_n list_e, .int .i64 (list_n : Int), .int .i64 (IntKind.wrap .i64 (t28 + 1)), .bool (decide ((t28 : Int) < (list_n : Int))), .int .i64 t28, .slice list_a list_n list_e, .int .i64 t28, .pointer (some ⟨b1, f1 + (t28 : Int).toNat * 1, none⟩), .float .f32 x1, .float .f32 r5, .slice list_a list_n list_e, .float .f32 noise, .float .f32 r5, .float .f32 r6, .float .f32 r6, .bool r7, .bool (!r7), .float .f32 r6, .float .f32 least, .bool (flt .f32 r6 least), g46, g47, .int .i64 (IntKind.wrap .i64 (t28 + 1)), undef, undef] H7))) (R (.exit 0) [.slice list_a list_n list_e, .float .f32 noise, undef, undef, .float .f32 t4, .float .f32 t5, .bool t6, .float .f32 best, .float .f32 least, g9, g10, g11, .slice list_a list_n list_e, .bool r1, .bool (!r1), .bool false, .float .f32 noise, .bool r2, .bool (!r2), .bool (!r2), .slice list_a list_n list_e, .float .f32 noise, .float .f32 r3, .float .f32 r3, .bool r4, .bool (!r4), .slice list_a list_n list_e, .int .i64 (list_n : Int), .int .i64 t28, .bool (decide ((t28 : Int) < (list_n : Int))), g30, g31, g32, g33, g34, g35, g36, g37, g38, g39, g40, g41, g42, g43, g44, g45, g46, g47, g48, undef, undef] H)) := by kernel_rfl
def spec_BestLimit_I1 (list_a : Option Addr) (list_e : Nat) (list_n : Nat) (noise : Nat) (r1 : Bool) (r2 : Bool) (r3 : Nat) (r4 : Bool) (Inv : Nat → Nat → Nat → Bool → Nat → Nat → Int → AHeap → Prop) : Nat → List Value → AHeap → Prop := fun μ tm H => ∃ (t4 : Nat), ∃ (t5 : Nat), ∃ (t6 : Bool), ∃ (best : Nat), ∃ (least : Nat), ∃ (t28 : Int), ∃ g9 g10 g11 g29 g30 g31 g32 g33 g34 g35 g36 g37 g38 g39 g40 g41 g42 g43 g44 g45 g46 g47 g48, tm = [.slice list_a list_n list_e, .float .f32 noise, undef, undef, .float .f32 t4, .float .f32 t5, .bool t6, .float .f32 best, .float .f32 least, g9, g10, g11, .slice list_a list_n list_e, .bool r1, .bool (!r1), .bool false, .float .f32 noise, .bool r2, .bool (!r2), .bool (!r2), .slice list_a list_n list_e, .float .f32 noise, .float .f32 r3, .float .f32 r3, .bool r4, .bool (!r4), .slice list_a list_n list_e, .int .i64 (list_n : Int), .int .i64 t28, g29, g30, g31, g32, g33, g34, g35, g36, g37, g38, g39, g40, g41, g42, g43, g44, g45, g46, g47, g48, undef, undef] ∧ Inv μ t4 t5 t6 best least t28 H
theorem spec_BestLimit_L1 (list_a : Option Addr) (list_e : Nat) (list_n : Nat) (noise : Nat) (r1 : Bool) (r2 : Bool) (r3 : Nat) (r4 : Bool) {Q : Post} (Inv : Nat → Nat → Nat → Bool → Nat → Nat → Int → AHeap → Prop) (ν : Nat) (t4 : Nat) (t5 : Nat) (t6 : Bool) (best : Nat) (least : Nat) (t28 : Int) (g9 g10 g11 g29 g30 g31 g32 g33 g34 g35 g36 g37 g38 g39 g40 g41 g42 g43 g44 g45 g46 g47 g48 : Value) (H : AHeap) (h0 : Inv ν t4 t5 t6 best least t28 H)
    (hs : ∀ (μ : Nat) (t4 : Nat) (t5 : Nat) (t6 : Bool) (best : Nat) (least : Nat) (t28 : Int) (g9 g10 g11 g29 g30 g31 g32 g33 g34 g35 g36 g37 g38 g39 g40 g41 g42 g43 g44 g45 g46 g47 g48 : Value) (H : AHeap), Inv μ t4 t5 t6 best least t28 H → exK Try.prog E_spec_BestLimit (cl (cl (cr (cl (cr (cr (cr (cr (cr (bodyC Try.f46)))))))))) [.slice list_a list_n list_e, .float .f32 noise, undef, undef, .float .f32 t4, .float .f32 t5, .bool t6, .float .f32 best, .float .f32 least, g9, g10, g11, .slice list_a list_n list_e, .bool r1, .bool (!r1), .bool false, .float .f32 noise, .bool r2, .bool (!r2), .bool (!r2), .slice list_a list_n list_e, .float .f32 noise, .float .f32 r3, .float .f32 r3, .bool r4, .bool (!r4), .slice list_a list_n list_e, .int .i64 (list_n : Int), .int .i64 t28, g29, g30, g31, g32, g33, g34, g35, g36, g37, g38, g39, g40, g41, g42, g43, g44, g45, g46, g47, g48, undef, undef] H (loopQ (spec_BestLimit_I1 list_a list_e list_n noise r1 r2 r3 r4 Inv) μ Q)) : loopK (exK Try.prog E_spec_BestLimit (cl (cl (cr (cl (cr (cr (cr (cr (cr (bodyC Try.f46))))))))))) [.slice list_a list_n list_e, .float .f32 noise, undef, undef, .float .f32 t4, .float .f32 t5, .bool t6, .float .f32 best, .float .f32 least, g9, g10, g11, .slice list_a list_n list_e, .bool r1, .bool (!r1), .bool false, .float .f32 noise, .bool r2, .bool (!r2), .bool (!r2), .slice list_a list_n list_e, .float .f32 noise, .float .f32 r3, .float .f32 r3, .bool r4, .bool (!r4), .slice list_a list_n list_e, .int .i64 (list_n : Int), .int .i64 t28, g29, g30, g31, g32, g33, g34, g35, g36, g37, g38, g39, g40, g41, g42, g43, g44, g45, g46, g47, g48, undef, undef] H Q :=
  ⟨spec_BestLimit_I1 list_a list_e list_n noise r1 r2 r3 r4 Inv, ν, ⟨t4, t5, t6, best, least, t28, g9, g10, g11, g29, g30, g31, g32, g33, g34, g35, g36, g37, g38, g39, g40, g41, g42, g43, g44, g45, g46, g47, g48, rfl, h0⟩, fun μ tm H h => by obtain ⟨t4, t5, t6, best, least, t28, g9, g10, g11, g29, g30, g31, g32, g33, g34, g35, g36, g37, g38, g39, g40, g41, g42, g43, g44, g45, g46, g47, g48, rfl, hI⟩ := h; exact hs μ t4 t5 t6 best least t28 g9 g10 g11 g29 g30 g31 g32 g33 g34 g35 g36 g37 g38 g39 g40 g41 g42 g43 g44 g45 g46 g47 g48 H hI⟩
theorem spec_BestLimit_n1 {list_a : Option Addr} {list_e : Nat} {list_n : Nat} {noise : Nat} {r1 : Bool} {r2 : Bool} {r3 : Nat} {r4 : Bool} {Q : Post} {Inv : Nat → Nat → Nat → Bool → Nat → Nat → Int → AHeap → Prop} {μ : Nat} (μ' : Nat) {t4 : Nat} {t5 : Nat} {t6 : Bool} {best : Nat} {least : Nat} {t28 : Int} {g9 g10 g11 g29 g30 g31 g32 g33 g34 g35 g36 g37 g38 g39 g40 g41 g42 g43 g44 g45 g46 g47 g48 : Value} {H : AHeap} (hm : μ' < μ) (hI : Inv μ' t4 t5 t6 best least t28 H) : loopQ (spec_BestLimit_I1 list_a list_e list_n noise r1 r2 r3 r4 Inv) μ Q .normal [.slice list_a list_n list_e, .float .f32 noise, undef, undef, .float .f32 t4, .float .f32 t5, .bool t6, .float .f32 best, .float .f32 least, g9, g10, g11, .slice list_a list_n list_e, .bool r1, .bool (!r1), .bool false, .float .f32 noise, .bool r2, .bool (!r2), .bool (!r2), .slice list_a list_n list_e, .float .f32 noise, .float .f32 r3, .float .f32 r3, .bool r4, .bool (!r4), .slice list_a list_n list_e, .int .i64 (list_n : Int), .int .i64 t28, g29, g30, g31, g32, g33, g34, g35, g36, g37, g38, g39, g40, g41, g42, g43, g44, g45, g46, g47, g48, undef, undef] H := ⟨μ', hm, t4, t5, t6, best, least, t28, g9, g10, g11, g29, g30, g31, g32, g33, g34, g35, g36, g37, g38, g39, g40, g41, g42, g43, g44, g45, g46, g47, g48, rfl, hI⟩
theorem spec_BestLimit_x1_0 (list_a : Option Addr) (list_e : Nat) (list_n : Nat) (noise : Nat) (r1 : Bool) (r2 : Bool) (r3 : Nat) (r4 : Bool) (t4 : Nat) (t5 : Nat) (t6 : Bool) (best : Nat) (least : Nat) (t28 : Int) (g9 g10 g11 g29 g30 g31 g32 g33 g34 g35 g36 g37 g38 g39 g40 g41 g42 g43 g44 g45 g46 g47 g48 : Value) (H : AHeap) (K : Value → AHeap → Prop)  {I : Nat → List Value → AHeap → Prop} {μ : Nat} : loopQ I μ (blockQ 0 (seqQ (exK Try.prog E_spec_BestLimit (cr (cr (cr (cr (cr (cr (bodyC Try.f46)))))))) (retK Try.prog Try.f46 K))) (.exit 0) [.slice list_a list_n list_e, .float .f32 noise, undef, undef, .float .f32 t4, .float .f32 t5, .bool t6, .float .f32 best, .float .f32 least, g9, g10, g11, .slice list_a list_n list_e, .bool r1, .bool (!r1), .bool false, .float .f32 noise, .bool r2, .bool (!r2), .bool (!r2), .slice list_a list_n list_e, .float .f32 noise, .float .f32 r3, .float .f32 r3, .bool r4, .bool (!r4), .slice list_a list_n list_e, .int .i64 (list_n : Int), .int .i64 t28, g29, g30, g31, g32, g33, g34, g35, g36, g37, g38, g39, g40, g41, g42, g43, g44, g45, g46, g47, g48, undef, undef] H =
  (K (.tuple #[.float .f32 best, .float .f32 least, .bool true]) H) := by kernel_rfl
theorem spec_BestLimit_x1_ret (list_a : Option Addr) (list_e : Nat) (list_n : Nat) (noise : Nat) (r1 : Bool) (r2 : Bool) (r3 : Nat) (r4 : Bool) (t4 : Nat) (t5 : Nat) (t6 : Bool) (best : Nat) (least : Nat) (t28 : Int) (g9 g10 g11 g29 g30 g31 g32 g33 g34 g35 g36 g37 g38 g39 g40 g41 g42 g43 g44 g45 g46 g47 g48 : Value) (H : AHeap) (K : Value → AHeap → Prop)  {I : Nat → List Value → AHeap → Prop} {μ : Nat} : loopQ I μ (blockQ 0 (seqQ (exK Try.prog E_spec_BestLimit (cr (cr (cr (cr (cr (cr (bodyC Try.f46)))))))) (retK Try.prog Try.f46 K))) .ret [.slice list_a list_n list_e, .float .f32 noise, undef, undef, .float .f32 t4, .float .f32 t5, .bool t6, .float .f32 best, .float .f32 least, g9, g10, g11, .slice list_a list_n list_e, .bool r1, .bool (!r1), .bool false, .float .f32 noise, .bool r2, .bool (!r2), .bool (!r2), .slice list_a list_n list_e, .float .f32 noise, .float .f32 r3, .float .f32 r3, .bool r4, .bool (!r4), .slice list_a list_n list_e, .int .i64 (list_n : Int), .int .i64 t28, g29, g30, g31, g32, g33, g34, g35, g36, g37, g38, g39, g40, g41, g42, g43, g44, g45, g46, g47, g48, undef, undef] H =
  (K (.tuple #[.float .f32 t4, .float .f32 t5, .bool t6]) H) := by kernel_rfl
theorem E_spec_BestLimit_ok : ∀ g, FnOk Try.prog g (E_spec_BestLimit g) := FnOk.envOf (by
  intro x hx
  simp only [List.mem_cons, List.not_mem_nil, or_false] at hx
  rcases hx with rfl | rfl | rfl | rfl | rfl
  · exact spec_l03Long_ok
  · exact spec_l02Above_ok
  · exact spec_l05Risk_ok
  · exact spec_l01Finite_ok
  · exact spec_l03Size_ok)
set_option maxHeartbeats 1000000 in
theorem spec_BestLimit_main (list_a : Option Addr) (list_n : Nat) (list_e : Nat) (noise : Nat) (H : AHeap) (K : Value → AHeap → Prop) (h : T_spec_BestLimit list_a list_n list_e noise H fun (r1 : Nat) (r2 : Nat) (r3 : Bool) (H' : AHeap) => K (.tuple #[.float .f32 r1, .float .f32 r2, .bool r3]) H') : bodyK Try.prog E_spec_BestLimit Try.f46 [.slice list_a list_n list_e, .float .f32 noise] H K := by
  rw [spec_BestLimit_vc]
  obtain ⟨l_list, i_list, bd_13, hk⟩ := h
  obtain rfl := i_list.eqn
  have e : (p_spec_BestLimit l_list noise) = _ := rfl
  have e := e.trans (p_spec_BestLimit_eq l_list noise)
  have g0 := Grow.refl H
  refine T_spec_l03Long_i ⟨_, (i_list.grow g0), (by first | omega | (simp only [List.length_set, List.length_replicate, List.length_append, List.length_cons, List.length_nil, List.length_take, List.length_drop, marks_length]; done) | (simp only [List.length_set, List.length_replicate, List.length_append, List.length_cons, List.length_nil, List.length_take, List.length_drop, marks_length]; omega)), ?_⟩
  refine Br.intro (fun c_1 => ?_) (fun c_1 => ?_)
  · have e := e.trans (cond_t c_1)
    have c_1n := nf_of_t c_1
    rw [e] at hk
    exact hk
  · have e := e.trans (cond_f c_1)
    have c_1n := nt_of_f c_1
    refine T_spec_l02Above_i ?_
    refine Br.intro (fun c_2 => ?_) (fun c_2 => ?_)
    · have e := e.trans (cond_t c_2)
      have c_2n := nf_of_t c_2
      rw [e] at hk
      exact hk
    · have e := e.trans (cond_f c_2)
      have c_2n := nt_of_f c_2
      refine T_spec_l05Risk_i ⟨_, (i_list.grow g0), (by first | omega | (simp only [List.length_set, List.length_replicate, List.length_append, List.length_cons, List.length_nil, List.length_take, List.length_drop, marks_length]; done) | (simp only [List.length_set, List.length_replicate, List.length_append, List.length_cons, List.length_nil, List.length_take, List.length_drop, marks_length]; omega)), ?_⟩
      refine T_spec_l01Finite_i ?_
      refine Br.intro (fun c_3 => ?_) (fun c_3 => ?_)
      · have e := e.trans (cond_t c_3)
        have c_3n := nf_of_t c_3
        rw [e] at hk
        exact hk
      · have e := e.trans (cond_f c_3)
        have c_3n := nt_of_f c_3
        refine spec_BestLimit_L1 _ _ _ _ _ _ _ _ (fun (μ : Nat) (t4 : Nat) (t5 : Nat) (t6 : Bool) (best : Nat) (least : Nat) (t28 : Int) (H_1 : AHeap) => H = H_1 ∧ (0 : Int) ≤ t28 ∧ t28 ≤ (l_list.length : Int) ∧ (l_list.length : Int) - t28 ≤ (μ : Int) ∧ p_spec_BestLimit l_list noise = p_spec_BestLimit_l1 l_list noise (μ + 1) t4 t5 t6 best least t28) (Int.toNat ((l_list.length : Int) - (0 : Int))) _ _ _ _ _ _ _ _ _ _ _ _ _ _ _ _ _ _ _ _ _ _ _ _ _ _ _ _ _ H ?_ ?_
        · exact ⟨rfl, (by first | omega | (simp; done) | (simp; omega)), (by first | omega | (simp; done) | (simp; omega)), (by omega), e⟩
        · intro μ t4 t5 t6 best least t28 g9 g10 g11 g29 g30 g31 g32 g33 g34 g35 g36 g37 g38 g39 g40 g41 g42 g43 g44 g45 g46 g47 g48 H_1 hI
          obtain ⟨rfl, v_4, v_5, hμ, e⟩ := hI
          rw [spec_BestLimit_r1]
          have e := e.trans (p_spec_BestLimit_l1_s l_list noise μ t4 t5 t6 best least t28)
          have l_6 := g0.1
          refine Br.intro (fun c_7 => ?_) (fun c_7 => ?_)
          · have e := e.trans (cond_t c_7)
            have c_7' := of_decide_eq_true c_7
            obtain ⟨b_8, f_9, q_10⟩ := ((i_list.grow g0)).pos (by first | omega | (simp only [List.length_set, List.length_replicate, List.length_append, List.length_cons, List.length_nil, List.length_take, List.length_drop, marks_length]; done) | (simp only [List.length_set, List.length_replicate, List.length_append, List.length_cons, List.length_nil, List.length_take, List.length_drop, marks_length]; omega))
            refine ⟨by omega, by omega, b_8, f_9, q_10, ?_⟩
            refine ⟨((l_list).getD (t28 : Int).toNat 0), (i_list).rd g0 q_10 (by omega) _, ?_⟩
            refine T_spec_l03Size_i ?_
            refine T_spec_l05Risk_i ⟨_, (i_list.grow g0), (by first | omega | (simp only [List.length_set, List.length_replicate, List.length_append, List.length_cons, List.length_nil, List.length_take, List.length_drop, marks_length]; done) | (simp only [List.length_set, List.length_replicate, List.length_append, List.length_cons, List.length_nil, List.length_take, List.length_drop, marks_length]; omega)), ?_⟩
            refine T_spec_l01Finite_i ?_
            refine Br.intro (fun c_11 => ?_) (fun c_11 => ?_)
            · have e := e.trans (cond_t c_11)
              have c_11n := nf_of_t c_11
              rw [spec_BestLimit_x1_ret]
              rw [e] at hk
              exact hk
            · have e := e.trans (cond_f c_11)
              have c_11n := nt_of_f c_11
              refine Br.intro (fun c_12 => ?_) (fun c_12 => ?_)
              · have e := e.trans (cond_t c_12)
                rw [show IntKind.wrap .i64 (t28 + 1) = (t28 + 1) from wrap64 (by omega) (by omega)]
                refine spec_BestLimit_n1 (μ - 1) (by omega) ⟨rfl, (by first | omega | (simp only [List.length_append, List.length_cons, List.length_nil, List.length_set]; done) | (simp only [List.length_append, List.length_cons, List.length_nil, List.length_set]; omega)), (by first | omega | (simp only [List.length_append, List.length_cons, List.length_nil, List.length_set]; done) | (simp only [List.length_append, List.length_cons, List.length_nil, List.length_set]; omega)), (by omega), (by rw [show μ - 1 + 1 = μ from by omega]; exact e)⟩
              · have e := e.trans (cond_f c_12)
                rw [show IntKind.wrap .i64 (t28 + 1) = (t28 + 1) from wrap64 (by omega) (by omega)]
                refine spec_BestLimit_n1 (μ - 1) (by omega) ⟨rfl, (by first | omega | (simp only [List.length_append, List.length_cons, List.length_nil, List.length_set]; done) | (simp only [List.length_append, List.length_cons, List.length_nil, List.length_set]; omega)), (by first | omega | (simp only [List.length_append, List.length_cons, List.length_nil, List.length_set]; done) | (simp only [List.length_append, List.length_cons, List.length_nil, List.length_set]; omega)), (by omega), (by rw [show μ - 1 + 1 = μ from by omega]; exact e)⟩
          · have e := e.trans (cond_f c_7)
            have c_7' := of_decide_eq_false c_7
            rw [spec_BestLimit_x1_0]
            rw [e] at hk
            exact hk
theorem spec_BestLimit_ok : FnOk Try.prog 46 S_spec_BestLimit := by
  refine FnOk.body mix_ok E_spec_BestLimit_ok Try.func46 rfl (by kernel_rfl) (by kernel_rfl) ?_ ?_ ?_ ?_ ?_
  · intro args H K K' h hk
    simp only [S_spec_BestLimit] at *
    unfold F_spec_BestLimit at *
    split at hk
    · obtain ⟨l_list, i_list, bd_13, k⟩ := hk
      exact ⟨l_list, i_list, bd_13, h _ _ k⟩
    · exact hk.elim
  · intro _ args H K hk
    simp only [S_spec_BestLimit] at *
    unfold F_spec_BestLimit at *
    split at hk
    · obtain ⟨l_list, i_list, bd_13, k⟩ := hk
      exact ⟨_, k, fun K' k' => ⟨l_list, i_list, bd_13, k'⟩⟩
    · exact hk.elim
  · intro args H K hk
    simp only [S_spec_BestLimit] at *
    unfold F_spec_BestLimit at *
    split at hk
    · obtain ⟨l_list, i_list, bd_13, k⟩ := hk
      exact ⟨_, _, k⟩
    · exact hk.elim
  · intro hq; cases hq
  · have mm := @spec_BestLimit_main
    revert mm
    generalize bodyK Try.prog E_spec_BestLimit Try.f46 = Q
    intro mm args H K hk
    simp only [S_spec_BestLimit] at *
    unfold F_spec_BestLimit at *
    split at hk
    · exact mm _ _ _ _ H K hk
    · exact hk.elim
def p_impl_size (x : Nat) : Nat := (bif flt .f32 x 0 then fneg .f32 x else (bif feq .f32 x 0 then 0 else x))
theorem p_impl_size_eq (x : Nat) : p_impl_size x = (bif flt .f32 x 0 then fneg .f32 x else (bif feq .f32 x 0 then 0 else x)) := rfl
def T_impl_size (x : Nat) (H : AHeap) (K : Nat → AHeap → Prop) : Prop := K (p_impl_size x) H

theorem T_impl_size_i {x : Nat} {H : AHeap} {K : Nat → AHeap → Prop} (h : K (p_impl_size x) H) : T_impl_size x H K := h
/-! impl_size: function 72 -/
def E_impl_size : Env := envOf []
def F_impl_size : List Value → AHeap → (Value → AHeap → Prop) → Prop
  | [.float .f32 x], H, K => T_impl_size x H fun (r1 : Nat) (H' : AHeap) => K (.float .f32 r1) H'
  | _, _, _ => False
def S_impl_size : FSpec := { F := F_impl_size, quiet := true, tame := false }
theorem impl_size_vc (x : Nat) (H : AHeap) (K : Value → AHeap → Prop) : bodyK Try.prog E_impl_size Try.f72 [.float .f32 x] H K =
  (Br (flt .f32 x 0) (K (.float .f32 (fneg .f32 x)) H) (Br (feq .f32 x 0) (K (.float .f32 0) H) (K (.float .f32 x) H))) := by kernel_rfl
theorem E_impl_size_ok : ∀ g, FnOk Try.prog g (E_impl_size g) := FnOk.envOf (by
  intro x hx; cases hx)
set_option maxHeartbeats 1000000 in
theorem impl_size_main (x : Nat) (H : AHeap) (K : Value → AHeap → Prop) (h : T_impl_size x H fun (r1 : Nat) (H' : AHeap) => K (.float .f32 r1) H') : bodyK Try.prog E_impl_size Try.f72 [.float .f32 x] H K := by
  rw [impl_size_vc]
  unfold T_impl_size p_impl_size at h
  repeat' (first | exact h | (exfalso; simp_all; done) | (refine ⟨by decide, ?_⟩) | (refine Br.intro (fun hb => ?_) (fun hb => ?_) <;> (try simp only [hb, cond_true, cond_false, Bool.not_true, Bool.not_false] at h)))
theorem impl_size_ok : FnOk Try.prog 72 S_impl_size := by
  refine FnOk.body mix_ok E_impl_size_ok Try.func72 rfl (by kernel_rfl) (by kernel_rfl) ?_ ?_ ?_ ?_ ?_
  · intro args H K K' h hk
    simp only [S_impl_size] at *
    unfold F_impl_size at *
    split at hk
    · have k := hk
      exact h _ _ k
    · exact hk.elim
  · intro _ args H K hk
    simp only [S_impl_size] at *
    unfold F_impl_size at *
    split at hk
    · have k := hk
      exact ⟨_, k, fun K' k' => k'⟩
    · exact hk.elim
  · intro args H K hk
    simp only [S_impl_size] at *
    unfold F_impl_size at *
    split at hk
    · have k := hk
      exact ⟨_, _, k⟩
    · exact hk.elim
  · intro hq; cases hq
  · have mm := @impl_size_main
    revert mm
    generalize bodyK Try.prog E_impl_size Try.f72 = Q
    intro mm args H K hk
    simp only [S_impl_size] at *
    unfold F_impl_size at *
    split at hk
    · exact mm _ H K hk
    · exact hk.elim
def p_impl_sizes_l1 (l_list : List Nat) : Nat → (List Nat) → Int → (List Nat)
  | 0, _, _ => []
  | μ + 1, l_vout, t9 => (bif decide ((t9 : Int) < (l_list.length : Int)) then (p_impl_sizes_l1 l_list μ ((l_vout ++ [((p_impl_size (((l_list).getD (t9 : Int).toNat 0))))])) (t9 + 1)) else l_vout)
theorem p_impl_sizes_l1_s (l_list : List Nat) (μ : Nat) (l_vout : List Nat) (t9 : Int) : p_impl_sizes_l1 l_list (μ + 1) l_vout t9 = (bif decide ((t9 : Int) < (l_list.length : Int)) then (p_impl_sizes_l1 l_list μ ((l_vout ++ [((p_impl_size (((l_list).getD (t9 : Int).toNat 0))))])) (t9 + 1)) else l_vout) := rfl
def p_impl_sizes (l_list : List Nat) : (List Nat) := (p_impl_sizes_l1 l_list (Int.toNat ((l_list.length : Int) - (0 : Int)) + 1) ([] : List Nat) (0 : Int))
theorem p_impl_sizes_eq (l_list : List Nat) : p_impl_sizes l_list = (p_impl_sizes_l1 l_list (Int.toNat ((l_list.length : Int) - (0 : Int)) + 1) ([] : List Nat) (0 : Int)) := rfl
def T_impl_sizes (list_a : Option Addr) (list_n : Nat) (list_e : Nat) (H : AHeap) (K : (Option Addr) → Nat → Nat → AHeap → Prop) : Prop := ∃ (l_list : List Nat), IsL fF H list_a list_n l_list ∧ l_list.length < 1073741824 ∧ ((∀ (r1_a : Option Addr) (r1_n r1_e : Nat), ∀ H' : AHeap, Grow H H' → OwnS fF H' H.length r1_a r1_n r1_e (p_impl_sizes l_list) → K r1_a r1_n r1_e H'))
theorem T_impl_sizes_i {list_a : Option Addr} {list_n : Nat} {list_e : Nat} {H : AHeap} {K : (Option Addr) → Nat → Nat → AHeap → Prop} (h : ∃ (l_list : List Nat), IsL fF H list_a list_n l_list ∧ l_list.length < 1073741824 ∧ ((∀ (r1_a : Option Addr) (r1_n r1_e : Nat), ∀ H' : AHeap, Grow H H' → OwnS fF H' H.length r1_a r1_n r1_e (p_impl_sizes l_list) → K r1_a r1_n r1_e H'))) : T_impl_sizes list_a list_n list_e H K := h
theorem impl_sizes_go (l : List Nat) : ∀ (μ : Nat) (o : List Nat) (i : Nat), l.length - i < μ → p_impl_sizes_l1 l μ o (i : Int) = o ++ (l.drop i).map p_impl_size := by
  intro μ
  induction μ with
  | zero => intro o i h; omega
  | succ μ ih =>
    intro o i hm
    rw [p_impl_sizes_l1_s]
    by_cases h : i < l.length
    · rw [decide_eq_true (show (i : Int) < (l.length : Int) by omega), cond_true, Int.toNat_natCast]
      refine Eq.trans (ih _ (i + 1) (by omega)) ?_
      rw [List.drop_eq_getElem_cons h, List.map_cons, List.getD_eq_getElem?_getD, List.getElem?_eq_getElem h]
      simp
    · rw [decide_eq_false (show ¬ (i : Int) < (l.length : Int) by omega), cond_false, List.drop_eq_nil_of_le (by omega)]; simp
theorem impl_sizes_map (l : List Nat) : p_impl_sizes l = l.map p_impl_size := by
  rw [p_impl_sizes_eq]
  have := impl_sizes_go l (Int.toNat ((l.length : Int) - (0 : Int)) + 1) [] 0 (by omega)
  simpa using this
theorem impl_sizes_len (l : List Nat) : (p_impl_sizes l).length = l.length := by rw [impl_sizes_map]; simp
/-! impl_sizes: function 79 -/
def E_impl_sizes : Env := envOf [(72, S_impl_size)]
def F_impl_sizes : List Value → AHeap → (Value → AHeap → Prop) → Prop
  | [.slice list_a list_n list_e], H, K => T_impl_sizes list_a list_n list_e H fun (r1_a : Option Addr) (r1_n : Nat) (r1_e : Nat) (H' : AHeap) => K (.slice r1_a r1_n r1_e) H'
  | _, _, _ => False
def S_impl_sizes : FSpec := { F := F_impl_sizes, quiet := false, tame := true }
theorem impl_sizes_vc (list_a : Option Addr) (list_n : Nat) (list_e : Nat) (H : AHeap) (K : Value → AHeap → Prop) : bodyK Try.prog E_impl_sizes Try.f79 [.slice list_a list_n list_e] H K =
  (Al [] H fun b1 H1 => loopK (exK Try.prog E_impl_sizes (cl (cl (cr (cl (cr (cr (bodyC Try.f79)))))))) [.slice list_a list_n list_e, undef, .slice none 0 0, .slice (some ⟨b1, 0, none⟩) 0 1, undef, undef, .slice (some ⟨b1, 0, none⟩) 0 1, .slice list_a list_n list_e, .int .i64 (list_n : Int), .int .i64 0, undef, undef, undef, undef, undef, undef, undef, undef, undef, undef] H1 (blockQ 0 (seqQ (exK Try.prog E_impl_sizes (cr (cr (cr (bodyC Try.f79))))) (retK Try.prog Try.f79 K)))) := by kernel_rfl
theorem impl_sizes_r1 (b1 : Nat) (list_a : Option Addr) (list_e : Nat) (list_n : Nat) (vout_a : Option Addr) (vout_n : Nat) (vout_e : Nat) (t9 : Int) (g5 g10 g11 g12 g13 g14 g15 g16 g17 g18 : Value) (H : AHeap) (R : Post) : exK Try.prog E_impl_sizes (cl (cl (cr (cl (cr (cr (bodyC Try.f79))))))) [.slice list_a list_n list_e, undef, .slice none 0 0, .slice vout_a vout_n vout_e, undef, g5, .slice (some ⟨b1, 0, none⟩) 0 1, .slice list_a list_n list_e, .int .i64 (list_n : Int), .int .i64 t9, g10, g11, g12, g13, g14, g15, g16, g17, g18, undef] H R =
  (Br (decide ((t9 : Int) < (list_n : Int))) ((0 : Int) ≤ t9 ∧ t9 < (list_n : Int) ∧ ∃ b2 f1, (list_a : Option Addr) = some ⟨b2, f1, none⟩ ∧ ∃ x1 : Nat,  rdC H b2 (f1 + (t9 : Int).toNat * 1) = some (.float .f32 x1) ∧ T_impl_size x1 H fun (r1 : Nat) (H2 : AHeap) => Al [.float .f32 r1] H2 fun b3 H3 => ∃ o1 w1 : List Value, ownB H3 vout_a vout_n vout_e 1 = some o1 ∧ rdS H3 (some ⟨b3, 0, none⟩) (1 * 1) = some w1 ∧ ((vout_a : Option Addr) = none → 0 < (1 : Nat)) ∧ (vout_n : Nat) + 1 < most ∧ Ap H3 (killB H3 vout_a ++ [some ⟨o1 ++ w1, true⟩]) fun b4 H4 => R .normal [.slice list_a list_n list_e, undef, .slice none 0 0, .slice (some ⟨b4, 0, none⟩) (vout_n + 1) 1, undef, .float .f32 x1, .slice (some ⟨b1, 0, none⟩) 0 1, .slice list_a list_n list_e, .int .i64 (list_n : Int), .int .i64 (IntKind.wrap .i64 (t9 + 1)), .bool (decide ((t9 : Int) < (list_n : Int))), .pointer (some ⟨b2, f1 + (t9 : Int).toNat * 1, none⟩), .float .f32 x1, .slice vout_a vout_n vout_e, .float .f32 x1, .float .f32 r1, .slice (some ⟨b3, 0, none⟩) 1 1, .slice (some ⟨b4, 0, none⟩) (vout_n + 1) 1, .int .i64 (IntKind.wrap .i64 (t9 + 1)), undef] H4) (R (.exit 0) [.slice list_a list_n list_e, undef, .slice none 0 0, .slice vout_a vout_n vout_e, undef, g5, .slice (some ⟨b1, 0, none⟩) 0 1, .slice list_a list_n list_e, .int .i64 (list_n : Int), .int .i64 t9, .bool (decide ((t9 : Int) < (list_n : Int))), g11, g12, g13, g14, g15, g16, g17, g18, undef] H)) := by kernel_rfl
def impl_sizes_I1 (b1 : Nat) (list_a : Option Addr) (list_e : Nat) (list_n : Nat) (Inv : Nat → (Option Addr) → Nat → Nat → Int → AHeap → Prop) : Nat → List Value → AHeap → Prop := fun μ tm H => ∃ (vout_a : Option Addr), ∃ (vout_n : Nat), ∃ (vout_e : Nat), ∃ (t9 : Int), ∃ g5 g10 g11 g12 g13 g14 g15 g16 g17 g18, tm = [.slice list_a list_n list_e, undef, .slice none 0 0, .slice vout_a vout_n vout_e, undef, g5, .slice (some ⟨b1, 0, none⟩) 0 1, .slice list_a list_n list_e, .int .i64 (list_n : Int), .int .i64 t9, g10, g11, g12, g13, g14, g15, g16, g17, g18, undef] ∧ Inv μ vout_a vout_n vout_e t9 H
theorem impl_sizes_L1 (b1 : Nat) (list_a : Option Addr) (list_e : Nat) (list_n : Nat) {Q : Post} (Inv : Nat → (Option Addr) → Nat → Nat → Int → AHeap → Prop) (ν : Nat) (vout_a : Option Addr) (vout_n : Nat) (vout_e : Nat) (t9 : Int) (g5 g10 g11 g12 g13 g14 g15 g16 g17 g18 : Value) (H : AHeap) (h0 : Inv ν vout_a vout_n vout_e t9 H)
    (hs : ∀ (μ : Nat) (vout_a : Option Addr) (vout_n : Nat) (vout_e : Nat) (t9 : Int) (g5 g10 g11 g12 g13 g14 g15 g16 g17 g18 : Value) (H : AHeap), Inv μ vout_a vout_n vout_e t9 H → exK Try.prog E_impl_sizes (cl (cl (cr (cl (cr (cr (bodyC Try.f79))))))) [.slice list_a list_n list_e, undef, .slice none 0 0, .slice vout_a vout_n vout_e, undef, g5, .slice (some ⟨b1, 0, none⟩) 0 1, .slice list_a list_n list_e, .int .i64 (list_n : Int), .int .i64 t9, g10, g11, g12, g13, g14, g15, g16, g17, g18, undef] H (loopQ (impl_sizes_I1 b1 list_a list_e list_n Inv) μ Q)) : loopK (exK Try.prog E_impl_sizes (cl (cl (cr (cl (cr (cr (bodyC Try.f79)))))))) [.slice list_a list_n list_e, undef, .slice none 0 0, .slice vout_a vout_n vout_e, undef, g5, .slice (some ⟨b1, 0, none⟩) 0 1, .slice list_a list_n list_e, .int .i64 (list_n : Int), .int .i64 t9, g10, g11, g12, g13, g14, g15, g16, g17, g18, undef] H Q :=
  ⟨impl_sizes_I1 b1 list_a list_e list_n Inv, ν, ⟨vout_a, vout_n, vout_e, t9, g5, g10, g11, g12, g13, g14, g15, g16, g17, g18, rfl, h0⟩, fun μ tm H h => by obtain ⟨vout_a, vout_n, vout_e, t9, g5, g10, g11, g12, g13, g14, g15, g16, g17, g18, rfl, hI⟩ := h; exact hs μ vout_a vout_n vout_e t9 g5 g10 g11 g12 g13 g14 g15 g16 g17 g18 H hI⟩
theorem impl_sizes_n1 {b1 : Nat} {list_a : Option Addr} {list_e : Nat} {list_n : Nat} {Q : Post} {Inv : Nat → (Option Addr) → Nat → Nat → Int → AHeap → Prop} {μ : Nat} (μ' : Nat) {vout_a : Option Addr} {vout_n : Nat} {vout_e : Nat} {t9 : Int} {g5 g10 g11 g12 g13 g14 g15 g16 g17 g18 : Value} {H : AHeap} (hm : μ' < μ) (hI : Inv μ' vout_a vout_n vout_e t9 H) : loopQ (impl_sizes_I1 b1 list_a list_e list_n Inv) μ Q .normal [.slice list_a list_n list_e, undef, .slice none 0 0, .slice vout_a vout_n vout_e, undef, g5, .slice (some ⟨b1, 0, none⟩) 0 1, .slice list_a list_n list_e, .int .i64 (list_n : Int), .int .i64 t9, g10, g11, g12, g13, g14, g15, g16, g17, g18, undef] H := ⟨μ', hm, vout_a, vout_n, vout_e, t9, g5, g10, g11, g12, g13, g14, g15, g16, g17, g18, rfl, hI⟩
theorem impl_sizes_x1_0 (b1 : Nat) (list_a : Option Addr) (list_e : Nat) (list_n : Nat) (vout_a : Option Addr) (vout_n : Nat) (vout_e : Nat) (t9 : Int) (g5 g10 g11 g12 g13 g14 g15 g16 g17 g18 : Value) (H : AHeap) (K : Value → AHeap → Prop)  {I : Nat → List Value → AHeap → Prop} {μ : Nat} : loopQ I μ (blockQ 0 (seqQ (exK Try.prog E_impl_sizes (cr (cr (cr (bodyC Try.f79))))) (retK Try.prog Try.f79 K))) (.exit 0) [.slice list_a list_n list_e, undef, .slice none 0 0, .slice vout_a vout_n vout_e, undef, g5, .slice (some ⟨b1, 0, none⟩) 0 1, .slice list_a list_n list_e, .int .i64 (list_n : Int), .int .i64 t9, g10, g11, g12, g13, g14, g15, g16, g17, g18, undef] H =
  (K (.slice vout_a vout_n vout_e) H) := by kernel_rfl
theorem E_impl_sizes_ok : ∀ g, FnOk Try.prog g (E_impl_sizes g) := FnOk.envOf (by
  intro x hx
  simp only [List.mem_cons, List.not_mem_nil, or_false] at hx
  subst hx; exact impl_size_ok)
set_option maxHeartbeats 1000000 in
theorem impl_sizes_main (list_a : Option Addr) (list_n : Nat) (list_e : Nat) (H : AHeap) (K : Value → AHeap → Prop) (h : T_impl_sizes list_a list_n list_e H fun (r1_a : Option Addr) (r1_n : Nat) (r1_e : Nat) (H' : AHeap) => K (.slice r1_a r1_n r1_e) H') : bodyK Try.prog E_impl_sizes Try.f79 [.slice list_a list_n list_e] H K := by
  rw [impl_sizes_vc]
  obtain ⟨l_list, i_list, bd_48, hk⟩ := h
  obtain rfl := i_list.eqn
  have e : (p_impl_sizes l_list) = _ := rfl
  have e := e.trans (p_impl_sizes_eq l_list)
  have g0 := Grow.refl H
  refine Al.intro (fun b_1 H_1 hb_2 hl_3 g_4 o_5 => ?_)
  have o_5 : Own H_1 b_1 ((([] : List Nat)).map fF) := o_5
  have l_7 := g_4.1
  have g_8 := g0.trans g_4
  have l_9 := g_8.1
  have w_47 := o_5.lt
  refine impl_sizes_L1 _ _ _ _ (fun (μ : Nat) (vout_a : Option Addr) (vout_n : Nat) (vout_e : Nat) (t9 : Int) (H_2 : AHeap) => ∃ (l_vout : List Nat), ∃ (b_10 : Nat), vout_a = some ⟨b_10, 0, none⟩ ∧ vout_n = l_vout.length ∧ vout_e = 1 ∧ Own H_2 b_10 (l_vout.map fF) ∧ Grow H H_2 ∧ H.length ≤ b_10 ∧ (0 : Int) ≤ t9 ∧ t9 ≤ (l_list.length : Int) ∧ (l_vout.length : Int) ≤ t9 - (0 : Int) + 0 ∧ (l_list.length : Int) - t9 ≤ (μ : Int) ∧ p_impl_sizes l_list = p_impl_sizes_l1 l_list (μ + 1) l_vout t9) (Int.toNat ((l_list.length : Int) - (0 : Int))) _ _ _ _ _ _ _ _ _ _ _ _ _ _ H_1 ?_ ?_
  · exact ⟨_, _, rfl, rfl, rfl, o_5, g_8, (by omega), (by first | omega | (simp; done) | (simp; omega)), (by first | omega | (simp; done) | (simp; omega)), (by first | omega | (simp; done) | (simp; omega)), (by omega), e⟩
  · intro μ vout_a vout_n vout_e t9 g5 g10 g11 g12 g13 g14 g15 g16 g17 g18 H_2 hI
    obtain ⟨l_vout, b_10, rfl, rfl, rfl, o_11, g_12, l_13, v_14, v_15, v_16, hμ, e⟩ := hI
    rw [impl_sizes_r1]
    have e := e.trans (p_impl_sizes_l1_s l_list μ l_vout t9)
    have w_17 := o_11.lt
    have l_18 := g_12.1
    refine Br.intro (fun c_19 => ?_) (fun c_19 => ?_)
    · have e := e.trans (cond_t c_19)
      have c_19' := of_decide_eq_true c_19
      obtain ⟨b_20, f_21, q_22⟩ := ((i_list.grow g_12)).pos (by first | omega | (simp only [List.length_set, List.length_replicate, List.length_append, List.length_cons, List.length_nil, List.length_take, List.length_drop, marks_length]; done) | (simp only [List.length_set, List.length_replicate, List.length_append, List.length_cons, List.length_nil, List.length_take, List.length_drop, marks_length]; omega))
      refine ⟨by omega, by omega, b_20, f_21, q_22, ?_⟩
      refine ⟨((l_list).getD (t9 : Int).toNat 0), (i_list).rd g_12 q_22 (by omega) _, ?_⟩
      refine T_impl_size_i ?_
      refine Al.intro (fun b_23 H_3 hb_24 hl_25 g_26 o_27 => ?_)
      have o_27 : Own H_3 b_23 (([((p_impl_size (((l_list).getD (t9 : Int).toNat 0))))]).map fF) := o_27
      have l_29 := g_26.1
      have g_30 := g_12.trans g_26
      have l_31 := g_30.1
      have o_32 := o_11.grow g_26
      have w_33 := o_32.lt
      have w_46 := o_27.lt
      refine ⟨_, _, o_32.ownB (by first | (simp only [List.length_map, List.length_cons, List.length_nil, List.length_append]; done) | (simp only [List.length_map, List.length_cons, List.length_nil, List.length_append]; omega)) rfl, (isl_rdS (o_27.isL rfl)), (fun h => by cases h), (by have := most_eq; omega), ?_⟩
      refine Ap.app o_32 rfl rfl (fun b_38 H_4 q_44 hl_34 o_35 k_36 => ?_)
      have o_35 := map_snoc o_35
      have l_39 := k_36.1
      have g_40 := g_30.keep (b := b_10) (by omega) k_36
      have l_41 := g_40.1
      have o_42 := o_27.keep (by omega) k_36
      have w_43 := o_42.lt
      have w_45 := o_35.lt
      rw [show IntKind.wrap .i64 (t9 + 1) = (t9 + 1) from wrap64 (by omega) (by omega)]
      refine impl_sizes_n1 (μ - 1) (by omega) ⟨_, _, rfl, (by first | (simp only [List.length_append, List.length_cons, List.length_nil]; done) | (simp only [List.length_append, List.length_cons, List.length_nil]; omega)), rfl, o_35, g_40, (by omega), (by first | omega | (simp only [List.length_append, List.length_cons, List.length_nil, List.length_set]; done) | (simp only [List.length_append, List.length_cons, List.length_nil, List.length_set]; omega)), (by first | omega | (simp only [List.length_append, List.length_cons, List.length_nil, List.length_set]; done) | (simp only [List.length_append, List.length_cons, List.length_nil, List.length_set]; omega)), (by first | omega | (simp only [List.length_append, List.length_cons, List.length_nil, List.length_set]; done) | (simp only [List.length_append, List.length_cons, List.length_nil, List.length_set]; omega)), (by omega), (by rw [show μ - 1 + 1 = μ from by omega]; exact e)⟩
    · have e := e.trans (cond_f c_19)
      have c_19' := of_decide_eq_false c_19
      rw [impl_sizes_x1_0]
      rw [e] at hk
      exact hk _ _ _ H_2 g_12 (o_11.ownS rfl (by omega))
theorem impl_sizes_ok : FnOk Try.prog 79 S_impl_sizes := by
  refine FnOk.body mix_ok E_impl_sizes_ok Try.func79 rfl (by kernel_rfl) (by kernel_rfl) ?_ ?_ ?_ ?_ ?_
  · intro args H K K' h hk
    simp only [S_impl_sizes] at *
    unfold F_impl_sizes at *
    split at hk
    · obtain ⟨l_list, i_list, bd_48, k⟩ := hk
      exact ⟨l_list, i_list, bd_48, (fun r1_a r1_n r1_e H' gg ow0 => h _ _ (k r1_a r1_n r1_e H' gg ow0))⟩
    · exact hk.elim
  · intro hq; cases hq
  · intro args H K hk
    simp only [S_impl_sizes] at *
    unfold F_impl_sizes at *
    split at hk
    · obtain ⟨l_list, i_list, bd_48, k⟩ := hk
      exact liveS fun a n e H1 g o => ⟨_, _, k a n e H1 g o⟩
    · exact hk.elim
  · intro _ args H K hk
    simp only [S_impl_sizes] at *
    unfold F_impl_sizes at *
    split at hk
    · obtain ⟨l_list, i_list, bd_48, k⟩ := hk
      exact ⟨l_list, i_list, bd_48, (fun r1_a r1_n r1_e H' gg ow0 => ⟨gg, k r1_a r1_n r1_e H' gg ow0⟩)⟩
    · exact hk.elim
  · have mm := @impl_sizes_main
    revert mm
    generalize bodyK Try.prog E_impl_sizes Try.f79 = Q
    intro mm args H K hk
    simp only [S_impl_sizes] at *
    unfold F_impl_sizes at *
    split at hk
    · exact mm _ _ _ H K hk
    · exact hk.elim
def p_impl_within (n : Int) (low : Int) (high : Int) : Bool := (bif decide ((low : Int) ≤ n) then decide ((n : Int) ≤ high) else false)
theorem p_impl_within_eq (n : Int) (low : Int) (high : Int) : p_impl_within n low high = (bif decide ((low : Int) ≤ n) then decide ((n : Int) ≤ high) else false) := rfl
def T_impl_within (n : Int) (low : Int) (high : Int) (H : AHeap) (K : Bool → AHeap → Prop) : Prop := K (p_impl_within n low high) H
theorem impl_within_t {n a b : Int} (h : p_impl_within n a b = true) : a ≤ n ∧ n ≤ b := by
  unfold p_impl_within at h
  by_cases h1 : a ≤ n
  · rw [decide_eq_true h1, cond_true] at h; exact ⟨h1, of_decide_eq_true h⟩
  · rw [decide_eq_false h1] at h; cases h
theorem T_impl_within_i {n : Int} {low : Int} {high : Int} {H : AHeap} {K : Bool → AHeap → Prop} (h : K (p_impl_within n low high) H) : T_impl_within n low high H K := h
/-! impl_within: function 52 -/
def E_impl_within : Env := envOf []
def F_impl_within : List Value → AHeap → (Value → AHeap → Prop) → Prop
  | [.int .i64 n, .int .i64 low, .int .i64 high], H, K => T_impl_within n low high H fun (r1 : Bool) (H' : AHeap) => K (.bool r1) H'
  | _, _, _ => False
def S_impl_within : FSpec := { F := F_impl_within, quiet := true, tame := false }
theorem impl_within_vc (n : Int) (low : Int) (high : Int) (H : AHeap) (K : Value → AHeap → Prop) : bodyK Try.prog E_impl_within Try.f52 [.int .i64 n, .int .i64 low, .int .i64 high] H K =
  (Br (decide ((low : Int) ≤ n)) (K (.bool (decide ((n : Int) ≤ high))) H) (K (.bool false) H)) := by kernel_rfl
theorem E_impl_within_ok : ∀ g, FnOk Try.prog g (E_impl_within g) := FnOk.envOf (by
  intro x hx; cases hx)
set_option maxHeartbeats 1000000 in
theorem impl_within_main (n : Int) (low : Int) (high : Int) (H : AHeap) (K : Value → AHeap → Prop) (h : T_impl_within n low high H fun (r1 : Bool) (H' : AHeap) => K (.bool r1) H') : bodyK Try.prog E_impl_within Try.f52 [.int .i64 n, .int .i64 low, .int .i64 high] H K := by
  rw [impl_within_vc]
  unfold T_impl_within p_impl_within at h
  repeat' (first | exact h | (exfalso; simp_all; done) | (refine ⟨by decide, ?_⟩) | (refine Br.intro (fun hb => ?_) (fun hb => ?_) <;> (try simp only [hb, cond_true, cond_false, Bool.not_true, Bool.not_false] at h)))
theorem impl_within_ok : FnOk Try.prog 52 S_impl_within := by
  refine FnOk.body mix_ok E_impl_within_ok Try.func52 rfl (by kernel_rfl) (by kernel_rfl) ?_ ?_ ?_ ?_ ?_
  · intro args H K K' h hk
    simp only [S_impl_within] at *
    unfold F_impl_within at *
    split at hk
    · have k := hk
      exact h _ _ k
    · exact hk.elim
  · intro _ args H K hk
    simp only [S_impl_within] at *
    unfold F_impl_within at *
    split at hk
    · have k := hk
      exact ⟨_, k, fun K' k' => k'⟩
    · exact hk.elim
  · intro args H K hk
    simp only [S_impl_within] at *
    unfold F_impl_within at *
    split at hk
    · have k := hk
      exact ⟨_, _, k⟩
    · exact hk.elim
  · intro hq; cases hq
  · have mm := @impl_within_main
    revert mm
    generalize bodyK Try.prog E_impl_within Try.f52 = Q
    intro mm args H K hk
    simp only [S_impl_within] at *
    unfold F_impl_within at *
    split at hk
    · exact mm _ _ _ H K hk
    · exact hk.elim
def p_impl_IsFinite (x : Nat) : Bool := feq .f32 (fsub .f32 x x) 0
theorem p_impl_IsFinite_eq (x : Nat) : p_impl_IsFinite x = feq .f32 (fsub .f32 x x) 0 := rfl
def T_impl_IsFinite (x : Nat) (H : AHeap) (K : Bool → AHeap → Prop) : Prop := K (p_impl_IsFinite x) H

theorem T_impl_IsFinite_i {x : Nat} {H : AHeap} {K : Bool → AHeap → Prop} (h : K (p_impl_IsFinite x) H) : T_impl_IsFinite x H K := h
/-! impl_IsFinite: function 59 -/
def E_impl_IsFinite : Env := envOf []
def F_impl_IsFinite : List Value → AHeap → (Value → AHeap → Prop) → Prop
  | [.float .f32 x], H, K => T_impl_IsFinite x H fun (r1 : Bool) (H' : AHeap) => K (.bool r1) H'
  | _, _, _ => False
def S_impl_IsFinite : FSpec := { F := F_impl_IsFinite, quiet := true, tame := false }
theorem impl_IsFinite_vc (x : Nat) (H : AHeap) (K : Value → AHeap → Prop) : bodyK Try.prog E_impl_IsFinite Try.f59 [.float .f32 x] H K =
  (K (.bool (feq .f32 (fsub .f32 x x) 0)) H) := by kernel_rfl
theorem E_impl_IsFinite_ok : ∀ g, FnOk Try.prog g (E_impl_IsFinite g) := FnOk.envOf (by
  intro x hx; cases hx)
set_option maxHeartbeats 1000000 in
theorem impl_IsFinite_main (x : Nat) (H : AHeap) (K : Value → AHeap → Prop) (h : T_impl_IsFinite x H fun (r1 : Bool) (H' : AHeap) => K (.bool r1) H') : bodyK Try.prog E_impl_IsFinite Try.f59 [.float .f32 x] H K := by
  rw [impl_IsFinite_vc]
  unfold T_impl_IsFinite p_impl_IsFinite at h
  repeat' (first | exact h | (exfalso; simp_all; done) | (refine ⟨by decide, ?_⟩) | (refine Br.intro (fun hb => ?_) (fun hb => ?_) <;> (try simp only [hb, cond_true, cond_false, Bool.not_true, Bool.not_false] at h)))
theorem impl_IsFinite_ok : FnOk Try.prog 59 S_impl_IsFinite := by
  refine FnOk.body mix_ok E_impl_IsFinite_ok Try.func59 rfl (by kernel_rfl) (by kernel_rfl) ?_ ?_ ?_ ?_ ?_
  · intro args H K K' h hk
    simp only [S_impl_IsFinite] at *
    unfold F_impl_IsFinite at *
    split at hk
    · have k := hk
      exact h _ _ k
    · exact hk.elim
  · intro _ args H K hk
    simp only [S_impl_IsFinite] at *
    unfold F_impl_IsFinite at *
    split at hk
    · have k := hk
      exact ⟨_, k, fun K' k' => k'⟩
    · exact hk.elim
  · intro args H K hk
    simp only [S_impl_IsFinite] at *
    unfold F_impl_IsFinite at *
    split at hk
    · have k := hk
      exact ⟨_, _, k⟩
    · exact hk.elim
  · intro hq; cases hq
  · have mm := @impl_IsFinite_main
    revert mm
    generalize bodyK Try.prog E_impl_IsFinite Try.f59 = Q
    intro mm args H K hk
    simp only [S_impl_IsFinite] at *
    unfold F_impl_IsFinite at *
    split at hk
    · exact mm _ H K hk
    · exact hk.elim
def p_impl_areFinite_l2 (l_lists : List (List Nat)) (t2 : Bool) (t9 : Int) (k2_2 : Bool → Int → Bool) : Nat → Bool → Int → Bool
  | 0, _, _ => false
  | μ2 + 1, t2_2, t15 => (bif decide ((t15 : Int) < ((((l_lists).getD (t9 : Int).toNat [])).length : Int)) then (bif !((p_impl_IsFinite (((((l_lists).getD (t9 : Int).toNat [])).getD (t15 : Int).toNat 0)))) then false else (p_impl_areFinite_l2 l_lists t2 t9 k2_2 μ2 t2_2 (t15 + 1))) else (k2_2 t2_2 t15))
theorem p_impl_areFinite_l2_s (l_lists : List (List Nat)) (t2 : Bool) (t9 : Int) (k2_2 : Bool → Int → Bool) (μ2 : Nat) (t2_2 : Bool) (t15 : Int) : p_impl_areFinite_l2 l_lists t2 t9 k2_2 (μ2 + 1) t2_2 t15 = (bif decide ((t15 : Int) < ((((l_lists).getD (t9 : Int).toNat [])).length : Int)) then (bif !((p_impl_IsFinite (((((l_lists).getD (t9 : Int).toNat [])).getD (t15 : Int).toNat 0)))) then false else (p_impl_areFinite_l2 l_lists t2 t9 k2_2 μ2 t2_2 (t15 + 1))) else (k2_2 t2_2 t15)) := rfl
def p_impl_areFinite_l1 (l_lists : List (List Nat)) : Nat → Bool → Int → Bool
  | 0, _, _ => false
  | μ + 1, t2, t9 => (bif decide ((t9 : Int) < (l_lists.length : Int)) then (p_impl_areFinite_l2 l_lists t2 t9 (fun (t2_2 : Bool) (t15 : Int) => (p_impl_areFinite_l1 l_lists μ t2_2 (t9 + 1))) (Int.toNat (((((l_lists).getD (t9 : Int).toNat [])).length : Int) - (0 : Int)) + 1) t2 (0 : Int)) else true)
theorem p_impl_areFinite_l1_s (l_lists : List (List Nat)) (μ : Nat) (t2 : Bool) (t9 : Int) : p_impl_areFinite_l1 l_lists (μ + 1) t2 t9 = (bif decide ((t9 : Int) < (l_lists.length : Int)) then (p_impl_areFinite_l2 l_lists t2 t9 (fun (t2_2 : Bool) (t15 : Int) => (p_impl_areFinite_l1 l_lists μ t2_2 (t9 + 1))) (Int.toNat (((((l_lists).getD (t9 : Int).toNat [])).length : Int) - (0 : Int)) + 1) t2 (0 : Int)) else true) := rfl
def p_impl_areFinite (l_lists : List (List Nat)) : Bool := (p_impl_areFinite_l1 l_lists (Int.toNat ((l_lists.length : Int) - (0 : Int)) + 1) false (0 : Int))
theorem p_impl_areFinite_eq (l_lists : List (List Nat)) : p_impl_areFinite l_lists = (p_impl_areFinite_l1 l_lists (Int.toNat ((l_lists.length : Int) - (0 : Int)) + 1) false (0 : Int)) := rfl
def T_impl_areFinite (lists_a : Option Addr) (lists_n : Nat) (lists_e : Nat) (H : AHeap) (K : Bool → AHeap → Prop) : Prop := ∃ (l_lists : List (List Nat)), IsLL fF H lists_a lists_n l_lists ∧ l_lists.length < 1073741824 ∧ (∀ y ∈ l_lists, y.length < 1073741824) ∧ K (p_impl_areFinite l_lists) H
theorem T_impl_areFinite_i {lists_a : Option Addr} {lists_n : Nat} {lists_e : Nat} {H : AHeap} {K : Bool → AHeap → Prop} (h : ∃ (l_lists : List (List Nat)), IsLL fF H lists_a lists_n l_lists ∧ l_lists.length < 1073741824 ∧ (∀ y ∈ l_lists, y.length < 1073741824) ∧ K (p_impl_areFinite l_lists) H) : T_impl_areFinite lists_a lists_n lists_e H K := h

/-! impl_areFinite: function 85 -/
def E_impl_areFinite : Env := envOf [(59, S_impl_IsFinite)]
def F_impl_areFinite : List Value → AHeap → (Value → AHeap → Prop) → Prop
  | [.slice lists_a lists_n lists_e], H, K => T_impl_areFinite lists_a lists_n lists_e H fun (r1 : Bool) (H' : AHeap) => K (.bool r1) H'
  | _, _, _ => False
def S_impl_areFinite : FSpec := { F := F_impl_areFinite, quiet := true, tame := false }
theorem impl_areFinite_vc (lists_a : Option Addr) (lists_n : Nat) (lists_e : Nat) (H : AHeap) (K : Value → AHeap → Prop) : bodyK Try.prog E_impl_areFinite Try.f85 [.slice lists_a lists_n lists_e] H K =
  (loopK (exK Try.prog E_impl_areFinite (cl (cl (cr (cl (cr (bodyC Try.f85))))))) [.slice lists_a lists_n lists_e, undef, .bool false, undef, undef, undef, undef, .slice lists_a lists_n lists_e, .int .i64 (lists_n : Int), .int .i64 0, undef, undef, undef, undef, undef, undef, undef, undef, undef, undef, undef, undef, undef, undef] H (blockQ 0 (seqQ (exK Try.prog E_impl_areFinite (cr (cr (bodyC Try.f85)))) (retK Try.prog Try.f85 K)))) := by kernel_rfl
theorem impl_areFinite_r1 (lists_a : Option Addr) (lists_e : Nat) (lists_n : Nat) (t2 : Bool) (t9 : Int) (g4 g6 g10 g11 g12 g13 g14 g15 g16 g17 g18 g19 g20 g21 g22 g23 : Value) (H : AHeap) (R : Post) : exK Try.prog E_impl_areFinite (cl (cl (cr (cl (cr (bodyC Try.f85)))))) [.slice lists_a lists_n lists_e, undef, .bool t2, undef, g4, undef, g6, .slice lists_a lists_n lists_e, .int .i64 (lists_n : Int), .int .i64 t9, g10, g11, g12, g13, g14, g15, g16, g17, g18, g19, g20, g21, g22, g23] H R =
  (Br (decide ((t9 : Int) < (lists_n : Int))) ((0 : Int) ≤ t9 ∧ t9 < (lists_n : Int) ∧ ∃ b1 f1, (lists_a : Option Addr) = some ⟨b1, f1, none⟩ ∧ ∃ x1_a : Option Addr, ∃ x1_n : Nat, ∃ x1_e : Nat,  rdC H b1 (f1 + (t9 : Int).toNat * 1) = some (.slice x1_a x1_n x1_e) ∧ loopK (exK Try.prog E_impl_areFinite (cl (cl (cr (cr (cl (cl (cr (cr (cl (cl (cr (cl (cr (bodyC Try.f85))))))))))))))) [.slice lists_a lists_n lists_e, undef, .bool t2, undef, .slice x1_a x1_n x1_e, undef, g6, .slice lists_a lists_n lists_e, .int .i64 (lists_n : Int), .int .i64 t9, .bool (decide ((t9 : Int) < (lists_n : Int))), .pointer (some ⟨b1, f1 + (t9 : Int).toNat * 1, none⟩), .slice x1_a x1_n x1_e, .slice x1_a x1_n x1_e, .int .i64 (x1_n : Int), .int .i64 0, g16, g17, g18, g19, g20, g21, g22, g23] H (blockQ 2 (blockQ 1 (seqQ (exK Try.prog E_impl_areFinite (cr (cr (cr (cl (cl (cr (cl (cr (bodyC Try.f85)))))))))) (R))))) (R (.exit 0) [.slice lists_a lists_n lists_e, undef, .bool t2, undef, g4, undef, g6, .slice lists_a lists_n lists_e, .int .i64 (lists_n : Int), .int .i64 t9, .bool (decide ((t9 : Int) < (lists_n : Int))), g11, g12, g13, g14, g15, g16, g17, g18, g19, g20, g21, g22, g23] H)) := by kernel_rfl
def impl_areFinite_I1 (lists_a : Option Addr) (lists_e : Nat) (lists_n : Nat) (Inv : Nat → Bool → Int → AHeap → Prop) : Nat → List Value → AHeap → Prop := fun μ tm H => ∃ (t2 : Bool), ∃ (t9 : Int), ∃ g4 g6 g10 g11 g12 g13 g14 g15 g16 g17 g18 g19 g20 g21 g22 g23, tm = [.slice lists_a lists_n lists_e, undef, .bool t2, undef, g4, undef, g6, .slice lists_a lists_n lists_e, .int .i64 (lists_n : Int), .int .i64 t9, g10, g11, g12, g13, g14, g15, g16, g17, g18, g19, g20, g21, g22, g23] ∧ Inv μ t2 t9 H
theorem impl_areFinite_L1 (lists_a : Option Addr) (lists_e : Nat) (lists_n : Nat) {Q : Post} (Inv : Nat → Bool → Int → AHeap → Prop) (ν : Nat) (t2 : Bool) (t9 : Int) (g4 g6 g10 g11 g12 g13 g14 g15 g16 g17 g18 g19 g20 g21 g22 g23 : Value) (H : AHeap) (h0 : Inv ν t2 t9 H)
    (hs : ∀ (μ : Nat) (t2 : Bool) (t9 : Int) (g4 g6 g10 g11 g12 g13 g14 g15 g16 g17 g18 g19 g20 g21 g22 g23 : Value) (H : AHeap), Inv μ t2 t9 H → exK Try.prog E_impl_areFinite (cl (cl (cr (cl (cr (bodyC Try.f85)))))) [.slice lists_a lists_n lists_e, undef, .bool t2, undef, g4, undef, g6, .slice lists_a lists_n lists_e, .int .i64 (lists_n : Int), .int .i64 t9, g10, g11, g12, g13, g14, g15, g16, g17, g18, g19, g20, g21, g22, g23] H (loopQ (impl_areFinite_I1 lists_a lists_e lists_n Inv) μ Q)) : loopK (exK Try.prog E_impl_areFinite (cl (cl (cr (cl (cr (bodyC Try.f85))))))) [.slice lists_a lists_n lists_e, undef, .bool t2, undef, g4, undef, g6, .slice lists_a lists_n lists_e, .int .i64 (lists_n : Int), .int .i64 t9, g10, g11, g12, g13, g14, g15, g16, g17, g18, g19, g20, g21, g22, g23] H Q :=
  ⟨impl_areFinite_I1 lists_a lists_e lists_n Inv, ν, ⟨t2, t9, g4, g6, g10, g11, g12, g13, g14, g15, g16, g17, g18, g19, g20, g21, g22, g23, rfl, h0⟩, fun μ tm H h => by obtain ⟨t2, t9, g4, g6, g10, g11, g12, g13, g14, g15, g16, g17, g18, g19, g20, g21, g22, g23, rfl, hI⟩ := h; exact hs μ t2 t9 g4 g6 g10 g11 g12 g13 g14 g15 g16 g17 g18 g19 g20 g21 g22 g23 H hI⟩
theorem impl_areFinite_n1 {lists_a : Option Addr} {lists_e : Nat} {lists_n : Nat} {Q : Post} {Inv : Nat → Bool → Int → AHeap → Prop} {μ : Nat} (μ' : Nat) {t2 : Bool} {t9 : Int} {g4 g6 g10 g11 g12 g13 g14 g15 g16 g17 g18 g19 g20 g21 g22 g23 : Value} {H : AHeap} (hm : μ' < μ) (hI : Inv μ' t2 t9 H) : loopQ (impl_areFinite_I1 lists_a lists_e lists_n Inv) μ Q .normal [.slice lists_a lists_n lists_e, undef, .bool t2, undef, g4, undef, g6, .slice lists_a lists_n lists_e, .int .i64 (lists_n : Int), .int .i64 t9, g10, g11, g12, g13, g14, g15, g16, g17, g18, g19, g20, g21, g22, g23] H := ⟨μ', hm, t2, t9, g4, g6, g10, g11, g12, g13, g14, g15, g16, g17, g18, g19, g20, g21, g22, g23, rfl, hI⟩
theorem impl_areFinite_x1_0 (lists_a : Option Addr) (lists_e : Nat) (lists_n : Nat) (t2 : Bool) (t9 : Int) (g4 g6 g10 g11 g12 g13 g14 g15 g16 g17 g18 g19 g20 g21 g22 g23 : Value) (H : AHeap) (K : Value → AHeap → Prop)  {I : Nat → List Value → AHeap → Prop} {μ : Nat} : loopQ I μ (blockQ 0 (seqQ (exK Try.prog E_impl_areFinite (cr (cr (bodyC Try.f85)))) (retK Try.prog Try.f85 K))) (.exit 0) [.slice lists_a lists_n lists_e, undef, .bool t2, undef, g4, undef, g6, .slice lists_a lists_n lists_e, .int .i64 (lists_n : Int), .int .i64 t9, g10, g11, g12, g13, g14, g15, g16, g17, g18, g19, g20, g21, g22, g23] H =
  (K (.bool true) H) := by kernel_rfl
theorem impl_areFinite_x1_ret (lists_a : Option Addr) (lists_e : Nat) (lists_n : Nat) (t2 : Bool) (t9 : Int) (g4 g6 g10 g11 g12 g13 g14 g15 g16 g17 g18 g19 g20 g21 g22 g23 : Value) (H : AHeap) (K : Value → AHeap → Prop)  {I : Nat → List Value → AHeap → Prop} {μ : Nat} : loopQ I μ (blockQ 0 (seqQ (exK Try.prog E_impl_areFinite (cr (cr (bodyC Try.f85)))) (retK Try.prog Try.f85 K))) .ret [.slice lists_a lists_n lists_e, undef, .bool t2, undef, g4, undef, g6, .slice lists_a lists_n lists_e, .int .i64 (lists_n : Int), .int .i64 t9, g10, g11, g12, g13, g14, g15, g16, g17, g18, g19, g20, g21, g22, g23] H =
  (K (.bool t2) H) := by kernel_rfl
theorem impl_areFinite_r2 (b1 : Nat) (f1 : Nat) (g23 : Value) (lists_a : Option Addr) (lists_e : Nat) (lists_n : Nat) (t9 : Int) (x1_a : Option Addr) (x1_e : Nat) (x1_n : Nat) (t2_2 : Bool) (t15 : Int) (g6 g16 g17 g18 g19 g20 g21 g22 : Value) (H : AHeap) (R : Post) : exK Try.prog E_impl_areFinite (cl (cl (cr (cr (cl (cl (cr (cr (cl (cl (cr (cl (cr (bodyC Try.f85)))))))))))))) [.slice lists_a lists_n lists_e, undef, .bool t2_2, undef, .slice x1_a x1_n x1_e, undef, g6, .slice lists_a lists_n lists_e, .int .i64 (lists_n : Int), .int .i64 t9, .bool (decide ((t9 : Int) < (lists_n : Int))), .pointer (some ⟨b1, f1 + (t9 : Int).toNat * 1, none⟩), .slice x1_a x1_n x1_e, .slice x1_a x1_n x1_e, .int .i64 (x1_n : Int), .int .i64 t15, g16, g17, g18, g19, g20, g21, g22, g23] H R =
  (Br (decide ((t15 : Int) < (x1_n : Int))) ((0 : Int) ≤ t15 ∧ t15 < (x1_n : Int) ∧ ∃ b2 f2, (x1_a : Option Addr) = some ⟨b2, f2, none⟩ ∧ ∃ x2 : Nat,  rdC H b2 (f2 + (t15 : Int).toNat * 1) = some (.float .f32 x2) ∧ T_impl_IsFinite x2 H fun (r1 : Bool) (H1 : AHeap) => Br (!r1) (R .ret [.slice lists_a lists_n lists_e, undef, .bool false, undef, .slice x1_a x1_n x1_e, undef, .float .f32 x2, .slice lists_a lists_n lists_e, .int .i64 (lists_n : Int), .int .i64 t9, .bool (decide ((t9 : Int) < (lists_n : Int))), .pointer (some ⟨b1, f1 + (t9 : Int).toNat * 1, none⟩), .slice x1_a x1_n x1_e, .slice x1_a x1_n x1_e, .int .i64 (x1_n : Int), .int .i64 t15, .bool (decide ((t15 : Int) < (x1_n : Int))), .pointer (some ⟨b2, f2 + (t15 : Int).toNat * 1, none⟩), .float .f32 x2, .float .f32 x2, .bool r1, .bool (!r1), g22, g23] H1) (R .normal [.slice lists_a lists_n lists_e, undef, .bool t2_2, undef, .slice x1_a x1_n x1_e, undef, .float .f32 x2, .slice lists_a lists_n lists_e, .int .i64 (lists_n : Int), .int .i64 t9, .bool (decide ((t9 : Int) < (lists_n : Int))), .pointer (some ⟨b1, f1 + (t9 : Int).toNat * 1, none⟩), .slice x1_a x1_n x1_e, .slice x1_a x1_n x1_e, .int .i64 (x1_n : Int), .int .i64 (IntKind.wrap .i64 (t15 + 1)), .bool (decide ((t15 : Int) < (x1_n : Int))), .pointer (some ⟨b2, f2 + (t15 : Int).toNat * 1, none⟩), .float .f32 x2, .float .f32 x2, .bool r1, .bool (!r1), .int .i64 (IntKind.wrap .i64 (t15 + 1)), g23] H1)) (R (.exit 2) [.slice lists_a lists_n lists_e, undef, .bool t2_2, undef, .slice x1_a x1_n x1_e, undef, g6, .slice lists_a lists_n lists_e, .int .i64 (lists_n : Int), .int .i64 t9, .bool (decide ((t9 : Int) < (lists_n : Int))), .pointer (some ⟨b1, f1 + (t9 : Int).toNat * 1, none⟩), .slice x1_a x1_n x1_e, .slice x1_a x1_n x1_e, .int .i64 (x1_n : Int), .int .i64 t15, .bool (decide ((t15 : Int) < (x1_n : Int))), g17, g18, g19, g20, g21, g22, g23] H)) := by kernel_rfl
def impl_areFinite_I2 (b1 : Nat) (f1 : Nat) (g23 : Value) (lists_a : Option Addr) (lists_e : Nat) (lists_n : Nat) (t9 : Int) (x1_a : Option Addr) (x1_e : Nat) (x1_n : Nat) (Inv : Nat → Bool → Int → AHeap → Prop) : Nat → List Value → AHeap → Prop := fun μ tm H => ∃ (t2_2 : Bool), ∃ (t15 : Int), ∃ g6 g16 g17 g18 g19 g20 g21 g22, tm = [.slice lists_a lists_n lists_e, undef, .bool t2_2, undef, .slice x1_a x1_n x1_e, undef, g6, .slice lists_a lists_n lists_e, .int .i64 (lists_n : Int), .int .i64 t9, .bool (decide ((t9 : Int) < (lists_n : Int))), .pointer (some ⟨b1, f1 + (t9 : Int).toNat * 1, none⟩), .slice x1_a x1_n x1_e, .slice x1_a x1_n x1_e, .int .i64 (x1_n : Int), .int .i64 t15, g16, g17, g18, g19, g20, g21, g22, g23] ∧ Inv μ t2_2 t15 H
theorem impl_areFinite_L2 (b1 : Nat) (f1 : Nat) (g23 : Value) (lists_a : Option Addr) (lists_e : Nat) (lists_n : Nat) (t9 : Int) (x1_a : Option Addr) (x1_e : Nat) (x1_n : Nat) {Q : Post} (Inv : Nat → Bool → Int → AHeap → Prop) (ν : Nat) (t2_2 : Bool) (t15 : Int) (g6 g16 g17 g18 g19 g20 g21 g22 : Value) (H : AHeap) (h0 : Inv ν t2_2 t15 H)
    (hs : ∀ (μ : Nat) (t2_2 : Bool) (t15 : Int) (g6 g16 g17 g18 g19 g20 g21 g22 : Value) (H : AHeap), Inv μ t2_2 t15 H → exK Try.prog E_impl_areFinite (cl (cl (cr (cr (cl (cl (cr (cr (cl (cl (cr (cl (cr (bodyC Try.f85)))))))))))))) [.slice lists_a lists_n lists_e, undef, .bool t2_2, undef, .slice x1_a x1_n x1_e, undef, g6, .slice lists_a lists_n lists_e, .int .i64 (lists_n : Int), .int .i64 t9, .bool (decide ((t9 : Int) < (lists_n : Int))), .pointer (some ⟨b1, f1 + (t9 : Int).toNat * 1, none⟩), .slice x1_a x1_n x1_e, .slice x1_a x1_n x1_e, .int .i64 (x1_n : Int), .int .i64 t15, g16, g17, g18, g19, g20, g21, g22, g23] H (loopQ (impl_areFinite_I2 b1 f1 g23 lists_a lists_e lists_n t9 x1_a x1_e x1_n Inv) μ Q)) : loopK (exK Try.prog E_impl_areFinite (cl (cl (cr (cr (cl (cl (cr (cr (cl (cl (cr (cl (cr (bodyC Try.f85))))))))))))))) [.slice lists_a lists_n lists_e, undef, .bool t2_2, undef, .slice x1_a x1_n x1_e, undef, g6, .slice lists_a lists_n lists_e, .int .i64 (lists_n : Int), .int .i64 t9, .bool (decide ((t9 : Int) < (lists_n : Int))), .pointer (some ⟨b1, f1 + (t9 : Int).toNat * 1, none⟩), .slice x1_a x1_n x1_e, .slice x1_a x1_n x1_e, .int .i64 (x1_n : Int), .int .i64 t15, g16, g17, g18, g19, g20, g21, g22, g23] H Q :=
  ⟨impl_areFinite_I2 b1 f1 g23 lists_a lists_e lists_n t9 x1_a x1_e x1_n Inv, ν, ⟨t2_2, t15, g6, g16, g17, g18, g19, g20, g21, g22, rfl, h0⟩, fun μ tm H h => by obtain ⟨t2_2, t15, g6, g16, g17, g18, g19, g20, g21, g22, rfl, hI⟩ := h; exact hs μ t2_2 t15 g6 g16 g17 g18 g19 g20 g21 g22 H hI⟩
theorem impl_areFinite_n2 {b1 : Nat} {f1 : Nat} {g23 : Value} {lists_a : Option Addr} {lists_e : Nat} {lists_n : Nat} {t9 : Int} {x1_a : Option Addr} {x1_e : Nat} {x1_n : Nat} {Q : Post} {Inv : Nat → Bool → Int → AHeap → Prop} {μ : Nat} (μ' : Nat) {t2_2 : Bool} {t15 : Int} {g6 g16 g17 g18 g19 g20 g21 g22 : Value} {H : AHeap} (hm : μ' < μ) (hI : Inv μ' t2_2 t15 H) : loopQ (impl_areFinite_I2 b1 f1 g23 lists_a lists_e lists_n t9 x1_a x1_e x1_n Inv) μ Q .normal [.slice lists_a lists_n lists_e, undef, .bool t2_2, undef, .slice x1_a x1_n x1_e, undef, g6, .slice lists_a lists_n lists_e, .int .i64 (lists_n : Int), .int .i64 t9, .bool (decide ((t9 : Int) < (lists_n : Int))), .pointer (some ⟨b1, f1 + (t9 : Int).toNat * 1, none⟩), .slice x1_a x1_n x1_e, .slice x1_a x1_n x1_e, .int .i64 (x1_n : Int), .int .i64 t15, g16, g17, g18, g19, g20, g21, g22, g23] H := ⟨μ', hm, t2_2, t15, g6, g16, g17, g18, g19, g20, g21, g22, rfl, hI⟩
theorem impl_areFinite_x2_2 (b1 : Nat) (f1 : Nat) (g23 : Value) (lists_a : Option Addr) (lists_e : Nat) (lists_n : Nat) (t9 : Int) (x1_a : Option Addr) (x1_e : Nat) (x1_n : Nat) (t2_2 : Bool) (t15 : Int) (g6 g16 g17 g18 g19 g20 g21 g22 : Value) (H : AHeap)  (R : Post) {I : Nat → List Value → AHeap → Prop} {μ : Nat} : loopQ I μ (blockQ 2 (blockQ 1 (seqQ (exK Try.prog E_impl_areFinite (cr (cr (cr (cl (cl (cr (cl (cr (bodyC Try.f85)))))))))) (R)))) (.exit 2) [.slice lists_a lists_n lists_e, undef, .bool t2_2, undef, .slice x1_a x1_n x1_e, undef, g6, .slice lists_a lists_n lists_e, .int .i64 (lists_n : Int), .int .i64 t9, .bool (decide ((t9 : Int) < (lists_n : Int))), .pointer (some ⟨b1, f1 + (t9 : Int).toNat * 1, none⟩), .slice x1_a x1_n x1_e, .slice x1_a x1_n x1_e, .int .i64 (x1_n : Int), .int .i64 t15, g16, g17, g18, g19, g20, g21, g22, g23] H =
  (R .normal [.slice lists_a lists_n lists_e, undef, .bool t2_2, undef, .slice x1_a x1_n x1_e, undef, g6, .slice lists_a lists_n lists_e, .int .i64 (lists_n : Int), .int .i64 (IntKind.wrap .i64 (t9 + 1)), .bool (decide ((t9 : Int) < (lists_n : Int))), .pointer (some ⟨b1, f1 + (t9 : Int).toNat * 1, none⟩), .slice x1_a x1_n x1_e, .slice x1_a x1_n x1_e, .int .i64 (x1_n : Int), .int .i64 t15, g16, g17, g18, g19, g20, g21, g22, .int .i64 (IntKind.wrap .i64 (t9 + 1))] H) := by kernel_rfl
theorem impl_areFinite_x2_ret (b1 : Nat) (f1 : Nat) (g23 : Value) (lists_a : Option Addr) (lists_e : Nat) (lists_n : Nat) (t9 : Int) (x1_a : Option Addr) (x1_e : Nat) (x1_n : Nat) (t2_2 : Bool) (t15 : Int) (g6 g16 g17 g18 g19 g20 g21 g22 : Value) (H : AHeap)  (R : Post) {I : Nat → List Value → AHeap → Prop} {μ : Nat} : loopQ I μ (blockQ 2 (blockQ 1 (seqQ (exK Try.prog E_impl_areFinite (cr (cr (cr (cl (cl (cr (cl (cr (bodyC Try.f85)))))))))) (R)))) .ret [.slice lists_a lists_n lists_e, undef, .bool t2_2, undef, .slice x1_a x1_n x1_e, undef, g6, .slice lists_a lists_n lists_e, .int .i64 (lists_n : Int), .int .i64 t9, .bool (decide ((t9 : Int) < (lists_n : Int))), .pointer (some ⟨b1, f1 + (t9 : Int).toNat * 1, none⟩), .slice x1_a x1_n x1_e, .slice x1_a x1_n x1_e, .int .i64 (x1_n : Int), .int .i64 t15, g16, g17, g18, g19, g20, g21, g22, g23] H =
  (R .ret [.slice lists_a lists_n lists_e, undef, .bool t2_2, undef, .slice x1_a x1_n x1_e, undef, g6, .slice lists_a lists_n lists_e, .int .i64 (lists_n : Int), .int .i64 t9, .bool (decide ((t9 : Int) < (lists_n : Int))), .pointer (some ⟨b1, f1 + (t9 : Int).toNat * 1, none⟩), .slice x1_a x1_n x1_e, .slice x1_a x1_n x1_e, .int .i64 (x1_n : Int), .int .i64 t15, g16, g17, g18, g19, g20, g21, g22, g23] H) := by kernel_rfl
theorem E_impl_areFinite_ok : ∀ g, FnOk Try.prog g (E_impl_areFinite g) := FnOk.envOf (by
  intro x hx
  simp only [List.mem_cons, List.not_mem_nil, or_false] at hx
  subst hx; exact impl_IsFinite_ok)
set_option maxHeartbeats 1000000 in
theorem impl_areFinite_main (lists_a : Option Addr) (lists_n : Nat) (lists_e : Nat) (H : AHeap) (K : Value → AHeap → Prop) (h : T_impl_areFinite lists_a lists_n lists_e H fun (r1 : Bool) (H' : AHeap) => K (.bool r1) H') : bodyK Try.prog E_impl_areFinite Try.f85 [.slice lists_a lists_n lists_e] H K := by
  rw [impl_areFinite_vc]
  obtain ⟨l_lists, i_lists, bd_22, bb_l_lists, hk⟩ := h
  obtain rfl := i_lists.eqn
  have e : (p_impl_areFinite l_lists) = _ := rfl
  have e := e.trans (p_impl_areFinite_eq l_lists)
  have g0 := Grow.refl H
  refine impl_areFinite_L1 _ _ _ (fun (μ : Nat) (t2 : Bool) (t9 : Int) (H_1 : AHeap) => H = H_1 ∧ (0 : Int) ≤ t9 ∧ t9 ≤ (l_lists.length : Int) ∧ (l_lists.length : Int) - t9 ≤ (μ : Int) ∧ p_impl_areFinite l_lists = p_impl_areFinite_l1 l_lists (μ + 1) t2 t9) (Int.toNat ((l_lists.length : Int) - (0 : Int))) _ _ _ _ _ _ _ _ _ _ _ _ _ _ _ _ _ _ H ?_ ?_
  · exact ⟨rfl, (by first | omega | (simp; done) | (simp; omega)), (by first | omega | (simp; done) | (simp; omega)), (by omega), e⟩
  · intro μ t2 t9 g4 g6 g10 g11 g12 g13 g14 g15 g16 g17 g18 g19 g20 g21 g22 g23 H_1 hI
    obtain ⟨rfl, v_1, v_2, hμ, e⟩ := hI
    rw [impl_areFinite_r1]
    have e := e.trans (p_impl_areFinite_l1_s l_lists μ t2 t9)
    have l_3 := g0.1
    refine Br.intro (fun c_4 => ?_) (fun c_4 => ?_)
    · have e := e.trans (cond_t c_4)
      have c_4' := of_decide_eq_true c_4
      obtain ⟨b_5, f_6, q_7⟩ := ((i_lists.grow g0)).pos (by first | omega | (simp only [List.length_set, List.length_replicate, List.length_append, List.length_cons, List.length_nil, List.length_take, List.length_drop, marks_length]; done) | (simp only [List.length_set, List.length_replicate, List.length_append, List.length_cons, List.length_nil, List.length_take, List.length_drop, marks_length]; omega))
      refine ⟨by omega, by omega, b_5, f_6, q_7, ?_⟩
      obtain ⟨a_8, n_9, e_10, r_11, i_12⟩ := (i_lists).rd (i := (t9 : Int).toNat) g0 q_7 (by omega)
      obtain rfl := i_12.eqn
      refine ⟨a_8, _, e_10, r_11, ?_⟩
      have z_13 := getD_len bb_l_lists (t9 : Int).toNat
      refine impl_areFinite_L2 _ _ _ _ _ _ _ _ _ _ (fun (μ2 : Nat) (t2_2 : Bool) (t15 : Int) (H_2 : AHeap) => H = H_2 ∧ (0 : Int) ≤ t15 ∧ t15 ≤ ((((l_lists).getD (t9 : Int).toNat [])).length : Int) ∧ ((((l_lists).getD (t9 : Int).toNat [])).length : Int) - t15 ≤ (μ2 : Int) ∧ p_impl_areFinite l_lists = p_impl_areFinite_l2 l_lists t2 t9 (fun (t2_2 : Bool) (t15 : Int) => (p_impl_areFinite_l1 l_lists μ t2_2 (t9 + 1))) (μ2 + 1) t2_2 t15) (Int.toNat (((((l_lists).getD (t9 : Int).toNat [])).length : Int) - (0 : Int))) _ _ _ _ _ _ _ _ _ _ H ?_ ?_
      · exact ⟨rfl, (by first | omega | (simp; done) | (simp; omega)), (by first | omega | (simp; done) | (simp; omega)), (by omega), e⟩
      · intro μ2 t2_2 t15 g6 g16 g17 g18 g19 g20 g21 g22 H_2 hI
        obtain ⟨rfl, v_14, v_15, hμ, e⟩ := hI
        rw [impl_areFinite_r2]
        have e := e.trans (p_impl_areFinite_l2_s l_lists t2 t9 (fun (t2_2 : Bool) (t15 : Int) => (p_impl_areFinite_l1 l_lists μ t2_2 (t9 + 1))) μ2 t2_2 t15)
        have l_16 := g0.1
        refine Br.intro (fun c_17 => ?_) (fun c_17 => ?_)
        · have e := e.trans (cond_t c_17)
          have c_17' := of_decide_eq_true c_17
          obtain ⟨b_18, f_19, q_20⟩ := ((i_12.grow g0)).pos (by first | omega | (simp only [List.length_set, List.length_replicate, List.length_append, List.length_cons, List.length_nil, List.length_take, List.length_drop, marks_length]; done) | (simp only [List.length_set, List.length_replicate, List.length_append, List.length_cons, List.length_nil, List.length_take, List.length_drop, marks_length]; omega))
          refine ⟨by omega, by omega, b_18, f_19, q_20, ?_⟩
          refine ⟨((((l_lists).getD (t9 : Int).toNat [])).getD (t15 : Int).toNat 0), (i_12).rd g0 q_20 (by omega) _, ?_⟩
          refine T_impl_IsFinite_i ?_
          refine Br.intro (fun c_21 => ?_) (fun c_21 => ?_)
          · have e := e.trans (cond_t c_21)
            have c_21n := nf_of_t c_21
            rw [impl_areFinite_x2_ret]
            rw [impl_areFinite_x1_ret]
            rw [e] at hk
            exact hk
          · have e := e.trans (cond_f c_21)
            have c_21n := nt_of_f c_21
            rw [show IntKind.wrap .i64 (t15 + 1) = (t15 + 1) from wrap64 (by omega) (by omega)]
            refine impl_areFinite_n2 (μ2 - 1) (by omega) ⟨rfl, (by first | omega | (simp only [List.length_append, List.length_cons, List.length_nil, List.length_set]; done) | (simp only [List.length_append, List.length_cons, List.length_nil, List.length_set]; omega)), (by first | omega | (simp only [List.length_append, List.length_cons, List.length_nil, List.length_set]; done) | (simp only [List.length_append, List.length_cons, List.length_nil, List.length_set]; omega)), (by omega), (by rw [show μ2 - 1 + 1 = μ2 from by omega]; exact e)⟩
        · have e := e.trans (cond_f c_17)
          have c_17' := of_decide_eq_false c_17
          rw [impl_areFinite_x2_2]
          rw [show IntKind.wrap .i64 (t9 + 1) = (t9 + 1) from wrap64 (by omega) (by omega)]
          refine impl_areFinite_n1 (μ - 1) (by omega) ⟨rfl, (by first | omega | (simp only [List.length_append, List.length_cons, List.length_nil, List.length_set]; done) | (simp only [List.length_append, List.length_cons, List.length_nil, List.length_set]; omega)), (by first | omega | (simp only [List.length_append, List.length_cons, List.length_nil, List.length_set]; done) | (simp only [List.length_append, List.length_cons, List.length_nil, List.length_set]; omega)), (by omega), (by rw [show μ - 1 + 1 = μ from by omega]; exact e)⟩
    · have e := e.trans (cond_f c_4)
      have c_4' := of_decide_eq_false c_4
      rw [impl_areFinite_x1_0]
      rw [e] at hk
      exact hk
theorem impl_areFinite_ok : FnOk Try.prog 85 S_impl_areFinite := by
  refine FnOk.body mix_ok E_impl_areFinite_ok Try.func85 rfl (by kernel_rfl) (by kernel_rfl) ?_ ?_ ?_ ?_ ?_
  · intro args H K K' h hk
    simp only [S_impl_areFinite] at *
    unfold F_impl_areFinite at *
    split at hk
    · obtain ⟨l_lists, i_lists, bd_22, bb_l_lists, k⟩ := hk
      exact ⟨l_lists, i_lists, bd_22, bb_l_lists, h _ _ k⟩
    · exact hk.elim
  · intro _ args H K hk
    simp only [S_impl_areFinite] at *
    unfold F_impl_areFinite at *
    split at hk
    · obtain ⟨l_lists, i_lists, bd_22, bb_l_lists, k⟩ := hk
      exact ⟨_, k, fun K' k' => ⟨l_lists, i_lists, bd_22, bb_l_lists, k'⟩⟩
    · exact hk.elim
  · intro args H K hk
    simp only [S_impl_areFinite] at *
    unfold F_impl_areFinite at *
    split at hk
    · obtain ⟨l_lists, i_lists, bd_22, bb_l_lists, k⟩ := hk
      exact ⟨_, _, k⟩
    · exact hk.elim
  · intro hq; cases hq
  · have mm := @impl_areFinite_main
    revert mm
    generalize bodyK Try.prog E_impl_areFinite Try.f85 = Q
    intro mm args H K hk
    simp only [S_impl_areFinite] at *
    unfold F_impl_areFinite at *
    split at hk
    · exact mm _ _ _ H K hk
    · exact hk.elim
def p_impl_isLong (l_list : List Nat) : Bool := (bif (p_impl_within (l_list.length : Int) (1 : Int) (128 : Int)) then (p_impl_areFinite ([l_list])) else false)
theorem p_impl_isLong_eq (l_list : List Nat) : p_impl_isLong l_list = (bif (p_impl_within (l_list.length : Int) (1 : Int) (128 : Int)) then (p_impl_areFinite ([l_list])) else false) := rfl
def T_impl_isLong (list_a : Option Addr) (list_n : Nat) (list_e : Nat) (H : AHeap) (K : Bool → AHeap → Prop) : Prop := ∃ (l_list : List Nat), IsL fF H list_a list_n l_list ∧ l_list.length < 1073741824 ∧ ((∀ H' : AHeap, Grow H H' → K (p_impl_isLong l_list) H'))
theorem T_impl_isLong_i {list_a : Option Addr} {list_n : Nat} {list_e : Nat} {H : AHeap} {K : Bool → AHeap → Prop} (h : ∃ (l_list : List Nat), IsL fF H list_a list_n l_list ∧ l_list.length < 1073741824 ∧ ((∀ H' : AHeap, Grow H H' → K (p_impl_isLong l_list) H'))) : T_impl_isLong list_a list_n list_e H K := h

/-! impl_isLong: function 64 -/
def E_impl_isLong : Env := envOf [(52, S_impl_within), (85, S_impl_areFinite)]
def F_impl_isLong : List Value → AHeap → (Value → AHeap → Prop) → Prop
  | [.slice list_a list_n list_e], H, K => T_impl_isLong list_a list_n list_e H fun (r1 : Bool) (H' : AHeap) => K (.bool r1) H'
  | _, _, _ => False
def S_impl_isLong : FSpec := { F := F_impl_isLong, quiet := false, tame := true }
theorem impl_isLong_vc (list_a : Option Addr) (list_n : Nat) (list_e : Nat) (H : AHeap) (K : Value → AHeap → Prop) : bodyK Try.prog E_impl_isLong Try.f64 [.slice list_a list_n list_e] H K =
  (T_impl_within (list_n : Int) 1 128 H fun (r1 : Bool) (H1 : AHeap) => Br r1 (Al [.slice list_a list_n list_e] H1 fun b1 H2 => T_impl_areFinite (some ⟨b1, 0, none⟩) 1 1 H2 fun (r2 : Bool) (H3 : AHeap) => K (.bool r2) H3) (K (.bool false) H1)) := by kernel_rfl
theorem E_impl_isLong_ok : ∀ g, FnOk Try.prog g (E_impl_isLong g) := FnOk.envOf (by
  intro x hx
  simp only [List.mem_cons, List.not_mem_nil, or_false] at hx
  rcases hx with rfl | rfl
  · exact impl_within_ok
  · exact impl_areFinite_ok)
set_option maxHeartbeats 1000000 in
theorem impl_isLong_main (list_a : Option Addr) (list_n : Nat) (list_e : Nat) (H : AHeap) (K : Value → AHeap → Prop) (h : T_impl_isLong list_a list_n list_e H fun (r1 : Bool) (H' : AHeap) => K (.bool r1) H') : bodyK Try.prog E_impl_isLong Try.f64 [.slice list_a list_n list_e] H K := by
  rw [impl_isLong_vc]
  obtain ⟨l_list, i_list, bd_12, hk⟩ := h
  obtain rfl := i_list.eqn
  have e : (p_impl_isLong l_list) = _ := rfl
  have e := e.trans (p_impl_isLong_eq l_list)
  have g0 := Grow.refl H
  refine T_impl_within_i ?_
  refine Br.intro (fun c_1 => ?_) (fun c_1 => ?_)
  · have e := e.trans (cond_t c_1)
    have c_1' := impl_within_t c_1
    refine Al.intro (fun b_2 H_1 hb_3 hl_4 g_5 o_6 => ?_)
    have l_8 := g_5.1
    have g_9 := g0.trans g_5
    have l_10 := g_9.1
    have w_11 := o_6.lt
    refine T_impl_areFinite_i ⟨[l_list], ⟨_, o_6.rdAll rfl, LLc.cons (i_list.grow g_9) (LLc.nil _ _)⟩, (by first | omega | (simp only [List.length_set, List.length_replicate, List.length_append, List.length_cons, List.length_nil, List.length_take, List.length_drop, marks_length]; done) | (simp only [List.length_set, List.length_replicate, List.length_append, List.length_cons, List.length_nil, List.length_take, List.length_drop, marks_length]; omega)), (by first | assumption | (intro y hy; simp only [List.mem_cons, List.not_mem_nil, or_false] at hy; first | omega | (subst hy; omega) | (rcases hy with rfl | rfl <;> omega) | (rcases hy with rfl | rfl | rfl <;> omega))), ?_⟩
    rw [e] at hk
    exact hk  H_1 g_9 
  · have e := e.trans (cond_f c_1)
    rw [e] at hk
    exact hk  H g0 
theorem impl_isLong_ok : FnOk Try.prog 64 S_impl_isLong := by
  refine FnOk.body mix_ok E_impl_isLong_ok Try.func64 rfl (by kernel_rfl) (by kernel_rfl) ?_ ?_ ?_ ?_ ?_
  · intro args H K K' h hk
    simp only [S_impl_isLong] at *
    unfold F_impl_isLong at *
    split at hk
    · obtain ⟨l_list, i_list, bd_12, k⟩ := hk
      exact ⟨l_list, i_list, bd_12, (fun  H' gg  => h _ _ (k  H' gg ))⟩
    · exact hk.elim
  · intro hq; cases hq
  · intro args H K hk
    simp only [S_impl_isLong] at *
    unfold F_impl_isLong at *
    split at hk
    · obtain ⟨l_list, i_list, bd_12, k⟩ := hk
      exact ⟨_, _, k H (Grow.refl H)⟩
    · exact hk.elim
  · intro _ args H K hk
    simp only [S_impl_isLong] at *
    unfold F_impl_isLong at *
    split at hk
    · obtain ⟨l_list, i_list, bd_12, k⟩ := hk
      exact ⟨l_list, i_list, bd_12, (fun  H' gg  => ⟨gg, k  H' gg ⟩)⟩
    · exact hk.elim
  · have mm := @impl_isLong_main
    revert mm
    generalize bodyK Try.prog E_impl_isLong Try.f64 = Q
    intro mm args H K hk
    simp only [S_impl_isLong] at *
    unfold F_impl_isLong at *
    split at hk
    · exact mm _ _ _ H K hk
    · exact hk.elim
def p_impl_isOver (x : Nat) : Bool := (bif (p_impl_IsFinite x) then flt .f32 0 x else false)
theorem p_impl_isOver_eq (x : Nat) : p_impl_isOver x = (bif (p_impl_IsFinite x) then flt .f32 0 x else false) := rfl
def T_impl_isOver (x : Nat) (H : AHeap) (K : Bool → AHeap → Prop) : Prop := K (p_impl_isOver x) H

theorem T_impl_isOver_i {x : Nat} {H : AHeap} {K : Bool → AHeap → Prop} (h : K (p_impl_isOver x) H) : T_impl_isOver x H K := h
/-! impl_isOver: function 71 -/
def E_impl_isOver : Env := envOf [(59, S_impl_IsFinite)]
def F_impl_isOver : List Value → AHeap → (Value → AHeap → Prop) → Prop
  | [.float .f32 x], H, K => T_impl_isOver x H fun (r1 : Bool) (H' : AHeap) => K (.bool r1) H'
  | _, _, _ => False
def S_impl_isOver : FSpec := { F := F_impl_isOver, quiet := true, tame := false }
theorem impl_isOver_vc (x : Nat) (H : AHeap) (K : Value → AHeap → Prop) : bodyK Try.prog E_impl_isOver Try.f71 [.float .f32 x] H K =
  (T_impl_IsFinite x H fun (r1 : Bool) (H1 : AHeap) => Br r1 (K (.bool (flt .f32 0 x)) H1) (K (.bool false) H1)) := by kernel_rfl
theorem E_impl_isOver_ok : ∀ g, FnOk Try.prog g (E_impl_isOver g) := FnOk.envOf (by
  intro x hx
  simp only [List.mem_cons, List.not_mem_nil, or_false] at hx
  subst hx; exact impl_IsFinite_ok)
set_option maxHeartbeats 1000000 in
theorem impl_isOver_main (x : Nat) (H : AHeap) (K : Value → AHeap → Prop) (h : T_impl_isOver x H fun (r1 : Bool) (H' : AHeap) => K (.bool r1) H') : bodyK Try.prog E_impl_isOver Try.f71 [.float .f32 x] H K := by
  rw [impl_isOver_vc]
  simp only [T_impl_IsFinite]
  unfold T_impl_isOver p_impl_isOver at h
  repeat' (first | exact h | (exfalso; simp_all; done) | (refine ⟨by decide, ?_⟩) | (refine Br.intro (fun hb => ?_) (fun hb => ?_) <;> (try simp only [hb, cond_true, cond_false, Bool.not_true, Bool.not_false] at h)))
theorem impl_isOver_ok : FnOk Try.prog 71 S_impl_isOver := by
  refine FnOk.body mix_ok E_impl_isOver_ok Try.func71 rfl (by kernel_rfl) (by kernel_rfl) ?_ ?_ ?_ ?_ ?_
  · intro args H K K' h hk
    simp only [S_impl_isOver] at *
    unfold F_impl_isOver at *
    split at hk
    · have k := hk
      exact h _ _ k
    · exact hk.elim
  · intro _ args H K hk
    simp only [S_impl_isOver] at *
    unfold F_impl_isOver at *
    split at hk
    · have k := hk
      exact ⟨_, k, fun K' k' => k'⟩
    · exact hk.elim
  · intro args H K hk
    simp only [S_impl_isOver] at *
    unfold F_impl_isOver at *
    split at hk
    · have k := hk
      exact ⟨_, _, k⟩
    · exact hk.elim
  · intro hq; cases hq
  · have mm := @impl_isOver_main
    revert mm
    generalize bodyK Try.prog E_impl_isOver Try.f71 = Q
    intro mm args H K hk
    simp only [S_impl_isOver] at *
    unfold F_impl_isOver at *
    split at hk
    · exact mm _ H K hk
    · exact hk.elim
def p_impl_isLeast (x : Nat) : Bool := (bif (p_impl_IsFinite x) then fle .f32 0 x else false)
theorem p_impl_isLeast_eq (x : Nat) : p_impl_isLeast x = (bif (p_impl_IsFinite x) then fle .f32 0 x else false) := rfl
def T_impl_isLeast (x : Nat) (H : AHeap) (K : Bool → AHeap → Prop) : Prop := K (p_impl_isLeast x) H

theorem T_impl_isLeast_i {x : Nat} {H : AHeap} {K : Bool → AHeap → Prop} (h : K (p_impl_isLeast x) H) : T_impl_isLeast x H K := h
/-! impl_isLeast: function 55 -/
def E_impl_isLeast : Env := envOf [(59, S_impl_IsFinite)]
def F_impl_isLeast : List Value → AHeap → (Value → AHeap → Prop) → Prop
  | [.float .f32 x], H, K => T_impl_isLeast x H fun (r1 : Bool) (H' : AHeap) => K (.bool r1) H'
  | _, _, _ => False
def S_impl_isLeast : FSpec := { F := F_impl_isLeast, quiet := true, tame := false }
theorem impl_isLeast_vc (x : Nat) (H : AHeap) (K : Value → AHeap → Prop) : bodyK Try.prog E_impl_isLeast Try.f55 [.float .f32 x] H K =
  (T_impl_IsFinite x H fun (r1 : Bool) (H1 : AHeap) => Br r1 (K (.bool (fle .f32 0 x)) H1) (K (.bool false) H1)) := by kernel_rfl
theorem E_impl_isLeast_ok : ∀ g, FnOk Try.prog g (E_impl_isLeast g) := FnOk.envOf (by
  intro x hx
  simp only [List.mem_cons, List.not_mem_nil, or_false] at hx
  subst hx; exact impl_IsFinite_ok)
set_option maxHeartbeats 1000000 in
theorem impl_isLeast_main (x : Nat) (H : AHeap) (K : Value → AHeap → Prop) (h : T_impl_isLeast x H fun (r1 : Bool) (H' : AHeap) => K (.bool r1) H') : bodyK Try.prog E_impl_isLeast Try.f55 [.float .f32 x] H K := by
  rw [impl_isLeast_vc]
  simp only [T_impl_IsFinite]
  unfold T_impl_isLeast p_impl_isLeast at h
  repeat' (first | exact h | (exfalso; simp_all; done) | (refine ⟨by decide, ?_⟩) | (refine Br.intro (fun hb => ?_) (fun hb => ?_) <;> (try simp only [hb, cond_true, cond_false, Bool.not_true, Bool.not_false] at h)))
theorem impl_isLeast_ok : FnOk Try.prog 55 S_impl_isLeast := by
  refine FnOk.body mix_ok E_impl_isLeast_ok Try.func55 rfl (by kernel_rfl) (by kernel_rfl) ?_ ?_ ?_ ?_ ?_
  · intro args H K K' h hk
    simp only [S_impl_isLeast] at *
    unfold F_impl_isLeast at *
    split at hk
    · have k := hk
      exact h _ _ k
    · exact hk.elim
  · intro _ args H K hk
    simp only [S_impl_isLeast] at *
    unfold F_impl_isLeast at *
    split at hk
    · have k := hk
      exact ⟨_, k, fun K' k' => k'⟩
    · exact hk.elim
  · intro args H K hk
    simp only [S_impl_isLeast] at *
    unfold F_impl_isLeast at *
    split at hk
    · have k := hk
      exact ⟨_, _, k⟩
    · exact hk.elim
  · intro hq; cases hq
  · have mm := @impl_isLeast_main
    revert mm
    generalize bodyK Try.prog E_impl_isLeast Try.f55 = Q
    intro mm args H K hk
    simp only [S_impl_isLeast] at *
    unfold F_impl_isLeast at *
    split at hk
    · exact mm _ H K hk
    · exact hk.elim
def p_impl_finite (x : Nat) : Nat × Bool := (bif !(p_impl_IsFinite x) then (0, false) else (x, true))
theorem p_impl_finite_eq (x : Nat) : p_impl_finite x = (bif !(p_impl_IsFinite x) then (0, false) else (x, true)) := rfl
def T_impl_finite (x : Nat) (H : AHeap) (K : Nat → Bool → AHeap → Prop) : Prop := K (p_impl_finite x).1 (p_impl_finite x).2 H

theorem T_impl_finite_i {x : Nat} {H : AHeap} {K : Nat → Bool → AHeap → Prop} (h : K (p_impl_finite x).1 (p_impl_finite x).2 H) : T_impl_finite x H K := h
/-! impl_finite: function 65 -/
def E_impl_finite : Env := envOf [(59, S_impl_IsFinite)]
def F_impl_finite : List Value → AHeap → (Value → AHeap → Prop) → Prop
  | [.float .f32 x], H, K => T_impl_finite x H fun (r1 : Nat) (r2 : Bool) (H' : AHeap) => K (.tuple #[.float .f32 r1, .bool r2]) H'
  | _, _, _ => False
def S_impl_finite : FSpec := { F := F_impl_finite, quiet := true, tame := false }
theorem impl_finite_vc (x : Nat) (H : AHeap) (K : Value → AHeap → Prop) : bodyK Try.prog E_impl_finite Try.f65 [.float .f32 x] H K =
  (T_impl_IsFinite x H fun (r1 : Bool) (H1 : AHeap) => Br (!r1) (K (.tuple #[.float .f32 0, .bool false]) H1) (K (.tuple #[.float .f32 x, .bool true]) H1)) := by kernel_rfl
theorem E_impl_finite_ok : ∀ g, FnOk Try.prog g (E_impl_finite g) := FnOk.envOf (by
  intro x hx
  simp only [List.mem_cons, List.not_mem_nil, or_false] at hx
  subst hx; exact impl_IsFinite_ok)
set_option maxHeartbeats 1000000 in
theorem impl_finite_main (x : Nat) (H : AHeap) (K : Value → AHeap → Prop) (h : T_impl_finite x H fun (r1 : Nat) (r2 : Bool) (H' : AHeap) => K (.tuple #[.float .f32 r1, .bool r2]) H') : bodyK Try.prog E_impl_finite Try.f65 [.float .f32 x] H K := by
  rw [impl_finite_vc]
  simp only [T_impl_IsFinite]
  unfold T_impl_finite p_impl_finite at h
  repeat' (first | exact h | (exfalso; simp_all; done) | (refine ⟨by decide, ?_⟩) | (refine Br.intro (fun hb => ?_) (fun hb => ?_) <;> (try simp only [hb, cond_true, cond_false, Bool.not_true, Bool.not_false] at h)))
theorem impl_finite_ok : FnOk Try.prog 65 S_impl_finite := by
  refine FnOk.body mix_ok E_impl_finite_ok Try.func65 rfl (by kernel_rfl) (by kernel_rfl) ?_ ?_ ?_ ?_ ?_
  · intro args H K K' h hk
    simp only [S_impl_finite] at *
    unfold F_impl_finite at *
    split at hk
    · have k := hk
      exact h _ _ k
    · exact hk.elim
  · intro _ args H K hk
    simp only [S_impl_finite] at *
    unfold F_impl_finite at *
    split at hk
    · have k := hk
      exact ⟨_, k, fun K' k' => k'⟩
    · exact hk.elim
  · intro args H K hk
    simp only [S_impl_finite] at *
    unfold F_impl_finite at *
    split at hk
    · have k := hk
      exact ⟨_, _, k⟩
    · exact hk.elim
  · intro hq; cases hq
  · have mm := @impl_finite_main
    revert mm
    generalize bodyK Try.prog E_impl_finite Try.f65 = Q
    intro mm args H K hk
    simp only [S_impl_finite] at *
    unfold F_impl_finite at *
    split at hk
    · exact mm _ H K hk
    · exact hk.elim
def p_impl_RiskOf_l1 (l_list : List Nat) (noise : Nat) (limit : Nat) : Nat → Nat → Nat → Int → Nat × Bool
  | 0, _, _, _ => (0, false)
  | μ + 1, few, sum, t28 => (bif decide ((t28 : Int) < (l_list.length : Int)) then (bif !(flt .f32 limit ((p_impl_size (((l_list).getD (t28 : Int).toNat 0))))) then (p_impl_RiskOf_l1 l_list noise limit μ (fadd .f32 few 1065353216) (fadd .f32 sum (fmin .f32 (fmul .f32 (((l_list).getD (t28 : Int).toNat 0)) (((l_list).getD (t28 : Int).toNat 0))) (fmul .f32 limit limit))) (t28 + 1)) else (p_impl_RiskOf_l1 l_list noise limit μ few (fadd .f32 sum (fmin .f32 (fmul .f32 (((l_list).getD (t28 : Int).toNat 0)) (((l_list).getD (t28 : Int).toNat 0))) (fmul .f32 limit limit))) (t28 + 1))) else ((p_impl_finite (fadd .f32 (fmul .f32 (fmul .f32 noise noise) (fsub .f32 (FloatKind.nearest .f32 (l_list.length : Int)) (fmul .f32 1073741824 few))) sum)).1, (p_impl_finite (fadd .f32 (fmul .f32 (fmul .f32 noise noise) (fsub .f32 (FloatKind.nearest .f32 (l_list.length : Int)) (fmul .f32 1073741824 few))) sum)).2))
theorem p_impl_RiskOf_l1_s (l_list : List Nat) (noise : Nat) (limit : Nat) (μ : Nat) (few : Nat) (sum : Nat) (t28 : Int) : p_impl_RiskOf_l1 l_list noise limit (μ + 1) few sum t28 = (bif decide ((t28 : Int) < (l_list.length : Int)) then (bif !(flt .f32 limit ((p_impl_size (((l_list).getD (t28 : Int).toNat 0))))) then (p_impl_RiskOf_l1 l_list noise limit μ (fadd .f32 few 1065353216) (fadd .f32 sum (fmin .f32 (fmul .f32 (((l_list).getD (t28 : Int).toNat 0)) (((l_list).getD (t28 : Int).toNat 0))) (fmul .f32 limit limit))) (t28 + 1)) else (p_impl_RiskOf_l1 l_list noise limit μ few (fadd .f32 sum (fmin .f32 (fmul .f32 (((l_list).getD (t28 : Int).toNat 0)) (((l_list).getD (t28 : Int).toNat 0))) (fmul .f32 limit limit))) (t28 + 1))) else ((p_impl_finite (fadd .f32 (fmul .f32 (fmul .f32 noise noise) (fsub .f32 (FloatKind.nearest .f32 (l_list.length : Int)) (fmul .f32 1073741824 few))) sum)).1, (p_impl_finite (fadd .f32 (fmul .f32 (fmul .f32 noise noise) (fsub .f32 (FloatKind.nearest .f32 (l_list.length : Int)) (fmul .f32 1073741824 few))) sum)).2)) := rfl
def p_impl_RiskOf (l_list : List Nat) (noise : Nat) (limit : Nat) : Nat × Bool := (bif !(p_impl_isLong l_list) then (0, false) else (bif !(p_impl_isOver noise) then (0, false) else (bif !(p_impl_isLeast limit) then (0, false) else (p_impl_RiskOf_l1 l_list noise limit (Int.toNat ((l_list.length : Int) - (0 : Int)) + 1) 0 0 (0 : Int)))))
theorem p_impl_RiskOf_eq (l_list : List Nat) (noise : Nat) (limit : Nat) : p_impl_RiskOf l_list noise limit = (bif !(p_impl_isLong l_list) then (0, false) else (bif !(p_impl_isOver noise) then (0, false) else (bif !(p_impl_isLeast limit) then (0, false) else (p_impl_RiskOf_l1 l_list noise limit (Int.toNat ((l_list.length : Int) - (0 : Int)) + 1) 0 0 (0 : Int))))) := rfl
def T_impl_RiskOf (list_a : Option Addr) (list_n : Nat) (list_e : Nat) (noise : Nat) (limit : Nat) (H : AHeap) (K : Nat → Bool → AHeap → Prop) : Prop := ∃ (l_list : List Nat), IsL fF H list_a list_n l_list ∧ l_list.length < 1073741824 ∧ ((∀ H' : AHeap, Grow H H' → K ((p_impl_RiskOf l_list noise limit).1) ((p_impl_RiskOf l_list noise limit).2) H'))
theorem T_impl_RiskOf_i {list_a : Option Addr} {list_n : Nat} {list_e : Nat} {noise : Nat} {limit : Nat} {H : AHeap} {K : Nat → Bool → AHeap → Prop} (h : ∃ (l_list : List Nat), IsL fF H list_a list_n l_list ∧ l_list.length < 1073741824 ∧ ((∀ H' : AHeap, Grow H H' → K ((p_impl_RiskOf l_list noise limit).1) ((p_impl_RiskOf l_list noise limit).2) H'))) : T_impl_RiskOf list_a list_n list_e noise limit H K := h

/-! impl_RiskOf: function 40 -/
def E_impl_RiskOf : Env := envOf [(64, S_impl_isLong), (71, S_impl_isOver), (55, S_impl_isLeast), (72, S_impl_size), (65, S_impl_finite)]
def F_impl_RiskOf : List Value → AHeap → (Value → AHeap → Prop) → Prop
  | [.slice list_a list_n list_e, .float .f32 noise, .float .f32 limit], H, K => T_impl_RiskOf list_a list_n list_e noise limit H fun (r1 : Nat) (r2 : Bool) (H' : AHeap) => K (.tuple #[.float .f32 r1, .bool r2]) H'
  | _, _, _ => False
def S_impl_RiskOf : FSpec := { F := F_impl_RiskOf, quiet := false, tame := true }
theorem impl_RiskOf_vc (list_a : Option Addr) (list_n : Nat) (list_e : Nat) (noise : Nat) (limit : Nat) (H : AHeap) (K : Value → AHeap → Prop) : bodyK Try.prog E_impl_RiskOf Try.f40 [.slice list_a list_n list_e, .float .f32 noise, .float .f32 limit] H K =
  (T_impl_isLong list_a list_n list_e H fun (r1 : Bool) (H1 : AHeap) => Br (!r1) (K (.tuple #[.float .f32 0, .bool false]) H1) (T_impl_isOver noise H1 fun (r2 : Bool) (H2 : AHeap) => Br (!r2) (K (.tuple #[.float .f32 0, .bool false]) H2) (T_impl_isLeast limit H2 fun (r3 : Bool) (H3 : AHeap) => Br (!r3) (K (.tuple #[.float .f32 0, .bool false]) H3) (loopK (exK Try.prog E_impl_RiskOf (cl (cl (cr (cl (cr (cr (cr (bodyC Try.f40))))))))) [.slice list_a list_n list_e, .float .f32 noise, .float .f32 limit, undef, undef, undef, .float .f32 0, .bool false, .float .f32 0, .float .f32 0, undef, undef, undef, .slice list_a list_n list_e, .bool r1, .bool (!r1), .bool false, .float .f32 noise, .bool r2, .bool (!r2), .bool (!r2), .bool false, .float .f32 limit, .bool r3, .bool (!r3), .bool (!r3), .slice list_a list_n list_e, .int .i64 (list_n : Int), .int .i64 0, undef, undef, undef, undef, undef, undef, undef, undef, undef, undef, undef, undef, undef, undef, undef, undef, undef, undef, undef, undef, undef, undef, undef, undef, undef, undef, undef, undef, undef, undef, undef, undef, undef, undef, undef, undef] H3 (blockQ 0 (seqQ (exK Try.prog E_impl_RiskOf (cr (cr (cr (cr (bodyC Try.f40)))))) (retK Try.prog Try.f40 K))))))) := by kernel_rfl
theorem impl_RiskOf_r1 (limit : Nat) (list_a : Option Addr) (list_e : Nat) (list_n : Nat) (noise : Nat) (r1 : Bool) (r2 : Bool) (r3 : Bool) (few : Nat) (sum : Nat) (t28 : Int) (g11 g29 g30 g31 g32 g33 g34 g35 g36 g37 g38 g39 g40 g41 g42 g43 g44 g45 g46 g47 g48 : Value) (H : AHeap) (R : Post) : exK Try.prog E_impl_RiskOf (cl (cl (cr (cl (cr (cr (cr (bodyC Try.f40)))))))) [.slice list_a list_n list_e, .float .f32 noise, .float .f32 limit, undef, undef, undef, .float .f32 0, .bool false, .float .f32 few, .float .f32 sum, undef, g11, undef, .slice list_a list_n list_e, .bool r1, .bool (!r1), .bool false, .float .f32 noise, .bool r2, .bool (!r2), .bool (!r2), .bool false, .float .f32 limit, .bool r3, .bool (!r3), .bool (!r3), .slice list_a list_n list_e, .int .i64 (list_n : Int), .int .i64 t28, g29, g30, g31, g32, g33, g34, g35, g36, g37, g38, g39, g40, g41, g42, g43, g44, g45, g46, g47, g48, undef, undef, undef, undef, undef, undef, undef, undef, undef, undef, undef, undef, undef, undef, undef, undef] H R =
  (Br (decide ((t28 : Int) < (list_n : Int))) ((0 : Int) ≤ t28 ∧ t28 < (list_n : Int) ∧ ∃ b1 f1, (list_a : Option Addr) = some ⟨b1, f1, none⟩ ∧ ∃ x1 : Nat,  rdC H b1 (f1 + (t28 : Int).toNat * 1) = some (.float .f32 x1) ∧ T_impl_size x1 H fun (r4 : Nat) (H4 : AHeap) => Br (!(flt .f32 limit r4)) (R .normal [.slice list_a list_n list_e, .float .f32 noise, .float .f32 limit, undef, undef, undef, .float .f32 0, .bool false, .float .f32 (fadd .f32 few 1065353216), .float .f32 (fadd .f32 sum (fmin .f32 (fmul .f32 x1 x1) (fmul .f32 limit limit))), undef, .float .f32 x1, undef, .slice list_a list_n list_e, .bool r1, .bool (!r1), .bool false, .float .f32 noise, .bool r2, .bool (!r2), .bool (!r2), .bool false, .float .f32 limit, .bool r3, .bool (!r3), .bool (!r3), .slice list_a list_n list_e, .int .i64 (list_n : Int), .int .i64 (IntKind.wrap .i64 (t28 + 1)), .bool (decide ((t28 : Int) < (list_n : Int))), .pointer (some ⟨b1, f1 + (t28 : Int).toNat * 1, none⟩), .float .f32 x1, .float .f32 x1, .float .f32 r4, .float .f32 limit, .bool (flt .f32 limit r4), .bool (!(flt .f32 limit r4)), .float .f32 few, .float .f32 (fadd .f32 few 1065353216), .float .f32 sum, .float .f32 x1, .float .f32 x1, .float .f32 (fmul .f32 x1 x1), .float .f32 limit, .float .f32 limit, .float .f32 (fmul .f32 limit limit), .float .f32 (fmin .f32 (fmul .f32 x1 x1) (fmul .f32 limit limit)), .float .f32 (fadd .f32 sum (fmin .f32 (fmul .f32 x1 x1) (fmul .f32 limit limit))), .int .i64 (IntKind.wrap .i64 (t28 + 1)), undef, undef, undef, undef, undef, undef, undef, undef, undef, undef, undef, undef, undef, undef, undef, undef] H4) (R .normal [.slice list_a list_n list_e, .float .f32 noise, .float .f32 limit, undef, undef, undef, .float .f32 0, .bool false, .float .f32 few, .float .f32 (fadd .f32 sum (fmin .f32 (fmul .f32 x1 x1) (fmul .f32 limit limit))), undef, .float .f32 x1, undef, .slice list_a list_n list_e, .bool r1, .bool (!r1), .bool false, .float .f32 noise, .bool r2, .bool (!r2), .bool (!r2), .bool false, .float .f32 limit, .bool r3, .bool (!r3), .bool (!r3), .slice list_a list_n list_e, .int .i64 (list_n : Int), .int .i64 (IntKind.wrap .i64 (t28 + 1)), .bool (decide ((t28 : Int) < (list_n : Int))), .pointer (some ⟨b1, f1 + (t28 : Int).toNat * 1, none⟩), .float .f32 x1, .float .f32 x1, .float .f32 r4, .float .f32 limit, .bool (flt .f32 limit r4), .bool (!(flt .f32 limit r4)), g37, g38, .float .f32 sum, .float .f32 x1, .float .f32 x1, .float .f32 (fmul .f32 x1 x1), .float .f32 limit, .float .f32 limit, .float .f32 (fmul .f32 limit limit), .float .f32 (fmin .f32 (fmul .f32 x1 x1) (fmul .f32 limit limit)), .float .f32 (fadd .f32 sum (fmin .f32 (fmul .f32 x1 x1) (fmul .f32 limit limit))), .int .i64 (IntKind.wrap .i64 (t28 + 1)), undef, undef, undef, undef, undef, undef, undef, undef, undef, undef, undef, undef, undef, undef, undef, undef] H4)) (R (.exit 0) [.slice list_a list_n list_e, .float .f32 noise, .float .f32 limit, undef, undef, undef, .float .f32 0, .bool false, .float .f32 few, .float .f32 sum, undef, g11, undef, .slice list_a list_n list_e, .bool r1, .bool (!r1), .bool false, .float .f32 noise, .bool r2, .bool (!r2), .bool (!r2), .bool false, .float .f32 limit, .bool r3, .bool (!r3), .bool (!r3), .slice list_a list_n list_e, .int .i64 (list_n : Int), .int .i64 t28, .bool (decide ((t28 : Int) < (list_n : Int))), g30, g31, g32, g33, g34, g35, g36, g37, g38, g39, g40, g41, g42, g43, g44, g45, g46, g47, g48, undef, undef, undef, undef, undef, undef, undef, undef, undef, undef, undef, undef, undef, undef, undef, undef] H)) := by kernel_rfl
def impl_RiskOf_I1 (limit : Nat) (list_a : Option Addr) (list_e : Nat) (list_n : Nat) (noise : Nat) (r1 : Bool) (r2 : Bool) (r3 : Bool) (Inv : Nat → Nat → Nat → Int → AHeap → Prop) : Nat → List Value → AHeap → Prop := fun μ tm H => ∃ (few : Nat), ∃ (sum : Nat), ∃ (t28 : Int), ∃ g11 g29 g30 g31 g32 g33 g34 g35 g36 g37 g38 g39 g40 g41 g42 g43 g44 g45 g46 g47 g48, tm = [.slice list_a list_n list_e, .float .f32 noise, .float .f32 limit, undef, undef, undef, .float .f32 0, .bool false, .float .f32 few, .float .f32 sum, undef, g11, undef, .slice list_a list_n list_e, .bool r1, .bool (!r1), .bool false, .float .f32 noise, .bool r2, .bool (!r2), .bool (!r2), .bool false, .float .f32 limit, .bool r3, .bool (!r3), .bool (!r3), .slice list_a list_n list_e, .int .i64 (list_n : Int), .int .i64 t28, g29, g30, g31, g32, g33, g34, g35, g36, g37, g38, g39, g40, g41, g42, g43, g44, g45, g46, g47, g48, undef, undef, undef, undef, undef, undef, undef, undef, undef, undef, undef, undef, undef, undef, undef, undef] ∧ Inv μ few sum t28 H
theorem impl_RiskOf_L1 (limit : Nat) (list_a : Option Addr) (list_e : Nat) (list_n : Nat) (noise : Nat) (r1 : Bool) (r2 : Bool) (r3 : Bool) {Q : Post} (Inv : Nat → Nat → Nat → Int → AHeap → Prop) (ν : Nat) (few : Nat) (sum : Nat) (t28 : Int) (g11 g29 g30 g31 g32 g33 g34 g35 g36 g37 g38 g39 g40 g41 g42 g43 g44 g45 g46 g47 g48 : Value) (H : AHeap) (h0 : Inv ν few sum t28 H)
    (hs : ∀ (μ : Nat) (few : Nat) (sum : Nat) (t28 : Int) (g11 g29 g30 g31 g32 g33 g34 g35 g36 g37 g38 g39 g40 g41 g42 g43 g44 g45 g46 g47 g48 : Value) (H : AHeap), Inv μ few sum t28 H → exK Try.prog E_impl_RiskOf (cl (cl (cr (cl (cr (cr (cr (bodyC Try.f40)))))))) [.slice list_a list_n list_e, .float .f32 noise, .float .f32 limit, undef, undef, undef, .float .f32 0, .bool false, .float .f32 few, .float .f32 sum, undef, g11, undef, .slice list_a list_n list_e, .bool r1, .bool (!r1), .bool false, .float .f32 noise, .bool r2, .bool (!r2), .bool (!r2), .bool false, .float .f32 limit, .bool r3, .bool (!r3), .bool (!r3), .slice list_a list_n list_e, .int .i64 (list_n : Int), .int .i64 t28, g29, g30, g31, g32, g33, g34, g35, g36, g37, g38, g39, g40, g41, g42, g43, g44, g45, g46, g47, g48, undef, undef, undef, undef, undef, undef, undef, undef, undef, undef, undef, undef, undef, undef, undef, undef] H (loopQ (impl_RiskOf_I1 limit list_a list_e list_n noise r1 r2 r3 Inv) μ Q)) : loopK (exK Try.prog E_impl_RiskOf (cl (cl (cr (cl (cr (cr (cr (bodyC Try.f40))))))))) [.slice list_a list_n list_e, .float .f32 noise, .float .f32 limit, undef, undef, undef, .float .f32 0, .bool false, .float .f32 few, .float .f32 sum, undef, g11, undef, .slice list_a list_n list_e, .bool r1, .bool (!r1), .bool false, .float .f32 noise, .bool r2, .bool (!r2), .bool (!r2), .bool false, .float .f32 limit, .bool r3, .bool (!r3), .bool (!r3), .slice list_a list_n list_e, .int .i64 (list_n : Int), .int .i64 t28, g29, g30, g31, g32, g33, g34, g35, g36, g37, g38, g39, g40, g41, g42, g43, g44, g45, g46, g47, g48, undef, undef, undef, undef, undef, undef, undef, undef, undef, undef, undef, undef, undef, undef, undef, undef] H Q :=
  ⟨impl_RiskOf_I1 limit list_a list_e list_n noise r1 r2 r3 Inv, ν, ⟨few, sum, t28, g11, g29, g30, g31, g32, g33, g34, g35, g36, g37, g38, g39, g40, g41, g42, g43, g44, g45, g46, g47, g48, rfl, h0⟩, fun μ tm H h => by obtain ⟨few, sum, t28, g11, g29, g30, g31, g32, g33, g34, g35, g36, g37, g38, g39, g40, g41, g42, g43, g44, g45, g46, g47, g48, rfl, hI⟩ := h; exact hs μ few sum t28 g11 g29 g30 g31 g32 g33 g34 g35 g36 g37 g38 g39 g40 g41 g42 g43 g44 g45 g46 g47 g48 H hI⟩
theorem impl_RiskOf_n1 {limit : Nat} {list_a : Option Addr} {list_e : Nat} {list_n : Nat} {noise : Nat} {r1 : Bool} {r2 : Bool} {r3 : Bool} {Q : Post} {Inv : Nat → Nat → Nat → Int → AHeap → Prop} {μ : Nat} (μ' : Nat) {few : Nat} {sum : Nat} {t28 : Int} {g11 g29 g30 g31 g32 g33 g34 g35 g36 g37 g38 g39 g40 g41 g42 g43 g44 g45 g46 g47 g48 : Value} {H : AHeap} (hm : μ' < μ) (hI : Inv μ' few sum t28 H) : loopQ (impl_RiskOf_I1 limit list_a list_e list_n noise r1 r2 r3 Inv) μ Q .normal [.slice list_a list_n list_e, .float .f32 noise, .float .f32 limit, undef, undef, undef, .float .f32 0, .bool false, .float .f32 few, .float .f32 sum, undef, g11, undef, .slice list_a list_n list_e, .bool r1, .bool (!r1), .bool false, .float .f32 noise, .bool r2, .bool (!r2), .bool (!r2), .bool false, .float .f32 limit, .bool r3, .bool (!r3), .bool (!r3), .slice list_a list_n list_e, .int .i64 (list_n : Int), .int .i64 t28, g29, g30, g31, g32, g33, g34, g35, g36, g37, g38, g39, g40, g41, g42, g43, g44, g45, g46, g47, g48, undef, undef, undef, undef, undef, undef, undef, undef, undef, undef, undef, undef, undef, undef, undef, undef] H := ⟨μ', hm, few, sum, t28, g11, g29, g30, g31, g32, g33, g34, g35, g36, g37, g38, g39, g40, g41, g42, g43, g44, g45, g46, g47, g48, rfl, hI⟩
theorem impl_RiskOf_x1_0 (limit : Nat) (list_a : Option Addr) (list_e : Nat) (list_n : Nat) (noise : Nat) (r1 : Bool) (r2 : Bool) (r3 : Bool) (few : Nat) (sum : Nat) (t28 : Int) (g11 g29 g30 g31 g32 g33 g34 g35 g36 g37 g38 g39 g40 g41 g42 g43 g44 g45 g46 g47 g48 : Value) (H : AHeap) (K : Value → AHeap → Prop)  {I : Nat → List Value → AHeap → Prop} {μ : Nat} : loopQ I μ (blockQ 0 (seqQ (exK Try.prog E_impl_RiskOf (cr (cr (cr (cr (bodyC Try.f40)))))) (retK Try.prog Try.f40 K))) (.exit 0) [.slice list_a list_n list_e, .float .f32 noise, .float .f32 limit, undef, undef, undef, .float .f32 0, .bool false, .float .f32 few, .float .f32 sum, undef, g11, undef, .slice list_a list_n list_e, .bool r1, .bool (!r1), .bool false, .float .f32 noise, .bool r2, .bool (!r2), .bool (!r2), .bool false, .float .f32 limit, .bool r3, .bool (!r3), .bool (!r3), .slice list_a list_n list_e, .int .i64 (list_n : Int), .int .i64 t28, g29, g30, g31, g32, g33, g34, g35, g36, g37, g38, g39, g40, g41, g42, g43, g44, g45, g46, g47, g48, undef, undef, undef, undef, undef, undef, undef, undef, undef, undef, undef, undef, undef, undef, undef, undef] H =
  (T_impl_finite (fadd .f32 (fmul .f32 (fmul .f32 noise noise) (fsub .f32 (FloatKind.nearest .f32 (list_n : Int)) (fmul .f32 1073741824 few))) sum) H fun (r5 : Nat) (r6 : Bool) (H5 : AHeap) => K (.tuple #[.float .f32 r5, .bool r6]) H5) := by kernel_rfl
theorem E_impl_RiskOf_ok : ∀ g, FnOk Try.prog g (E_impl_RiskOf g) := FnOk.envOf (by
  intro x hx
  simp only [List.mem_cons, List.not_mem_nil, or_false] at hx
  rcases hx with rfl | rfl | rfl | rfl | rfl
  · exact impl_isLong_ok
  · exact impl_isOver_ok
  · exact impl_isLeast_ok
  · exact impl_size_ok
  · exact impl_finite_ok)
set_option maxHeartbeats 1000000 in
theorem impl_RiskOf_main (list_a : Option Addr) (list_n : Nat) (list_e : Nat) (noise : Nat) (limit : Nat) (H : AHeap) (K : Value → AHeap → Prop) (h : T_impl_RiskOf list_a list_n list_e noise limit H fun (r1 : Nat) (r2 : Bool) (H' : AHeap) => K (.tuple #[.float .f32 r1, .bool r2]) H') : bodyK Try.prog E_impl_RiskOf Try.f40 [.slice list_a list_n list_e, .float .f32 noise, .float .f32 limit] H K := by
  rw [impl_RiskOf_vc]
  obtain ⟨l_list, i_list, bd_16, hk⟩ := h
  obtain rfl := i_list.eqn
  have e : (p_impl_RiskOf l_list noise limit) = _ := rfl
  have e := e.trans (p_impl_RiskOf_eq l_list noise limit)
  have g0 := Grow.refl H
  refine T_impl_isLong_i ⟨_, (i_list.grow g0), (by first | omega | (simp only [List.length_set, List.length_replicate, List.length_append, List.length_cons, List.length_nil, List.length_take, List.length_drop, marks_length]; done) | (simp only [List.length_set, List.length_replicate, List.length_append, List.length_cons, List.length_nil, List.length_take, List.length_drop, marks_length]; omega)), fun  H_1 g_1  => ?_⟩
  have l_2 := g_1.1
  have g_3 := g0.trans g_1
  have l_4 := g_3.1
  refine Br.intro (fun c_5 => ?_) (fun c_5 => ?_)
  · have e := e.trans (cond_t c_5)
    have c_5n := nf_of_t c_5
    rw [e] at hk
    exact hk  H_1 g_3 
  · have e := e.trans (cond_f c_5)
    have c_5n := nt_of_f c_5
    refine T_impl_isOver_i ?_
    refine Br.intro (fun c_6 => ?_) (fun c_6 => ?_)
    · have e := e.trans (cond_t c_6)
      have c_6n := nf_of_t c_6
      rw [e] at hk
      exact hk  H_1 g_3 
    · have e := e.trans (cond_f c_6)
      have c_6n := nt_of_f c_6
      refine T_impl_isLeast_i ?_
      refine Br.intro (fun c_7 => ?_) (fun c_7 => ?_)
      · have e := e.trans (cond_t c_7)
        have c_7n := nf_of_t c_7
        rw [e] at hk
        exact hk  H_1 g_3 
      · have e := e.trans (cond_f c_7)
        have c_7n := nt_of_f c_7
        refine impl_RiskOf_L1 _ _ _ _ _ _ _ _ (fun (μ : Nat) (few : Nat) (sum : Nat) (t28 : Int) (H_2 : AHeap) => H_1 = H_2 ∧ (0 : Int) ≤ t28 ∧ t28 ≤ (l_list.length : Int) ∧ (l_list.length : Int) - t28 ≤ (μ : Int) ∧ p_impl_RiskOf l_list noise limit = p_impl_RiskOf_l1 l_list noise limit (μ + 1) few sum t28) (Int.toNat ((l_list.length : Int) - (0 : Int))) _ _ _ _ _ _ _ _ _ _ _ _ _ _ _ _ _ _ _ _ _ _ _ _ H_1 ?_ ?_
        · exact ⟨rfl, (by first | omega | (simp; done) | (simp; omega)), (by first | omega | (simp; done) | (simp; omega)), (by omega), e⟩
        · intro μ few sum t28 g11 g29 g30 g31 g32 g33 g34 g35 g36 g37 g38 g39 g40 g41 g42 g43 g44 g45 g46 g47 g48 H_2 hI
          obtain ⟨rfl, v_8, v_9, hμ, e⟩ := hI
          rw [impl_RiskOf_r1]
          have e := e.trans (p_impl_RiskOf_l1_s l_list noise limit μ few sum t28)
          have l_10 := g_3.1
          refine Br.intro (fun c_11 => ?_) (fun c_11 => ?_)
          · have e := e.trans (cond_t c_11)
            have c_11' := of_decide_eq_true c_11
            obtain ⟨b_12, f_13, q_14⟩ := ((i_list.grow g_3)).pos (by first | omega | (simp only [List.length_set, List.length_replicate, List.length_append, List.length_cons, List.length_nil, List.length_take, List.length_drop, marks_length]; done) | (simp only [List.length_set, List.length_replicate, List.length_append, List.length_cons, List.length_nil, List.length_take, List.length_drop, marks_length]; omega))
            refine ⟨by omega, by omega, b_12, f_13, q_14, ?_⟩
            refine ⟨((l_list).getD (t28 : Int).toNat 0), (i_list).rd g_3 q_14 (by omega) _, ?_⟩
            refine T_impl_size_i ?_
            refine Br.intro (fun c_15 => ?_) (fun c_15 => ?_)
            · have e := e.trans (cond_t c_15)
              have c_15n := nf_of_t c_15
              rw [show IntKind.wrap .i64 (t28 + 1) = (t28 + 1) from wrap64 (by omega) (by omega)]
              refine impl_RiskOf_n1 (μ - 1) (by omega) ⟨rfl, (by first | omega | (simp only [List.length_append, List.length_cons, List.length_nil, List.length_set]; done) | (simp only [List.length_append, List.length_cons, List.length_nil, List.length_set]; omega)), (by first | omega | (simp only [List.length_append, List.length_cons, List.length_nil, List.length_set]; done) | (simp only [List.length_append, List.length_cons, List.length_nil, List.length_set]; omega)), (by omega), (by rw [show μ - 1 + 1 = μ from by omega]; exact e)⟩
            · have e := e.trans (cond_f c_15)
              have c_15n := nt_of_f c_15
              rw [show IntKind.wrap .i64 (t28 + 1) = (t28 + 1) from wrap64 (by omega) (by omega)]
              refine impl_RiskOf_n1 (μ - 1) (by omega) ⟨rfl, (by first | omega | (simp only [List.length_append, List.length_cons, List.length_nil, List.length_set]; done) | (simp only [List.length_append, List.length_cons, List.length_nil, List.length_set]; omega)), (by first | omega | (simp only [List.length_append, List.length_cons, List.length_nil, List.length_set]; done) | (simp only [List.length_append, List.length_cons, List.length_nil, List.length_set]; omega)), (by omega), (by rw [show μ - 1 + 1 = μ from by omega]; exact e)⟩
          · have e := e.trans (cond_f c_11)
            have c_11' := of_decide_eq_false c_11
            rw [impl_RiskOf_x1_0]
            refine T_impl_finite_i ?_
            rw [e] at hk
            exact hk  H_1 g_3 
theorem impl_RiskOf_ok : FnOk Try.prog 40 S_impl_RiskOf := by
  refine FnOk.body mix_ok E_impl_RiskOf_ok Try.func40 rfl (by kernel_rfl) (by kernel_rfl) ?_ ?_ ?_ ?_ ?_
  · intro args H K K' h hk
    simp only [S_impl_RiskOf] at *
    unfold F_impl_RiskOf at *
    split at hk
    · obtain ⟨l_list, i_list, bd_16, k⟩ := hk
      exact ⟨l_list, i_list, bd_16, (fun  H' gg  => h _ _ (k  H' gg ))⟩
    · exact hk.elim
  · intro hq; cases hq
  · intro args H K hk
    simp only [S_impl_RiskOf] at *
    unfold F_impl_RiskOf at *
    split at hk
    · obtain ⟨l_list, i_list, bd_16, k⟩ := hk
      exact ⟨_, _, k H (Grow.refl H)⟩
    · exact hk.elim
  · intro _ args H K hk
    simp only [S_impl_RiskOf] at *
    unfold F_impl_RiskOf at *
    split at hk
    · obtain ⟨l_list, i_list, bd_16, k⟩ := hk
      exact ⟨l_list, i_list, bd_16, (fun  H' gg  => ⟨gg, k  H' gg ⟩)⟩
    · exact hk.elim
  · have mm := @impl_RiskOf_main
    revert mm
    generalize bodyK Try.prog E_impl_RiskOf Try.f40 = Q
    intro mm args H K hk
    simp only [S_impl_RiskOf] at *
    unfold F_impl_RiskOf at *
    split at hk
    · exact mm _ _ _ _ _ H K hk
    · exact hk.elim
def p_impl_BestLimit_l1 (l_list : List Nat) (noise : Nat) : Nat → Nat → Nat → Bool → Nat → Nat → Bool → Int → Nat × Nat × Bool
  | 0, _, _, _, _, _, _, _ => (0, 0, false)
  | μ + 1, t4, t5, t6, best, least, ok, t19 => (bif decide ((t19 : Int) < (1 + (((p_impl_sizes l_list)).length) : Int)) then (bif !((p_impl_RiskOf l_list noise (((([0] ++ (p_impl_sizes l_list))).getD (t19 : Int).toNat 0))).2) then (0, 0, false) else (bif !ok then (p_impl_BestLimit_l1 l_list noise μ t4 t5 t6 (((([0] ++ (p_impl_sizes l_list))).getD (t19 : Int).toNat 0)) ((p_impl_RiskOf l_list noise (((([0] ++ (p_impl_sizes l_list))).getD (t19 : Int).toNat 0))).1) true (t19 + 1)) else (bif flt .f32 ((p_impl_RiskOf l_list noise (((([0] ++ (p_impl_sizes l_list))).getD (t19 : Int).toNat 0))).1) least then (p_impl_BestLimit_l1 l_list noise μ t4 t5 t6 (((([0] ++ (p_impl_sizes l_list))).getD (t19 : Int).toNat 0)) ((p_impl_RiskOf l_list noise (((([0] ++ (p_impl_sizes l_list))).getD (t19 : Int).toNat 0))).1) true (t19 + 1)) else (p_impl_BestLimit_l1 l_list noise μ t4 t5 t6 best least ok (t19 + 1))))) else (best, least, ok))
theorem p_impl_BestLimit_l1_s (l_list : List Nat) (noise : Nat) (μ : Nat) (t4 : Nat) (t5 : Nat) (t6 : Bool) (best : Nat) (least : Nat) (ok : Bool) (t19 : Int) : p_impl_BestLimit_l1 l_list noise (μ + 1) t4 t5 t6 best least ok t19 = (bif decide ((t19 : Int) < (1 + (((p_impl_sizes l_list)).length) : Int)) then (bif !((p_impl_RiskOf l_list noise (((([0] ++ (p_impl_sizes l_list))).getD (t19 : Int).toNat 0))).2) then (0, 0, false) else (bif !ok then (p_impl_BestLimit_l1 l_list noise μ t4 t5 t6 (((([0] ++ (p_impl_sizes l_list))).getD (t19 : Int).toNat 0)) ((p_impl_RiskOf l_list noise (((([0] ++ (p_impl_sizes l_list))).getD (t19 : Int).toNat 0))).1) true (t19 + 1)) else (bif flt .f32 ((p_impl_RiskOf l_list noise (((([0] ++ (p_impl_sizes l_list))).getD (t19 : Int).toNat 0))).1) least then (p_impl_BestLimit_l1 l_list noise μ t4 t5 t6 (((([0] ++ (p_impl_sizes l_list))).getD (t19 : Int).toNat 0)) ((p_impl_RiskOf l_list noise (((([0] ++ (p_impl_sizes l_list))).getD (t19 : Int).toNat 0))).1) true (t19 + 1)) else (p_impl_BestLimit_l1 l_list noise μ t4 t5 t6 best least ok (t19 + 1))))) else (best, least, ok)) := rfl
def p_impl_BestLimit (l_list : List Nat) (noise : Nat) : Nat × Nat × Bool := (p_impl_BestLimit_l1 l_list noise (Int.toNat ((1 + (((p_impl_sizes l_list)).length) : Int) - (0 : Int)) + 1) 0 0 false 0 0 false (0 : Int))
theorem p_impl_BestLimit_eq (l_list : List Nat) (noise : Nat) : p_impl_BestLimit l_list noise = (p_impl_BestLimit_l1 l_list noise (Int.toNat ((1 + (((p_impl_sizes l_list)).length) : Int) - (0 : Int)) + 1) 0 0 false 0 0 false (0 : Int)) := rfl
def T_impl_BestLimit (list_a : Option Addr) (list_n : Nat) (list_e : Nat) (noise : Nat) (H : AHeap) (K : Nat → Nat → Bool → AHeap → Prop) : Prop := ∃ (l_list : List Nat), IsL fF H list_a list_n l_list ∧ l_list.length < 1073741824 ∧ ((∀ H' : AHeap, Grow H H' → K ((p_impl_BestLimit l_list noise).1) ((p_impl_BestLimit l_list noise).2.1) ((p_impl_BestLimit l_list noise).2.2) H'))
theorem T_impl_BestLimit_i {list_a : Option Addr} {list_n : Nat} {list_e : Nat} {noise : Nat} {H : AHeap} {K : Nat → Nat → Bool → AHeap → Prop} (h : ∃ (l_list : List Nat), IsL fF H list_a list_n l_list ∧ l_list.length < 1073741824 ∧ ((∀ H' : AHeap, Grow H H' → K ((p_impl_BestLimit l_list noise).1) ((p_impl_BestLimit l_list noise).2.1) ((p_impl_BestLimit l_list noise).2.2) H'))) : T_impl_BestLimit list_a list_n list_e noise H K := h

/-! impl_BestLimit: function 47 -/
def E_impl_BestLimit : Env := envOf [(79, S_impl_sizes), (40, S_impl_RiskOf)]
def F_impl_BestLimit : List Value → AHeap → (Value → AHeap → Prop) → Prop
  | [.slice list_a list_n list_e, .float .f32 noise], H, K => T_impl_BestLimit list_a list_n list_e noise H fun (r1 : Nat) (r2 : Nat) (r3 : Bool) (H' : AHeap) => K (.tuple #[.float .f32 r1, .float .f32 r2, .bool r3]) H'
  | _, _, _ => False
def S_impl_BestLimit : FSpec := { F := F_impl_BestLimit, quiet := false, tame := true }
theorem impl_BestLimit_vc (list_a : Option Addr) (list_n : Nat) (list_e : Nat) (noise : Nat) (H : AHeap) (K : Value → AHeap → Prop) : bodyK Try.prog E_impl_BestLimit Try.f47 [.slice list_a list_n list_e, .float .f32 noise] H K =
  (Al [.float .f32 0] H fun b1 H1 => T_impl_sizes list_a list_n list_e H1 fun (a1 : Option Addr) (r1 : Nat) (r2 : Nat) (H2 : AHeap) => ∃ o1 w1 : List Value, ownB H2 (some ⟨b1, 0, none⟩) 1 1 1 = some o1 ∧ rdS H2 a1 (r1 * 1) = some w1 ∧ ((some ⟨b1, 0, none⟩ : Option Addr) = none → 0 < (r1 : Nat)) ∧ (1 : Nat) + r1 < most ∧ Ap H2 (killB H2 (some ⟨b1, 0, none⟩) ++ [some ⟨o1 ++ w1, true⟩]) fun b2 H3 => loopK (exK Try.prog E_impl_BestLimit (cl (cl (cr (cl (cr (cr (bodyC Try.f47)))))))) [.slice list_a list_n list_e, .float .f32 noise, undef, undef, .float .f32 0, .float .f32 0, .bool false, .float .f32 0, .float .f32 0, .bool false, undef, undef, undef, undef, .slice (some ⟨b1, 0, none⟩) 1 1, .slice list_a list_n list_e, .slice a1 r1 r2, .slice (some ⟨b2, 0, none⟩) (1 + r1) 1, .int .i64 (1 + r1 : Int), .int .i64 0, undef, undef, undef, undef, undef, undef, undef, undef, undef, undef, undef, undef, undef, undef, undef, undef, undef, undef, undef, undef, undef, undef, undef, undef, undef] H3 (blockQ 0 (seqQ (exK Try.prog E_impl_BestLimit (cr (cr (cr (bodyC Try.f47))))) (retK Try.prog Try.f47 K)))) := by kernel_rfl
theorem impl_BestLimit_r1 (a1 : Option Addr) (b1 : Nat) (b2 : Nat) (list_a : Option Addr) (list_e : Nat) (list_n : Nat) (noise : Nat) (r1 : Nat) (r2 : Nat) (t4 : Nat) (t5 : Nat) (t6 : Bool) (best : Nat) (least : Nat) (ok : Bool) (t19 : Int) (g11 g12 g13 g20 g21 g22 g23 g24 g25 g26 g27 g28 g29 g30 g31 g32 g33 g34 g35 g36 g37 g38 g39 g40 g41 : Value) (H : AHeap) (R : Post) : exK Try.prog E_impl_BestLimit (cl (cl (cr (cl (cr (cr (bodyC Try.f47))))))) [.slice list_a list_n list_e, .float .f32 noise, undef, undef, .float .f32 t4, .float .f32 t5, .bool t6, .float .f32 best, .float .f32 least, .bool ok, undef, g11, g12, g13, .slice (some ⟨b1, 0, none⟩) 1 1, .slice list_a list_n list_e, .slice a1 r1 r2, .slice (some ⟨b2, 0, none⟩) (1 + r1) 1, .int .i64 (1 + r1 : Int), .int .i64 t19, g20, g21, g22, g23, g24, g25, g26, g27, g28, g29, g30, g31, g32, g33, g34, g35, g36, g37, g38, g39, g40, g41, undef, undef, undef] H R =
  (Br (decide ((t19 : Int) < (1 + r1 : Int))) ((0 : Int) ≤ t19 ∧ t19 < (1 + r1 : Int) ∧ ∃ b3 f1, (some ⟨b2, 0, none⟩ : Option Addr) = some ⟨b3, f1, none⟩ ∧ ∃ x1 : Nat,  rdC H b3 (f1 + (t19 : Int).toNat * 1) = some (.float .f32 x1) ∧ T_impl_RiskOf list_a list_n list_e noise x1 H fun (r3 : Nat) (r4 : Bool) (H4 : AHeap) => Br (!r4) (R .ret [.slice list_a list_n list_e, .float .f32 noise, undef, undef, .float .f32 0, .float .f32 0, .bool false, .float .f32 best, .float .f32 least, .bool ok, undef, .float .f32 x1, .float .f32 r3, .bool r4, .slice (some ⟨b1, 0, none⟩) 1 1, .slice list_a list_n list_e, .slice a1 r1 r2, .slice (some ⟨b2, 0, none⟩) (1 + r1) 1, .int .i64 (1 + r1 : Int), .int .i64 t19, .bool (decide ((t19 : Int) < (1 + r1 : Int))), .pointer (some ⟨b3, f1 + (t19 : Int).toNat * 1, none⟩), .float .f32 x1, .tuple #[.float .f32 r3, .bool r4], .slice list_a list_n list_e, .float .f32 noise, .float .f32 x1, .tuple #[.float .f32 r3, .bool r4], .float .f32 r3, .bool r4, .bool r4, .bool (!r4), g32, g33, g34, g35, g36, g37, g38, g39, g40, g41, undef, undef, undef] H4) (Br (!ok) (R .normal [.slice list_a list_n list_e, .float .f32 noise, undef, undef, .float .f32 t4, .float .f32 t5, .bool t6, .float .f32 x1, .float .f32 r3, .bool true, undef, .float .f32 x1, .float .f32 r3, .bool r4, .slice (some ⟨b1, 0, none⟩) 1 1, .slice list_a list_n list_e, .slice a1 r1 r2, .slice (some ⟨b2, 0, none⟩) (1 + r1) 1, .int .i64 (1 + r1 : Int), .int .i64 (IntKind.wrap .i64 (t19 + 1)), .bool (decide ((t19 : Int) < (1 + r1 : Int))), .pointer (some ⟨b3, f1 + (t19 : Int).toNat * 1, none⟩), .float .f32 x1, .tuple #[.float .f32 r3, .bool r4], .slice list_a list_n list_e, .float .f32 noise, .float .f32 x1, .tuple #[.float .f32 r3, .bool r4], .float .f32 r3, .bool r4, .bool r4, .bool (!r4), .bool ok, .bool (!ok), .bool true, undef, undef, undef, .bool true, .float .f32 x1, .float .f32 r3, .int .i64 (IntKind.wrap .i64 (t19 + 1)), undef, undef, undef] H4) (Br (flt .f32 r3 least) (R .normal [.slice list_a list_n list_e, .float .f32 noise, undef, undef, .float .f32 t4, .float .f32 t5, .bool t6, .float .f32 x1, .float .f32 r3, .bool true, undef, .float .f32 x1, .float .f32 r3, .bool r4, .slice (some ⟨b1, 0, none⟩) 1 1, .slice list_a list_n list_e, .slice a1 r1 r2, .slice (some ⟨b2, 0, none⟩) (1 + r1) 1, .int .i64 (1 + r1 : Int), .int .i64 (IntKind.wrap .i64 (t19 + 1)), .bool (decide ((t19 : Int) < (1 + r1 : Int))), .pointer (some ⟨b3, f1 + (t19 : Int).toNat * 1, none⟩), .float .f32 x1, .tuple #[.float .f32 r3, .bool r4], .slice list_a list_n list_e, .float .f32 noise, .float .f32 x1, .tuple #[.float .f32 r3, .bool r4], .float .f32 r3, .bool r4, .bool r4, .bool (!r4), .bool ok, .bool (!ok), .bool false, .float .f32 r3, .float .f32 least, .bool (flt .f32 r3 least), .bool (flt .f32 r3 least), .float .f32 x1, .float .f32 r3, .int .i64 (IntKind.wrap .i64 (t19 + 1)), undef, undef, undef] H4) (R .normal [.slice list_a list_n list_e, .float .f32 noise, undef, undef, .float .f32 t4, .float .f32 t5, .bool t6, .float .f32 best, .float .f32 least, .bool ok, undef, .float .f32 x1, .float .f32 r3, .bool r4, .slice (some ⟨b1, 0, none⟩) 1 1, .slice list_a list_n list_e, .slice a1 r1 r2, .slice (some ⟨b2, 0, none⟩) (1 + r1) 1, .int .i64 (1 + r1 : Int), .int .i64 (IntKind.wrap .i64 (t19 + 1)), .bool (decide ((t19 : Int) < (1 + r1 : Int))), .pointer (some ⟨b3, f1 + (t19 : Int).toNat * 1, none⟩), .float .f32 x1, .tuple #[.float .f32 r3, .bool r4], .slice list_a list_n list_e, .float .f32 noise, .float .f32 x1, .tuple #[.float .f32 r3, .bool r4], .float .f32 r3, .bool r4, .bool r4, .bool (!r4), .bool ok, .bool (!ok), .bool false, .float .f32 r3, .float .f32 least, .bool (flt .f32 r3 least), .bool (flt .f32 r3 least), g39, g40, .int .i64 (IntKind.wrap .i64 (t19 + 1)), undef, undef, undef] H4)))) (R (.exit 0) [.slice list_a list_n list_e, .float .f32 noise, undef, undef, .float .f32 t4, .float .f32 t5, .bool t6, .float .f32 best, .float .f32 least, .bool ok, undef, g11, g12, g13, .slice (some ⟨b1, 0, none⟩) 1 1, .slice list_a list_n list_e, .slice a1 r1 r2, .slice (some ⟨b2, 0, none⟩) (1 + r1) 1, .int .i64 (1 + r1 : Int), .int .i64 t19, .bool (decide ((t19 : Int) < (1 + r1 : Int))), g21, g22, g23, g24, g25, g26, g27, g28, g29, g30, g31, g32, g33, g34, g35, g36, g37, g38, g39, g40, g41, undef, undef, undef] H)) := by kernel_rfl
def impl_BestLimit_I1 (a1 : Option Addr) (b1 : Nat) (b2 : Nat) (list_a : Option Addr) (list_e : Nat) (list_n : Nat) (noise : Nat) (r1 : Nat) (r2 : Nat) (Inv : Nat → Nat → Nat → Bool → Nat → Nat → Bool → Int → AHeap → Prop) : Nat → List Value → AHeap → Prop := fun μ tm H => ∃ (t4 : Nat), ∃ (t5 : Nat), ∃ (t6 : Bool), ∃ (best : Nat), ∃ (least : Nat), ∃ (ok : Bool), ∃ (t19 : Int), ∃ g11 g12 g13 g20 g21 g22 g23 g24 g25 g26 g27 g28 g29 g30 g31 g32 g33 g34 g35 g36 g37 g38 g39 g40 g41, tm = [.slice list_a list_n list_e, .float .f32 noise, undef, undef, .float .f32 t4, .float .f32 t5, .bool t6, .float .f32 best, .float .f32 least, .bool ok, undef, g11, g12, g13, .slice (some ⟨b1, 0, none⟩) 1 1, .slice list_a list_n list_e, .slice a1 r1 r2, .slice (some ⟨b2, 0, none⟩) (1 + r1) 1, .int .i64 (1 + r1 : Int), .int .i64 t19, g20, g21, g22, g23, g24, g25, g26, g27, g28, g29, g30, g31, g32, g33, g34, g35, g36, g37, g38, g39, g40, g41, undef, undef, undef] ∧ Inv μ t4 t5 t6 best least ok t19 H
theorem impl_BestLimit_L1 (a1 : Option Addr) (b1 : Nat) (b2 : Nat) (list_a : Option Addr) (list_e : Nat) (list_n : Nat) (noise : Nat) (r1 : Nat) (r2 : Nat) {Q : Post} (Inv : Nat → Nat → Nat → Bool → Nat → Nat → Bool → Int → AHeap → Prop) (ν : Nat) (t4 : Nat) (t5 : Nat) (t6 : Bool) (best : Nat) (least : Nat) (ok : Bool) (t19 : Int) (g11 g12 g13 g20 g21 g22 g23 g24 g25 g26 g27 g28 g29 g30 g31 g32 g33 g34 g35 g36 g37 g38 g39 g40 g41 : Value) (H : AHeap) (h0 : Inv ν t4 t5 t6 best least ok t19 H)
    (hs : ∀ (μ : Nat) (t4 : Nat) (t5 : Nat) (t6 : Bool) (best : Nat) (least : Nat) (ok : Bool) (t19 : Int) (g11 g12 g13 g20 g21 g22 g23 g24 g25 g26 g27 g28 g29 g30 g31 g32 g33 g34 g35 g36 g37 g38 g39 g40 g41 : Value) (H : AHeap), Inv μ t4 t5 t6 best least ok t19 H → exK Try.prog E_impl_BestLimit (cl (cl (cr (cl (cr (cr (bodyC Try.f47))))))) [.slice list_a list_n list_e, .float .f32 noise, undef, undef, .float .f32 t4, .float .f32 t5, .bool t6, .float .f32 best, .float .f32 least, .bool ok, undef, g11, g12, g13, .slice (some ⟨b1, 0, none⟩) 1 1, .slice list_a list_n list_e, .slice a1 r1 r2, .slice (some ⟨b2, 0, none⟩) (1 + r1) 1, .int .i64 (1 + r1 : Int), .int .i64 t19, g20, g21, g22, g23, g24, g25, g26, g27, g28, g29, g30, g31, g32, g33, g34, g35, g36, g37, g38, g39, g40, g41, undef, undef, undef] H (loopQ (impl_BestLimit_I1 a1 b1 b2 list_a list_e list_n noise r1 r2 Inv) μ Q)) : loopK (exK Try.prog E_impl_BestLimit (cl (cl (cr (cl (cr (cr (bodyC Try.f47)))))))) [.slice list_a list_n list_e, .float .f32 noise, undef, undef, .float .f32 t4, .float .f32 t5, .bool t6, .float .f32 best, .float .f32 least, .bool ok, undef, g11, g12, g13, .slice (some ⟨b1, 0, none⟩) 1 1, .slice list_a list_n list_e, .slice a1 r1 r2, .slice (some ⟨b2, 0, none⟩) (1 + r1) 1, .int .i64 (1 + r1 : Int), .int .i64 t19, g20, g21, g22, g23, g24, g25, g26, g27, g28, g29, g30, g31, g32, g33, g34, g35, g36, g37, g38, g39, g40, g41, undef, undef, undef] H Q :=
  ⟨impl_BestLimit_I1 a1 b1 b2 list_a list_e list_n noise r1 r2 Inv, ν, ⟨t4, t5, t6, best, least, ok, t19, g11, g12, g13, g20, g21, g22, g23, g24, g25, g26, g27, g28, g29, g30, g31, g32, g33, g34, g35, g36, g37, g38, g39, g40, g41, rfl, h0⟩, fun μ tm H h => by obtain ⟨t4, t5, t6, best, least, ok, t19, g11, g12, g13, g20, g21, g22, g23, g24, g25, g26, g27, g28, g29, g30, g31, g32, g33, g34, g35, g36, g37, g38, g39, g40, g41, rfl, hI⟩ := h; exact hs μ t4 t5 t6 best least ok t19 g11 g12 g13 g20 g21 g22 g23 g24 g25 g26 g27 g28 g29 g30 g31 g32 g33 g34 g35 g36 g37 g38 g39 g40 g41 H hI⟩
theorem impl_BestLimit_n1 {a1 : Option Addr} {b1 : Nat} {b2 : Nat} {list_a : Option Addr} {list_e : Nat} {list_n : Nat} {noise : Nat} {r1 : Nat} {r2 : Nat} {Q : Post} {Inv : Nat → Nat → Nat → Bool → Nat → Nat → Bool → Int → AHeap → Prop} {μ : Nat} (μ' : Nat) {t4 : Nat} {t5 : Nat} {t6 : Bool} {best : Nat} {least : Nat} {ok : Bool} {t19 : Int} {g11 g12 g13 g20 g21 g22 g23 g24 g25 g26 g27 g28 g29 g30 g31 g32 g33 g34 g35 g36 g37 g38 g39 g40 g41 : Value} {H : AHeap} (hm : μ' < μ) (hI : Inv μ' t4 t5 t6 best least ok t19 H) : loopQ (impl_BestLimit_I1 a1 b1 b2 list_a list_e list_n noise r1 r2 Inv) μ Q .normal [.slice list_a list_n list_e, .float .f32 noise, undef, undef, .float .f32 t4, .float .f32 t5, .bool t6, .float .f32 best, .float .f32 least, .bool ok, undef, g11, g12, g13, .slice (some ⟨b1, 0, none⟩) 1 1, .slice list_a list_n list_e, .slice a1 r1 r2, .slice (some ⟨b2, 0, none⟩) (1 + r1) 1, .int .i64 (1 + r1 : Int), .int .i64 t19, g20, g21, g22, g23, g24, g25, g26, g27, g28, g29, g30, g31, g32, g33, g34, g35, g36, g37, g38, g39, g40, g41, undef, undef, undef] H := ⟨μ', hm, t4, t5, t6, best, least, ok, t19, g11, g12, g13, g20, g21, g22, g23, g24, g25, g26, g27, g28, g29, g30, g31, g32, g33, g34, g35, g36, g37, g38, g39, g40, g41, rfl, hI⟩
theorem impl_BestLimit_x1_0 (a1 : Option Addr) (b1 : Nat) (b2 : Nat) (list_a : Option Addr) (list_e : Nat) (list_n : Nat) (noise : Nat) (r1 : Nat) (r2 : Nat) (t4 : Nat) (t5 : Nat) (t6 : Bool) (best : Nat) (least : Nat) (ok : Bool) (t19 : Int) (g11 g12 g13 g20 g21 g22 g23 g24 g25 g26 g27 g28 g29 g30 g31 g32 g33 g34 g35 g36 g37 g38 g39 g40 g41 : Value) (H : AHeap) (K : Value → AHeap → Prop)  {I : Nat → List Value → AHeap → Prop} {μ : Nat} : loopQ I μ (blockQ 0 (seqQ (exK Try.prog E_impl_BestLimit (cr (cr (cr (bodyC Try.f47))))) (retK Try.prog Try.f47 K))) (.exit 0) [.slice list_a list_n list_e, .float .f32 noise, undef, undef, .float .f32 t4, .float .f32 t5, .bool t6, .float .f32 best, .float .f32 least, .bool ok, undef, g11, g12, g13, .slice (some ⟨b1, 0, none⟩) 1 1, .slice list_a list_n list_e, .slice a1 r1 r2, .slice (some ⟨b2, 0, none⟩) (1 + r1) 1, .int .i64 (1 + r1 : Int), .int .i64 t19, g20, g21, g22, g23, g24, g25, g26, g27, g28, g29, g30, g31, g32, g33, g34, g35, g36, g37, g38, g39, g40, g41, undef, undef, undef] H =
  (K (.tuple #[.float .f32 best, .float .f32 least, .bool ok]) H) := by kernel_rfl
theorem impl_BestLimit_x1_ret (a1 : Option Addr) (b1 : Nat) (b2 : Nat) (list_a : Option Addr) (list_e : Nat) (list_n : Nat) (noise : Nat) (r1 : Nat) (r2 : Nat) (t4 : Nat) (t5 : Nat) (t6 : Bool) (best : Nat) (least : Nat) (ok : Bool) (t19 : Int) (g11 g12 g13 g20 g21 g22 g23 g24 g25 g26 g27 g28 g29 g30 g31 g32 g33 g34 g35 g36 g37 g38 g39 g40 g41 : Value) (H : AHeap) (K : Value → AHeap → Prop)  {I : Nat → List Value → AHeap → Prop} {μ : Nat} : loopQ I μ (blockQ 0 (seqQ (exK Try.prog E_impl_BestLimit (cr (cr (cr (bodyC Try.f47))))) (retK Try.prog Try.f47 K))) .ret [.slice list_a list_n list_e, .float .f32 noise, undef, undef, .float .f32 t4, .float .f32 t5, .bool t6, .float .f32 best, .float .f32 least, .bool ok, undef, g11, g12, g13, .slice (some ⟨b1, 0, none⟩) 1 1, .slice list_a list_n list_e, .slice a1 r1 r2, .slice (some ⟨b2, 0, none⟩) (1 + r1) 1, .int .i64 (1 + r1 : Int), .int .i64 t19, g20, g21, g22, g23, g24, g25, g26, g27, g28, g29, g30, g31, g32, g33, g34, g35, g36, g37, g38, g39, g40, g41, undef, undef, undef] H =
  (K (.tuple #[.float .f32 t4, .float .f32 t5, .bool t6]) H) := by kernel_rfl
theorem E_impl_BestLimit_ok : ∀ g, FnOk Try.prog g (E_impl_BestLimit g) := FnOk.envOf (by
  intro x hx
  simp only [List.mem_cons, List.not_mem_nil, or_false] at hx
  rcases hx with rfl | rfl
  · exact impl_sizes_ok
  · exact impl_RiskOf_ok)
set_option maxHeartbeats 1000000 in
theorem impl_BestLimit_main (list_a : Option Addr) (list_n : Nat) (list_e : Nat) (noise : Nat) (H : AHeap) (K : Value → AHeap → Prop) (h : T_impl_BestLimit list_a list_n list_e noise H fun (r1 : Nat) (r2 : Nat) (r3 : Bool) (H' : AHeap) => K (.tuple #[.float .f32 r1, .float .f32 r2, .bool r3]) H') : bodyK Try.prog E_impl_BestLimit Try.f47 [.slice list_a list_n list_e, .float .f32 noise] H K := by
  rw [impl_BestLimit_vc]
  obtain ⟨l_list, i_list, bd_54, hk⟩ := h
  obtain rfl := i_list.eqn
  have e : (p_impl_BestLimit l_list noise) = _ := rfl
  have e := e.trans (p_impl_BestLimit_eq l_list noise)
  have g0 := Grow.refl H
  refine Al.intro (fun b_1 H_1 hb_2 hl_3 g_4 o_5 => ?_)
  have o_5 : Own H_1 b_1 (([0]).map fF) := o_5
  have l_7 := g_4.1
  have g_8 := g0.trans g_4
  have l_9 := g_8.1
  have w_53 := o_5.lt
  refine T_impl_sizes_i ⟨_, (i_list.grow g_8), (by first | omega | (simp only [List.length_set, List.length_replicate, List.length_append, List.length_cons, List.length_nil, List.length_take, List.length_drop, marks_length]; done) | (simp only [List.length_set, List.length_replicate, List.length_append, List.length_cons, List.length_nil, List.length_take, List.length_drop, marks_length]; omega)), fun a_10 n_11 e_12 H_2 g_15 r_13 => ?_⟩
  have z_14 := impl_sizes_len l_list
  have l_16 := g_15.1
  have g_17 := g_8.trans g_15
  have l_18 := g_17.1
  have o_19 := o_5.grow g_15
  have w_20 := o_19.lt
  obtain rfl := r_13.isL.eqn
  have u_21 := r_13.up
  have u_22 := r_13.lo
  refine ⟨_, _, o_19.ownB (by first | (simp only [List.length_map, List.length_cons, List.length_nil, List.length_append]; done) | (simp only [List.length_map, List.length_cons, List.length_nil, List.length_append]; omega)) rfl, (isl_rdS r_13.isL), (fun h => by cases h), (by have := most_eq; omega), ?_⟩
  refine Ap.app o_19 rfl rfl (fun b_28 H_3 q_51 hl_24 o_25 k_26 => ?_)
  have o_25 := map_snoc o_25
  have l_29 := k_26.1
  have g_30 := g_17.keep (b := b_1) (by omega) k_26
  have l_31 := g_30.1
  have r_32 := r_13.keep u_21 (by omega) k_26
  have w_52 := o_25.lt
  refine impl_BestLimit_L1 _ _ _ _ _ _ _ _ _ (fun (μ : Nat) (t4 : Nat) (t5 : Nat) (t6 : Bool) (best : Nat) (least : Nat) (ok : Bool) (t19 : Int) (H_4 : AHeap) => Own H_4 b_28 ((([0] ++ (p_impl_sizes l_list))).map fF) ∧ OwnS fF H_4 H_1.length a_10 (((p_impl_sizes l_list)).length) e_12 (p_impl_sizes l_list) ∧ Grow H H_4 ∧ (0 : Int) ≤ t19 ∧ t19 ≤ (1 + (((p_impl_sizes l_list)).length) : Int) ∧ (1 + (((p_impl_sizes l_list)).length) : Int) - t19 ≤ (μ : Int) ∧ p_impl_BestLimit l_list noise = p_impl_BestLimit_l1 l_list noise (μ + 1) t4 t5 t6 best least ok t19) (Int.toNat ((1 + (((p_impl_sizes l_list)).length) : Int) - (0 : Int))) _ _ _ _ _ _ _ _ _ _ _ _ _ _ _ _ _ _ _ _ _ _ _ _ _ _ _ _ _ _ _ _ H_3 ?_ ?_
  · exact ⟨o_25, r_32, g_30, (by first | omega | (simp; done) | (simp; omega)), (by first | omega | (simp; done) | (simp; omega)), (by omega), e⟩
  · intro μ t4 t5 t6 best least ok t19 g11 g12 g13 g20 g21 g22 g23 g24 g25 g26 g27 g28 g29 g30 g31 g32 g33 g34 g35 g36 g37 g38 g39 g40 g41 H_4 hI
    obtain ⟨o_33, r_34, g_35, v_36, v_37, hμ, e⟩ := hI
    rw [impl_BestLimit_r1]
    have e := e.trans (p_impl_BestLimit_l1_s l_list noise μ t4 t5 t6 best least ok t19)
    have w_38 := o_33.lt
    have l_39 := g_35.1
    refine Br.intro (fun c_40 => ?_) (fun c_40 => ?_)
    · have e := e.trans (cond_t c_40)
      have c_40' := of_decide_eq_true c_40
      refine ⟨by omega, (by omega), _, _, rfl, ?_⟩
      refine ⟨((([0] ++ (p_impl_sizes l_list))).getD (t19 : Int).toNat 0), o_33.rd (by first | omega | (simp only [List.length_set, List.length_replicate, List.length_append, List.length_cons, List.length_nil, List.length_take, List.length_drop, marks_length]; done) | (simp only [List.length_set, List.length_replicate, List.length_append, List.length_cons, List.length_nil, List.length_take, List.length_drop, marks_length]; omega)) _, ?_⟩
      refine T_impl_RiskOf_i ⟨_, (i_list.grow g_35), (by first | omega | (simp only [List.length_set, List.length_replicate, List.length_append, List.length_cons, List.length_nil, List.length_take, List.length_drop, marks_length]; done) | (simp only [List.length_set, List.length_replicate, List.length_append, List.length_cons, List.length_nil, List.length_take, List.length_drop, marks_length]; omega)), fun  H_5 g_41  => ?_⟩
      have l_42 := g_41.1
      have g_43 := g_35.trans g_41
      have l_44 := g_43.1
      have o_45 := o_33.grow g_41
      have w_46 := o_45.lt
      have r_47 := r_34.grow g_41
      refine Br.intro (fun c_48 => ?_) (fun c_48 => ?_)
      · have e := e.trans (cond_t c_48)
        have c_48n := nf_of_t c_48
        rw [impl_BestLimit_x1_ret]
        rw [e] at hk
        exact hk  H_5 g_43 
      · have e := e.trans (cond_f c_48)
        have c_48n := nt_of_f c_48
        refine Br.intro (fun c_49 => ?_) (fun c_49 => ?_)
        · have e := e.trans (cond_t c_49)
          have c_49n := nf_of_t c_49
          rw [show IntKind.wrap .i64 (t19 + 1) = (t19 + 1) from wrap64 (by omega) (by omega)]
          refine impl_BestLimit_n1 (μ - 1) (by omega) ⟨o_45, r_47, g_43, (by first | omega | (simp only [List.length_append, List.length_cons, List.length_nil, List.length_set]; done) | (simp only [List.length_append, List.length_cons, List.length_nil, List.length_set]; omega)), (by first | omega | (simp only [List.length_append, List.length_cons, List.length_nil, List.length_set]; done) | (simp only [List.length_append, List.length_cons, List.length_nil, List.length_set]; omega)), (by omega), (by rw [show μ - 1 + 1 = μ from by omega]; exact e)⟩
        · have e := e.trans (cond_f c_49)
          have c_49n := nt_of_f c_49
          refine Br.intro (fun c_50 => ?_) (fun c_50 => ?_)
          · have e := e.trans (cond_t c_50)
            rw [show IntKind.wrap .i64 (t19 + 1) = (t19 + 1) from wrap64 (by omega) (by omega)]
            refine impl_BestLimit_n1 (μ - 1) (by omega) ⟨o_45, r_47, g_43, (by first | omega | (simp only [List.length_append, List.length_cons, List.length_nil, List.length_set]; done) | (simp only [List.length_append, List.length_cons, List.length_nil, List.length_set]; omega)), (by first | omega | (simp only [List.length_append, List.length_cons, List.length_nil, List.length_set]; done) | (simp only [List.length_append, List.length_cons, List.length_nil, List.length_set]; omega)), (by omega), (by rw [show μ - 1 + 1 = μ from by omega]; exact e)⟩
          · have e := e.trans (cond_f c_50)
            rw [show IntKind.wrap .i64 (t19 + 1) = (t19 + 1) from wrap64 (by omega) (by omega)]
            refine impl_BestLimit_n1 (μ - 1) (by omega) ⟨o_45, r_47, g_43, (by first | omega | (simp only [List.length_append, List.length_cons, List.length_nil, List.length_set]; done) | (simp only [List.length_append, List.length_cons, List.length_nil, List.length_set]; omega)), (by first | omega | (simp only [List.length_append, List.length_cons, List.length_nil, List.length_set]; done) | (simp only [List.length_append, List.length_cons, List.length_nil, List.length_set]; omega)), (by omega), (by rw [show μ - 1 + 1 = μ from by omega]; exact e)⟩
    · have e := e.trans (cond_f c_40)
      have c_40' := of_decide_eq_false c_40
      rw [impl_BestLimit_x1_0]
      rw [e] at hk
      exact hk  H_4 g_35 
theorem impl_BestLimit_ok : FnOk Try.prog 47 S_impl_BestLimit := by
  refine FnOk.body mix_ok E_impl_BestLimit_ok Try.func47 rfl (by kernel_rfl) (by kernel_rfl) ?_ ?_ ?_ ?_ ?_
  · intro args H K K' h hk
    simp only [S_impl_BestLimit] at *
    unfold F_impl_BestLimit at *
    split at hk
    · obtain ⟨l_list, i_list, bd_54, k⟩ := hk
      exact ⟨l_list, i_list, bd_54, (fun  H' gg  => h _ _ (k  H' gg ))⟩
    · exact hk.elim
  · intro hq; cases hq
  · intro args H K hk
    simp only [S_impl_BestLimit] at *
    unfold F_impl_BestLimit at *
    split at hk
    · obtain ⟨l_list, i_list, bd_54, k⟩ := hk
      exact ⟨_, _, k H (Grow.refl H)⟩
    · exact hk.elim
  · intro _ args H K hk
    simp only [S_impl_BestLimit] at *
    unfold F_impl_BestLimit at *
    split at hk
    · obtain ⟨l_list, i_list, bd_54, k⟩ := hk
      exact ⟨l_list, i_list, bd_54, (fun  H' gg  => ⟨gg, k  H' gg ⟩)⟩
    · exact hk.elim
  · have mm := @impl_BestLimit_main
    revert mm
    generalize bodyK Try.prog E_impl_BestLimit Try.f47 = Q
    intro mm args H K hk
    simp only [S_impl_BestLimit] at *
    unfold F_impl_BestLimit at *
    split at hk
    · exact mm _ _ _ _ H K hk
    · exact hk.elim
def p_laws_sameFloat (a : Nat) (b : Nat) : Bool := (bif !(feq .f64 a a) then (bif !(feq .f64 a a) then !(feq .f64 b b) else false) else (bif !(feq .f64 b b) then (bif !(feq .f64 a a) then !(feq .f64 b b) else false) else (bif feq .f64 a 0 then (bif feq .f64 b 0 then (flt .f64 0 (fdiv .f64 4607182418800017408 a)) == (flt .f64 0 (fdiv .f64 4607182418800017408 b)) else feq .f64 a b) else feq .f64 a b)))
theorem p_laws_sameFloat_eq (a : Nat) (b : Nat) : p_laws_sameFloat a b = (bif !(feq .f64 a a) then (bif !(feq .f64 a a) then !(feq .f64 b b) else false) else (bif !(feq .f64 b b) then (bif !(feq .f64 a a) then !(feq .f64 b b) else false) else (bif feq .f64 a 0 then (bif feq .f64 b 0 then (flt .f64 0 (fdiv .f64 4607182418800017408 a)) == (flt .f64 0 (fdiv .f64 4607182418800017408 b)) else feq .f64 a b) else feq .f64 a b))) := rfl
def T_laws_sameFloat (a : Nat) (b : Nat) (H : AHeap) (K : Bool → AHeap → Prop) : Prop := K (p_laws_sameFloat a b) H

theorem T_laws_sameFloat_i {a : Nat} {b : Nat} {H : AHeap} {K : Bool → AHeap → Prop} (h : K (p_laws_sameFloat a b) H) : T_laws_sameFloat a b H K := h
/-! laws_sameFloat: function 30 -/
def E_laws_sameFloat : Env := envOf []
def F_laws_sameFloat : List Value → AHeap → (Value → AHeap → Prop) → Prop
  | [.float .f64 a, .float .f64 b], H, K => T_laws_sameFloat a b H fun (r1 : Bool) (H' : AHeap) => K (.bool r1) H'
  | _, _, _ => False
def S_laws_sameFloat : FSpec := { F := F_laws_sameFloat, quiet := true, tame := false }
theorem laws_sameFloat_vc (a : Nat) (b : Nat) (H : AHeap) (K : Value → AHeap → Prop) : bodyK Try.prog E_laws_sameFloat Try.f30 [.float .f64 a, .float .f64 b] H K =
  (Br (!(feq .f64 a a)) (Br (!(feq .f64 a a)) (K (.bool (!(feq .f64 b b))) H) (K (.bool false) H)) (Br (!(feq .f64 b b)) (Br (!(feq .f64 a a)) (K (.bool (!(feq .f64 b b))) H) (K (.bool false) H)) (Br (feq .f64 a 0) (Br (feq .f64 b 0) (K (.bool ((flt .f64 0 (fdiv .f64 4607182418800017408 a)) == (flt .f64 0 (fdiv .f64 4607182418800017408 b)))) H) (K (.bool (feq .f64 a b)) H)) (K (.bool (feq .f64 a b)) H)))) := by kernel_rfl
theorem E_laws_sameFloat_ok : ∀ g, FnOk Try.prog g (E_laws_sameFloat g) := FnOk.envOf (by
  intro x hx; cases hx)
set_option maxHeartbeats 1000000 in
theorem laws_sameFloat_main (a : Nat) (b : Nat) (H : AHeap) (K : Value → AHeap → Prop) (h : T_laws_sameFloat a b H fun (r1 : Bool) (H' : AHeap) => K (.bool r1) H') : bodyK Try.prog E_laws_sameFloat Try.f30 [.float .f64 a, .float .f64 b] H K := by
  rw [laws_sameFloat_vc]
  unfold T_laws_sameFloat p_laws_sameFloat at h
  repeat' (first | exact h | (exfalso; simp_all; done) | (refine ⟨by decide, ?_⟩) | (refine Br.intro (fun hb => ?_) (fun hb => ?_) <;> (try simp only [hb, cond_true, cond_false, Bool.not_true, Bool.not_false] at h)))
theorem laws_sameFloat_ok : FnOk Try.prog 30 S_laws_sameFloat := by
  refine FnOk.body mix_ok E_laws_sameFloat_ok Try.func30 rfl (by kernel_rfl) (by kernel_rfl) ?_ ?_ ?_ ?_ ?_
  · intro args H K K' h hk
    simp only [S_laws_sameFloat] at *
    unfold F_laws_sameFloat at *
    split at hk
    · have k := hk
      exact h _ _ k
    · exact hk.elim
  · intro _ args H K hk
    simp only [S_laws_sameFloat] at *
    unfold F_laws_sameFloat at *
    split at hk
    · have k := hk
      exact ⟨_, k, fun K' k' => k'⟩
    · exact hk.elim
  · intro args H K hk
    simp only [S_laws_sameFloat] at *
    unfold F_laws_sameFloat at *
    split at hk
    · have k := hk
      exact ⟨_, _, k⟩
    · exact hk.elim
  · intro hq; cases hq
  · have mm := @laws_sameFloat_main
    revert mm
    generalize bodyK Try.prog E_laws_sameFloat Try.f30 = Q
    intro mm args H K hk
    simp only [S_laws_sameFloat] at *
    unfold F_laws_sameFloat at *
    split at hk
    · exact mm _ _ H K hk
    · exact hk.elim
def p_laws_eqFloat32S_l1 (l_a : List Nat) (l_b : List Nat) : Nat → Bool → Int → Bool
  | 0, _, _ => false
  | μ + 1, t4, i => (bif decide ((i : Int) < (l_a.length : Int)) then (bif !((p_laws_sameFloat (fwide (((l_a).getD (i : Int).toNat 0))) (fwide (((l_b).getD (i : Int).toNat 0))))) then false else (p_laws_eqFloat32S_l1 l_a l_b μ t4 (i + 1))) else true)
theorem p_laws_eqFloat32S_l1_s (l_a : List Nat) (l_b : List Nat) (μ : Nat) (t4 : Bool) (i : Int) : p_laws_eqFloat32S_l1 l_a l_b (μ + 1) t4 i = (bif decide ((i : Int) < (l_a.length : Int)) then (bif !((p_laws_sameFloat (fwide (((l_a).getD (i : Int).toNat 0))) (fwide (((l_b).getD (i : Int).toNat 0))))) then false else (p_laws_eqFloat32S_l1 l_a l_b μ t4 (i + 1))) else true) := rfl
def p_laws_eqFloat32S (l_a : List Nat) (l_b : List Nat) : Bool := (bif ((l_a.length : Int) : Int) != (l_b.length : Int) then false else (p_laws_eqFloat32S_l1 l_a l_b (Int.toNat ((l_a.length : Int) - (0 : Int)) + 1) false (0 : Int)))
theorem p_laws_eqFloat32S_eq (l_a : List Nat) (l_b : List Nat) : p_laws_eqFloat32S l_a l_b = (bif ((l_a.length : Int) : Int) != (l_b.length : Int) then false else (p_laws_eqFloat32S_l1 l_a l_b (Int.toNat ((l_a.length : Int) - (0 : Int)) + 1) false (0 : Int))) := rfl
def T_laws_eqFloat32S (a_a : Option Addr) (a_n : Nat) (a_e : Nat) (b_a : Option Addr) (b_n : Nat) (b_e : Nat) (H : AHeap) (K : Bool → AHeap → Prop) : Prop := ∃ (l_a : List Nat), ∃ (l_b : List Nat), IsL fF H a_a a_n l_a ∧ IsL fF H b_a b_n l_b ∧ l_a.length < 1073741824 ∧ l_b.length < 1073741824 ∧ K (p_laws_eqFloat32S l_a l_b) H
theorem T_laws_eqFloat32S_i {a_a : Option Addr} {a_n : Nat} {a_e : Nat} {b_a : Option Addr} {b_n : Nat} {b_e : Nat} {H : AHeap} {K : Bool → AHeap → Prop} (h : ∃ (l_a : List Nat), ∃ (l_b : List Nat), IsL fF H a_a a_n l_a ∧ IsL fF H b_a b_n l_b ∧ l_a.length < 1073741824 ∧ l_b.length < 1073741824 ∧ K (p_laws_eqFloat32S l_a l_b) H) : T_laws_eqFloat32S a_a a_n a_e b_a b_n b_e H K := h
theorem laws_sameFloat_self (y : Nat) : p_laws_sameFloat y y = true := by
  rw [p_laws_sameFloat_eq]
  cases feq .f64 y y <;> simp
theorem laws_eqFloat32S_go (l : List Nat) : ∀ (μ : Nat) (t : Bool) (i : Nat), l.length - i < μ → p_laws_eqFloat32S_l1 l l μ t (i : Int) = true := by
  intro μ
  induction μ with
  | zero => intro t i h; omega
  | succ μ ih =>
    intro t i hm
    rw [p_laws_eqFloat32S_l1_s]
    by_cases h : i < l.length
    · rw [decide_eq_true (show (i : Int) < (l.length : Int) by omega), cond_true, laws_sameFloat_self]
      simp only [Bool.not_true, cond_false]
      exact ih t (i + 1) (by omega)
    · rw [decide_eq_false (show ¬ (i : Int) < (l.length : Int) by omega), cond_false]
theorem laws_eqFloat32S_self (l : List Nat) : p_laws_eqFloat32S l l = true := by
  rw [p_laws_eqFloat32S_eq]
  have h0 : ((l.length : Int) != (l.length : Int)) = false := by simp
  rw [h0, cond_false]
  exact laws_eqFloat32S_go l _ false 0 (by omega)
/-! laws_eqFloat32S: function 24 -/
def E_laws_eqFloat32S : Env := envOf [(30, S_laws_sameFloat)]
def F_laws_eqFloat32S : List Value → AHeap → (Value → AHeap → Prop) → Prop
  | [.slice a_a a_n a_e, .slice b_a b_n b_e], H, K => T_laws_eqFloat32S a_a a_n a_e b_a b_n b_e H fun (r1 : Bool) (H' : AHeap) => K (.bool r1) H'
  | _, _, _ => False
def S_laws_eqFloat32S : FSpec := { F := F_laws_eqFloat32S, quiet := true, tame := false }
theorem laws_eqFloat32S_vc (a_a : Option Addr) (a_n : Nat) (a_e : Nat) (b_a : Option Addr) (b_n : Nat) (b_e : Nat) (H : AHeap) (K : Value → AHeap → Prop) : bodyK Try.prog E_laws_eqFloat32S Try.f24 [.slice a_a a_n a_e, .slice b_a b_n b_e] H K =
  (Br (((a_n : Int) : Int) != (b_n : Int)) (K (.bool false) H) (loopK (exK Try.prog E_laws_eqFloat32S (cl (cl (cr (cl (cr (cr (bodyC Try.f24)))))))) [.slice a_a a_n a_e, .slice b_a b_n b_e, undef, undef, .bool false, .int .i64 0, .slice a_a a_n a_e, .int .i64 (a_n : Int), .slice b_a b_n b_e, .int .i64 (b_n : Int), .bool (((a_n : Int) : Int) != (b_n : Int)), undef, undef, undef, undef, undef, undef, undef, undef, undef, undef, undef, undef, undef, undef, undef, undef, undef, undef] H (blockQ 0 (seqQ (exK Try.prog E_laws_eqFloat32S (cr (cr (cr (bodyC Try.f24))))) (retK Try.prog Try.f24 K))))) := by kernel_rfl
theorem laws_eqFloat32S_r1 (a_a : Option Addr) (a_e : Nat) (a_n : Nat) (b_a : Option Addr) (b_e : Nat) (b_n : Nat) (t4 : Bool) (i : Int) (g11 g12 g13 g14 g15 g16 g17 g18 g19 g20 g21 g22 g23 g24 g25 g26 g27 g28 : Value) (H : AHeap) (R : Post) : exK Try.prog E_laws_eqFloat32S (cl (cl (cr (cl (cr (cr (bodyC Try.f24))))))) [.slice a_a a_n a_e, .slice b_a b_n b_e, undef, undef, .bool t4, .int .i64 i, .slice a_a a_n a_e, .int .i64 (a_n : Int), .slice b_a b_n b_e, .int .i64 (b_n : Int), .bool (((a_n : Int) : Int) != (b_n : Int)), g11, g12, g13, g14, g15, g16, g17, g18, g19, g20, g21, g22, g23, g24, g25, g26, g27, g28] H R =
  (Br (decide ((i : Int) < (a_n : Int))) ((0 : Int) ≤ i ∧ i < (a_n : Int) ∧ ∃ b1 f1, (a_a : Option Addr) = some ⟨b1, f1, none⟩ ∧ ∃ x1 : Nat,  rdC H b1 (f1 + (i : Int).toNat * 1) = some (.float .f32 x1) ∧ (0 : Int) ≤ i ∧ i < (b_n : Int) ∧ ∃ b2 f2, (b_a : Option Addr) = some ⟨b2, f2, none⟩ ∧ ∃ x2 : Nat,  rdC H b2 (f2 + (i : Int).toNat * 1) = some (.float .f32 x2) ∧ T_laws_sameFloat (fwide x1) (fwide x2) H fun (r1 : Bool) (H1 : AHeap) => Br (!r1) (R .ret [.slice a_a a_n a_e, .slice b_a b_n b_e, undef, undef, .bool false, .int .i64 i, .slice a_a a_n a_e, .int .i64 (a_n : Int), .slice b_a b_n b_e, .int .i64 (b_n : Int), .bool (((a_n : Int) : Int) != (b_n : Int)), .int .i64 i, .slice a_a a_n a_e, .int .i64 (a_n : Int), .bool (decide ((i : Int) < (a_n : Int))), g15, g16, .slice a_a a_n a_e, .int .i64 i, .pointer (some ⟨b1, f1 + (i : Int).toNat * 1, none⟩), .float .f32 x1, .float .f64 (fwide x1), .slice b_a b_n b_e, .int .i64 i, .pointer (some ⟨b2, f2 + (i : Int).toNat * 1, none⟩), .float .f32 x2, .float .f64 (fwide x2), .bool r1, .bool (!r1)] H1) (R .normal [.slice a_a a_n a_e, .slice b_a b_n b_e, undef, undef, .bool t4, .int .i64 (IntKind.wrap .i64 (i + 1)), .slice a_a a_n a_e, .int .i64 (a_n : Int), .slice b_a b_n b_e, .int .i64 (b_n : Int), .bool (((a_n : Int) : Int) != (b_n : Int)), .int .i64 i, .slice a_a a_n a_e, .int .i64 (a_n : Int), .bool (decide ((i : Int) < (a_n : Int))), .int .i64 i, .int .i64 (IntKind.wrap .i64 (i + 1)), .slice a_a a_n a_e, .int .i64 i, .pointer (some ⟨b1, f1 + (i : Int).toNat * 1, none⟩), .float .f32 x1, .float .f64 (fwide x1), .slice b_a b_n b_e, .int .i64 i, .pointer (some ⟨b2, f2 + (i : Int).toNat * 1, none⟩), .float .f32 x2, .float .f64 (fwide x2), .bool r1, .bool (!r1)] H1)) (R (.exit 0) [.slice a_a a_n a_e, .slice b_a b_n b_e, undef, undef, .bool t4, .int .i64 i, .slice a_a a_n a_e, .int .i64 (a_n : Int), .slice b_a b_n b_e, .int .i64 (b_n : Int), .bool (((a_n : Int) : Int) != (b_n : Int)), .int .i64 i, .slice a_a a_n a_e, .int .i64 (a_n : Int), .bool (decide ((i : Int) < (a_n : Int))), g15, g16, g17, g18, g19, g20, g21, g22, g23, g24, g25, g26, g27, g28] H)) := by kernel_rfl
def laws_eqFloat32S_I1 (a_a : Option Addr) (a_e : Nat) (a_n : Nat) (b_a : Option Addr) (b_e : Nat) (b_n : Nat) (Inv : Nat → Bool → Int → AHeap → Prop) : Nat → List Value → AHeap → Prop := fun μ tm H => ∃ (t4 : Bool), ∃ (i : Int), ∃ g11 g12 g13 g14 g15 g16 g17 g18 g19 g20 g21 g22 g23 g24 g25 g26 g27 g28, tm = [.slice a_a a_n a_e, .slice b_a b_n b_e, undef, undef, .bool t4, .int .i64 i, .slice a_a a_n a_e, .int .i64 (a_n : Int), .slice b_a b_n b_e, .int .i64 (b_n : Int), .bool (((a_n : Int) : Int) != (b_n : Int)), g11, g12, g13, g14, g15, g16, g17, g18, g19, g20, g21, g22, g23, g24, g25, g26, g27, g28] ∧ Inv μ t4 i H
theorem laws_eqFloat32S_L1 (a_a : Option Addr) (a_e : Nat) (a_n : Nat) (b_a : Option Addr) (b_e : Nat) (b_n : Nat) {Q : Post} (Inv : Nat → Bool → Int → AHeap → Prop) (ν : Nat) (t4 : Bool) (i : Int) (g11 g12 g13 g14 g15 g16 g17 g18 g19 g20 g21 g22 g23 g24 g25 g26 g27 g28 : Value) (H : AHeap) (h0 : Inv ν t4 i H)
    (hs : ∀ (μ : Nat) (t4 : Bool) (i : Int) (g11 g12 g13 g14 g15 g16 g17 g18 g19 g20 g21 g22 g23 g24 g25 g26 g27 g28 : Value) (H : AHeap), Inv μ t4 i H → exK Try.prog E_laws_eqFloat32S (cl (cl (cr (cl (cr (cr (bodyC Try.f24))))))) [.slice a_a a_n a_e, .slice b_a b_n b_e, undef, undef, .bool t4, .int .i64 i, .slice a_a a_n a_e, .int .i64 (a_n : Int), .slice b_a b_n b_e, .int .i64 (b_n : Int), .bool (((a_n : Int) : Int) != (b_n : Int)), g11, g12, g13, g14, g15, g16, g17, g18, g19, g20, g21, g22, g23, g24, g25, g26, g27, g28] H (loopQ (laws_eqFloat32S_I1 a_a a_e a_n b_a b_e b_n Inv) μ Q)) : loopK (exK Try.prog E_laws_eqFloat32S (cl (cl (cr (cl (cr (cr (bodyC Try.f24)))))))) [.slice a_a a_n a_e, .slice b_a b_n b_e, undef, undef, .bool t4, .int .i64 i, .slice a_a a_n a_e, .int .i64 (a_n : Int), .slice b_a b_n b_e, .int .i64 (b_n : Int), .bool (((a_n : Int) : Int) != (b_n : Int)), g11, g12, g13, g14, g15, g16, g17, g18, g19, g20, g21, g22, g23, g24, g25, g26, g27, g28] H Q :=
  ⟨laws_eqFloat32S_I1 a_a a_e a_n b_a b_e b_n Inv, ν, ⟨t4, i, g11, g12, g13, g14, g15, g16, g17, g18, g19, g20, g21, g22, g23, g24, g25, g26, g27, g28, rfl, h0⟩, fun μ tm H h => by obtain ⟨t4, i, g11, g12, g13, g14, g15, g16, g17, g18, g19, g20, g21, g22, g23, g24, g25, g26, g27, g28, rfl, hI⟩ := h; exact hs μ t4 i g11 g12 g13 g14 g15 g16 g17 g18 g19 g20 g21 g22 g23 g24 g25 g26 g27 g28 H hI⟩
theorem laws_eqFloat32S_n1 {a_a : Option Addr} {a_e : Nat} {a_n : Nat} {b_a : Option Addr} {b_e : Nat} {b_n : Nat} {Q : Post} {Inv : Nat → Bool → Int → AHeap → Prop} {μ : Nat} (μ' : Nat) {t4 : Bool} {i : Int} {g11 g12 g13 g14 g15 g16 g17 g18 g19 g20 g21 g22 g23 g24 g25 g26 g27 g28 : Value} {H : AHeap} (hm : μ' < μ) (hI : Inv μ' t4 i H) : loopQ (laws_eqFloat32S_I1 a_a a_e a_n b_a b_e b_n Inv) μ Q .normal [.slice a_a a_n a_e, .slice b_a b_n b_e, undef, undef, .bool t4, .int .i64 i, .slice a_a a_n a_e, .int .i64 (a_n : Int), .slice b_a b_n b_e, .int .i64 (b_n : Int), .bool (((a_n : Int) : Int) != (b_n : Int)), g11, g12, g13, g14, g15, g16, g17, g18, g19, g20, g21, g22, g23, g24, g25, g26, g27, g28] H := ⟨μ', hm, t4, i, g11, g12, g13, g14, g15, g16, g17, g18, g19, g20, g21, g22, g23, g24, g25, g26, g27, g28, rfl, hI⟩
theorem laws_eqFloat32S_x1_0 (a_a : Option Addr) (a_e : Nat) (a_n : Nat) (b_a : Option Addr) (b_e : Nat) (b_n : Nat) (t4 : Bool) (i : Int) (g11 g12 g13 g14 g15 g16 g17 g18 g19 g20 g21 g22 g23 g24 g25 g26 g27 g28 : Value) (H : AHeap) (K : Value → AHeap → Prop)  {I : Nat → List Value → AHeap → Prop} {μ : Nat} : loopQ I μ (blockQ 0 (seqQ (exK Try.prog E_laws_eqFloat32S (cr (cr (cr (bodyC Try.f24))))) (retK Try.prog Try.f24 K))) (.exit 0) [.slice a_a a_n a_e, .slice b_a b_n b_e, undef, undef, .bool t4, .int .i64 i, .slice a_a a_n a_e, .int .i64 (a_n : Int), .slice b_a b_n b_e, .int .i64 (b_n : Int), .bool (((a_n : Int) : Int) != (b_n : Int)), g11, g12, g13, g14, g15, g16, g17, g18, g19, g20, g21, g22, g23, g24, g25, g26, g27, g28] H =
  (K (.bool true) H) := by kernel_rfl
theorem laws_eqFloat32S_x1_ret (a_a : Option Addr) (a_e : Nat) (a_n : Nat) (b_a : Option Addr) (b_e : Nat) (b_n : Nat) (t4 : Bool) (i : Int) (g11 g12 g13 g14 g15 g16 g17 g18 g19 g20 g21 g22 g23 g24 g25 g26 g27 g28 : Value) (H : AHeap) (K : Value → AHeap → Prop)  {I : Nat → List Value → AHeap → Prop} {μ : Nat} : loopQ I μ (blockQ 0 (seqQ (exK Try.prog E_laws_eqFloat32S (cr (cr (cr (bodyC Try.f24))))) (retK Try.prog Try.f24 K))) .ret [.slice a_a a_n a_e, .slice b_a b_n b_e, undef, undef, .bool t4, .int .i64 i, .slice a_a a_n a_e, .int .i64 (a_n : Int), .slice b_a b_n b_e, .int .i64 (b_n : Int), .bool (((a_n : Int) : Int) != (b_n : Int)), g11, g12, g13, g14, g15, g16, g17, g18, g19, g20, g21, g22, g23, g24, g25, g26, g27, g28] H =
  (K (.bool t4) H) := by kernel_rfl
theorem E_laws_eqFloat32S_ok : ∀ g, FnOk Try.prog g (E_laws_eqFloat32S g) := FnOk.envOf (by
  intro x hx
  simp only [List.mem_cons, List.not_mem_nil, or_false] at hx
  subst hx; exact laws_sameFloat_ok)
set_option maxHeartbeats 1000000 in
theorem laws_eqFloat32S_main (a_a : Option Addr) (a_n : Nat) (a_e : Nat) (b_a : Option Addr) (b_n : Nat) (b_e : Nat) (H : AHeap) (K : Value → AHeap → Prop) (h : T_laws_eqFloat32S a_a a_n a_e b_a b_n b_e H fun (r1 : Bool) (H' : AHeap) => K (.bool r1) H') : bodyK Try.prog E_laws_eqFloat32S Try.f24 [.slice a_a a_n a_e, .slice b_a b_n b_e] H K := by
  rw [laws_eqFloat32S_vc]
  obtain ⟨l_a, l_b, i_a, i_b, bd_13, bd_14, hk⟩ := h
  obtain rfl := i_a.eqn
  obtain rfl := i_b.eqn
  have e : (p_laws_eqFloat32S l_a l_b) = _ := rfl
  have e := e.trans (p_laws_eqFloat32S_eq l_a l_b)
  have g0 := Grow.refl H
  refine Br.intro (fun c_1 => ?_) (fun c_1 => ?_)
  · have e := e.trans (cond_t c_1)
    have c_1' := ine_t c_1
    rw [e] at hk
    exact hk
  · have e := e.trans (cond_f c_1)
    have c_1' := ine_f c_1
    refine laws_eqFloat32S_L1 _ _ _ _ _ _ (fun (μ : Nat) (t4 : Bool) (i : Int) (H_1 : AHeap) => H = H_1 ∧ (0 : Int) ≤ i ∧ i ≤ (l_a.length : Int) ∧ (l_a.length : Int) - i ≤ (μ : Int) ∧ p_laws_eqFloat32S l_a l_b = p_laws_eqFloat32S_l1 l_a l_b (μ + 1) t4 i) (Int.toNat ((l_a.length : Int) - (0 : Int))) _ _ _ _ _ _ _ _ _ _ _ _ _ _ _ _ _ _ _ _ H ?_ ?_
    · exact ⟨rfl, (by first | omega | (simp; done) | (simp; omega)), (by first | omega | (simp; done) | (simp; omega)), (by omega), e⟩
    · intro μ t4 i g11 g12 g13 g14 g15 g16 g17 g18 g19 g20 g21 g22 g23 g24 g25 g26 g27 g28 H_1 hI
      obtain ⟨rfl, v_2, v_3, hμ, e⟩ := hI
      rw [laws_eqFloat32S_r1]
      have e := e.trans (p_laws_eqFloat32S_l1_s l_a l_b μ t4 i)
      have l_4 := g0.1
      refine Br.intro (fun c_5 => ?_) (fun c_5 => ?_)
      · have e := e.trans (cond_t c_5)
        have c_5' := of_decide_eq_true c_5
        obtain ⟨b_6, f_7, q_8⟩ := ((i_a.grow g0)).pos (by first | omega | (simp only [List.length_set, List.length_replicate, List.length_append, List.length_cons, List.length_nil, List.length_take, List.length_drop, marks_length]; done) | (simp only [List.length_set, List.length_replicate, List.length_append, List.length_cons, List.length_nil, List.length_take, List.length_drop, marks_length]; omega))
        refine ⟨by omega, by omega, b_6, f_7, q_8, ?_⟩
        refine ⟨((l_a).getD (i : Int).toNat 0), (i_a).rd g0 q_8 (by omega) _, ?_⟩
        obtain ⟨b_9, f_10, q_11⟩ := ((i_b.grow g0)).pos (by first | omega | (simp only [List.length_set, List.length_replicate, List.length_append, List.length_cons, List.length_nil, List.length_take, List.length_drop, marks_length]; done) | (simp only [List.length_set, List.length_replicate, List.length_append, List.length_cons, List.length_nil, List.length_take, List.length_drop, marks_length]; omega))
        refine ⟨by omega, by omega, b_9, f_10, q_11, ?_⟩
        refine ⟨((l_b).getD (i : Int).toNat 0), (i_b).rd g0 q_11 (by omega) _, ?_⟩
        refine T_laws_sameFloat_i ?_
        refine Br.intro (fun c_12 => ?_) (fun c_12 => ?_)
        · have e := e.trans (cond_t c_12)
          have c_12n := nf_of_t c_12
          rw [laws_eqFloat32S_x1_ret]
          rw [e] at hk
          exact hk
        · have e := e.trans (cond_f c_12)
          have c_12n := nt_of_f c_12
          rw [show IntKind.wrap .i64 (i + 1) = (i + 1) from wrap64 (by omega) (by omega)]
          refine laws_eqFloat32S_n1 (μ - 1) (by omega) ⟨rfl, (by first | omega | (simp only [List.length_append, List.length_cons, List.length_nil, List.length_set]; done) | (simp only [List.length_append, List.length_cons, List.length_nil, List.length_set]; omega)), (by first | omega | (simp only [List.length_append, List.length_cons, List.length_nil, List.length_set]; done) | (simp only [List.length_append, List.length_cons, List.length_nil, List.length_set]; omega)), (by omega), (by rw [show μ - 1 + 1 = μ from by omega]; exact e)⟩
      · have e := e.trans (cond_f c_5)
        have c_5' := of_decide_eq_false c_5
        rw [laws_eqFloat32S_x1_0]
        rw [e] at hk
        exact hk
theorem laws_eqFloat32S_ok : FnOk Try.prog 24 S_laws_eqFloat32S := by
  refine FnOk.body mix_ok E_laws_eqFloat32S_ok Try.func24 rfl (by kernel_rfl) (by kernel_rfl) ?_ ?_ ?_ ?_ ?_
  · intro args H K K' h hk
    simp only [S_laws_eqFloat32S] at *
    unfold F_laws_eqFloat32S at *
    split at hk
    · obtain ⟨l_a, l_b, i_a, i_b, bd_13, bd_14, k⟩ := hk
      exact ⟨l_a, l_b, i_a, i_b, bd_13, bd_14, h _ _ k⟩
    · exact hk.elim
  · intro _ args H K hk
    simp only [S_laws_eqFloat32S] at *
    unfold F_laws_eqFloat32S at *
    split at hk
    · obtain ⟨l_a, l_b, i_a, i_b, bd_13, bd_14, k⟩ := hk
      exact ⟨_, k, fun K' k' => ⟨l_a, l_b, i_a, i_b, bd_13, bd_14, k'⟩⟩
    · exact hk.elim
  · intro args H K hk
    simp only [S_laws_eqFloat32S] at *
    unfold F_laws_eqFloat32S at *
    split at hk
    · obtain ⟨l_a, l_b, i_a, i_b, bd_13, bd_14, k⟩ := hk
      exact ⟨_, _, k⟩
    · exact hk.elim
  · intro hq; cases hq
  · have mm := @laws_eqFloat32S_main
    revert mm
    generalize bodyK Try.prog E_laws_eqFloat32S Try.f24 = Q
    intro mm args H K hk
    simp only [S_laws_eqFloat32S] at *
    unfold F_laws_eqFloat32S at *
    split at hk
    · exact mm _ _ _ _ _ _ H K hk
    · exact hk.elim
end Go.Proofs.Ytfofkmlohmodeab.Ai
